/- Part 12 of the texts behind the row. -/
import Derived.Test.YtdgdoeknpakmlaaGreatB1c1764b2b9
set_option linter.unusedVariables false
set_option linter.unusedSimpArgs false
namespace Go.Proofs.YtdgdoeknpakmlaaGreat.Den
open Go Go.RowKit
set_option linter.unusedVariables false
set_option linter.unusedSimpArgs false
def cmp_isNaN_int_T (fuel : Nat) : Tab := Tab.of [] []
abbrev cmp_isNaN_int_ps : List Pm := [{ cs := [(I6, false)], ag := false }]
abbrev cmp_isNaN_int_rs : List Pm := [{ cs := [(Kd.bool, false)], ag := false }]
def cmp_isNaN_int_ann : List Norm := []
noncomputable def cmp_isNaN_int_c : C := irOf Tryz.prog Tryz.f200 [] cmp_isNaN_int_ann []
theorem cmp_isNaN_int_l : lightC Tryz.prog [] Tryz.f200.ntmps cmp_isNaN_int_ann [] 0 (bodyOf Tryz.f200) = some (cmp_isNaN_int_c, 0) := by kernel_rfl
def cmp_isNaN_int_rv : List (Nat × Option (Nat × Bool)) := [(2, none)]
def cmp_isNaN_int_pre (fuel : Nat) (x0 : Int) : Option ((Bool × Unit) × Unit) :=
 some (((x0 != x0, ()), ()))
def cmp_isNaN_int_fn (fuel : Nat) (x : ((Int × Unit) × Unit)) : Option ((Bool × Unit) × Unit) := cmp_isNaN_int_pre fuel x.1.1
theorem cmp_isNaN_int_run (fuel : Nat) (x : PsT cmp_isNaN_int_ps) : run (cmp_isNaN_int_T fuel) 0 fuel cmp_isNaN_int_c (env0 (svPs cmp_isNaN_int_ps x) 0) [] (endF cmp_isNaN_int_rv cmp_isNaN_int_rs) = cmp_isNaN_int_fn fuel x := by kernel_rfl
def cmp_isNaN_int_tf (fuel : Nat) : TF := ⟨cmp_isNaN_int_ps, cmp_isNaN_int_rs, true, cmp_isNaN_int_fn fuel⟩
theorem cmp_isNaN_int_spec (fuel : Nat) : FnSpec Tryz.prog 200 (cmp_isNaN_int_tf fuel) :=
  fn_spec (T := cmp_isNaN_int_T fuel) (c := bodyOf Tryz.f200) (fn := Tryz.f200) (TabOK.of (entNil) (methNil)) mixed (by kernel_rfl) (by kernel_rfl) cmp_isNaN_int_l (by kernel_rfl) (Nat.le_of_ble_eq_true (by kernel_rfl)) (rv := cmp_isNaN_int_rv) (by kernel_rfl) (cmp_isNaN_int_run fuel)
theorem cmp_isNaN_int_ok (fuel : Nat) : EntryOK Tryz.prog 200 (cmp_isNaN_int_tf fuel).te := EntryOK.tf rfl (cmp_isNaN_int_spec fuel) (isFn (fn := Tryz.f200) (by kernel_rfl) (by kernel_rfl) (by kernel_rfl))
def cmp_Compare_int_T (fuel : Nat) : Tab := Tab.of [(200, (cmp_isNaN_int_tf fuel).te)] []
abbrev cmp_Compare_int_ps : List Pm := [{ cs := [(I6, false)], ag := false }, { cs := [(I6, false)], ag := false }]
abbrev cmp_Compare_int_rs : List Pm := [{ cs := [(I6, false)], ag := false }]
def cmp_Compare_int_ann : List Norm := []
noncomputable def cmp_Compare_int_c : C := irOf Tryz.prog Tryz.f197 [] cmp_Compare_int_ann []
theorem cmp_Compare_int_l : lightC Tryz.prog [] Tryz.f197.ntmps cmp_Compare_int_ann [] 0 (bodyOf Tryz.f197) = some (cmp_Compare_int_c, 0) := by kernel_rfl
def cmp_Compare_int_rv : List (Nat × Option (Nat × Bool)) := [(4, none)]
def cmp_Compare_int_pre (fuel : Nat) (x0 : Int) (x1 : Int) : Option ((Int × Unit) × Unit) :=
 Option.bind (cmp_isNaN_int_fn fuel ((x0, ()), ())) fun y_1 =>
 Option.bind (cmp_isNaN_int_fn fuel ((x1, ()), ())) fun y_2 =>
  cond (y_1.1.1)
   (cond (y_2.1.1)
    (some ((((0 : Int), ()), ())))
    (some ((((-1 : Int), ()), ()))))
   (cond (y_2.1.1)
    (some ((((1 : Int), ()), ())))
    (cond (decide (x0 < x1))
     (some ((((-1 : Int), ()), ())))
     (cond (decide (x0 > x1))
      (some ((((1 : Int), ()), ())))
      (some ((((0 : Int), ()), ()))))))
def cmp_Compare_int_fn (fuel : Nat) (x : ((Int × Unit) × ((Int × Unit) × Unit))) : Option ((Int × Unit) × Unit) := cmp_Compare_int_pre fuel x.1.1 x.2.1.1
theorem cmp_Compare_int_run (fuel : Nat) (x : PsT cmp_Compare_int_ps) : run (cmp_Compare_int_T fuel) 0 fuel cmp_Compare_int_c (env0 (svPs cmp_Compare_int_ps x) 0) [] (endF cmp_Compare_int_rv cmp_Compare_int_rs) = cmp_Compare_int_fn fuel x := by kernel_rfl
def cmp_Compare_int_tf (fuel : Nat) : TF := ⟨cmp_Compare_int_ps, cmp_Compare_int_rs, true, cmp_Compare_int_fn fuel⟩
theorem cmp_Compare_int_spec (fuel : Nat) : FnSpec Tryz.prog 197 (cmp_Compare_int_tf fuel) :=
  fn_spec (T := cmp_Compare_int_T fuel) (c := bodyOf Tryz.f197) (fn := Tryz.f197) (TabOK.of (entCons (cmp_isNaN_int_ok fuel) entNil) (methNil)) mixed (by kernel_rfl) (by kernel_rfl) cmp_Compare_int_l (by kernel_rfl) (Nat.le_of_ble_eq_true (by kernel_rfl)) (rv := cmp_Compare_int_rv) (by kernel_rfl) (cmp_Compare_int_run fuel)
theorem cmp_Compare_int_ok (fuel : Nat) : EntryOK Tryz.prog 197 (cmp_Compare_int_tf fuel).te := EntryOK.tf rfl (cmp_Compare_int_spec fuel) (isFn (fn := Tryz.f197) (by kernel_rfl) (by kernel_rfl) (by kernel_rfl))
def impl_Pair_byThing_T (fuel : Nat) : Tab := Tab.of [(197, (cmp_Compare_int_tf fuel).te)] []
abbrev impl_Pair_byThing_ps : List Pm := [{ cs := [(I6, false), (I6, false)], ag := true }, { cs := [(I6, false), (I6, false)], ag := true }]
abbrev impl_Pair_byThing_rs : List Pm := [{ cs := [(I6, false)], ag := false }]
def impl_Pair_byThing_ann : List Norm := []
noncomputable def impl_Pair_byThing_c : C := irOf Tryz.prog Tryz.f193 [] impl_Pair_byThing_ann []
theorem impl_Pair_byThing_l : lightC Tryz.prog [] Tryz.f193.ntmps impl_Pair_byThing_ann [] 0 (bodyOf Tryz.f193) = some (impl_Pair_byThing_c, 0) := by kernel_rfl
def impl_Pair_byThing_rv : List (Nat × Option (Nat × Bool)) := [(4, none)]
def impl_Pair_byThing_pre (fuel : Nat) (x0 : Int) (x1 : Int) (x2 : Int) (x3 : Int) : Option ((Int × Unit) × Unit) :=
 Option.bind (cmp_Compare_int_fn fuel ((x0, ()), (x2, ()), ())) fun y_1 =>
 some (((y_1.1.1, ()), ()))
def impl_Pair_byThing_fn (fuel : Nat) (x : ((Int × (Int × Unit)) × ((Int × (Int × Unit)) × Unit))) : Option ((Int × Unit) × Unit) := impl_Pair_byThing_pre fuel x.1.1 x.1.2.1 x.2.1.1 x.2.1.2.1
theorem impl_Pair_byThing_run (fuel : Nat) (x : PsT impl_Pair_byThing_ps) : run (impl_Pair_byThing_T fuel) 0 fuel impl_Pair_byThing_c (env0 (svPs impl_Pair_byThing_ps x) 0) [] (endF impl_Pair_byThing_rv impl_Pair_byThing_rs) = impl_Pair_byThing_fn fuel x := by kernel_rfl
def impl_Pair_byThing_tf (fuel : Nat) : TF := ⟨impl_Pair_byThing_ps, impl_Pair_byThing_rs, true, impl_Pair_byThing_fn fuel⟩
theorem impl_Pair_byThing_spec (fuel : Nat) : FnSpec Tryz.prog 193 (impl_Pair_byThing_tf fuel) :=
  fn_spec (T := impl_Pair_byThing_T fuel) (c := bodyOf Tryz.f193) (fn := Tryz.f193) (TabOK.of (entCons (cmp_Compare_int_ok fuel) entNil) (methNil)) mixed (by kernel_rfl) (by kernel_rfl) impl_Pair_byThing_l (by kernel_rfl) (Nat.le_of_ble_eq_true (by kernel_rfl)) (rv := impl_Pair_byThing_rv) (by kernel_rfl) (impl_Pair_byThing_run fuel)
theorem impl_Pair_byThing_ok (fuel : Nat) : EntryOK Tryz.prog 193 (impl_Pair_byThing_tf fuel).te := EntryOK.tf rfl (impl_Pair_byThing_spec fuel) (isFn (fn := Tryz.f193) (by kernel_rfl) (by kernel_rfl) (by kernel_rfl))
def impl_Pair_byNum_T (fuel : Nat) : Tab := Tab.of [(197, (cmp_Compare_int_tf fuel).te)] []
abbrev impl_Pair_byNum_ps : List Pm := [{ cs := [(I6, false), (I6, false)], ag := true }, { cs := [(I6, false), (I6, false)], ag := true }]
abbrev impl_Pair_byNum_rs : List Pm := [{ cs := [(I6, false)], ag := false }]
def impl_Pair_byNum_ann : List Norm := []
noncomputable def impl_Pair_byNum_c : C := irOf Tryz.prog Tryz.f194 [] impl_Pair_byNum_ann []
theorem impl_Pair_byNum_l : lightC Tryz.prog [] Tryz.f194.ntmps impl_Pair_byNum_ann [] 0 (bodyOf Tryz.f194) = some (impl_Pair_byNum_c, 0) := by kernel_rfl
def impl_Pair_byNum_rv : List (Nat × Option (Nat × Bool)) := [(4, none)]
def impl_Pair_byNum_pre (fuel : Nat) (x0 : Int) (x1 : Int) (x2 : Int) (x3 : Int) : Option ((Int × Unit) × Unit) :=
 Option.bind (cmp_Compare_int_fn fuel ((x3, ()), (x1, ()), ())) fun y_1 =>
 some (((y_1.1.1, ()), ()))
def impl_Pair_byNum_fn (fuel : Nat) (x : ((Int × (Int × Unit)) × ((Int × (Int × Unit)) × Unit))) : Option ((Int × Unit) × Unit) := impl_Pair_byNum_pre fuel x.1.1 x.1.2.1 x.2.1.1 x.2.1.2.1
theorem impl_Pair_byNum_run (fuel : Nat) (x : PsT impl_Pair_byNum_ps) : run (impl_Pair_byNum_T fuel) 0 fuel impl_Pair_byNum_c (env0 (svPs impl_Pair_byNum_ps x) 0) [] (endF impl_Pair_byNum_rv impl_Pair_byNum_rs) = impl_Pair_byNum_fn fuel x := by kernel_rfl
def impl_Pair_byNum_tf (fuel : Nat) : TF := ⟨impl_Pair_byNum_ps, impl_Pair_byNum_rs, true, impl_Pair_byNum_fn fuel⟩
theorem impl_Pair_byNum_spec (fuel : Nat) : FnSpec Tryz.prog 194 (impl_Pair_byNum_tf fuel) :=
  fn_spec (T := impl_Pair_byNum_T fuel) (c := bodyOf Tryz.f194) (fn := Tryz.f194) (TabOK.of (entCons (cmp_Compare_int_ok fuel) entNil) (methNil)) mixed (by kernel_rfl) (by kernel_rfl) impl_Pair_byNum_l (by kernel_rfl) (Nat.le_of_ble_eq_true (by kernel_rfl)) (rv := impl_Pair_byNum_rv) (by kernel_rfl) (impl_Pair_byNum_run fuel)
theorem impl_Pair_byNum_ok (fuel : Nat) : EntryOK Tryz.prog 194 (impl_Pair_byNum_tf fuel).te := EntryOK.tf rfl (impl_Pair_byNum_spec fuel) (isFn (fn := Tryz.f194) (by kernel_rfl) (by kernel_rfl) (by kernel_rfl))
abbrev slices_insertionSortCmpFunc_impl_Pair_v0_R := Option (LP × Unit)
def slices_insertionSortCmpFunc_impl_Pair_v0_T (fuel : Nat) : Tab := Tab.of [(193, (impl_Pair_byThing_tf fuel).te), (194, (impl_Pair_byNum_tf fuel).te)] []
abbrev slices_insertionSortCmpFunc_impl_Pair_v0_ps : Sh := (.cell I6 0 (.cell I6 0 (.fnc 193 .nil)))
abbrev slices_insertionSortCmpFunc_impl_Pair_v0_rs : List Pm := []
def slices_insertionSortCmpFunc_impl_Pair_v0_ann : List Norm := [{ live := [8, 2, 1, 3, 0], fix := [] }, { live := [9, 1, 3, 0, 8, 2], fix := [] }]
noncomputable def slices_insertionSortCmpFunc_impl_Pair_v0_c : C := irOf Tryz.prog Tryz.f201 [] slices_insertionSortCmpFunc_impl_Pair_v0_ann []
theorem slices_insertionSortCmpFunc_impl_Pair_v0_l : lightC Tryz.prog [] Tryz.f201.ntmps slices_insertionSortCmpFunc_impl_Pair_v0_ann [] 0 (bodyOf Tryz.f201) = some (slices_insertionSortCmpFunc_impl_Pair_v0_c, 2) := by kernel_rfl
def slices_insertionSortCmpFunc_impl_Pair_v0_rv : List (Nat × Option (Nat × Bool)) := []
abbrev slices_insertionSortCmpFunc_impl_Pair_v0_V0 := (Int) × (Int) × (Int) × LP
abbrev slices_insertionSortCmpFunc_impl_Pair_v0_V1 := (Int) × (Int) × (Int) × (Int) × LP
def slices_insertionSortCmpFunc_impl_Pair_v0_enc0 (v : slices_insertionSortCmpFunc_impl_Pair_v0_V0) : Env × Heap := ([(8, SV.int .i64 v.1), (2, SV.int .i64 v.2.1), (1, SV.int .i64 v.2.2.1), (3, SV.fn (Fn.func 193) [] []), (0, SV.own 0)], [Blk.arr KP v.2.2.2 0])
def slices_insertionSortCmpFunc_impl_Pair_v0_enc1 (v : slices_insertionSortCmpFunc_impl_Pair_v0_V1) : Env × Heap := ([(9, SV.int .i64 v.1), (1, SV.int .i64 v.2.1), (3, SV.fn (Fn.func 193) [] []), (0, SV.own 0), (8, SV.int .i64 v.2.2.1), (2, SV.int .i64 v.2.2.2.1)], [Blk.arr KP v.2.2.2.2 0])
def slices_insertionSortCmpFunc_impl_Pair_v0_step1 (fuel : Nat) (g0 : slices_insertionSortCmpFunc_impl_Pair_v0_V0 → slices_insertionSortCmpFunc_impl_Pair_v0_R) (g1 : slices_insertionSortCmpFunc_impl_Pair_v0_V1 → slices_insertionSortCmpFunc_impl_Pair_v0_R) (v : slices_insertionSortCmpFunc_impl_Pair_v0_V1) : slices_insertionSortCmpFunc_impl_Pair_v0_R :=
 cond (decide (v.1 > v.2.1))
 (tst (decide (0 ≤ v.1)) <|
  tst (decide (v.1 < (zz (List.length v.2.2.2.2)))) <|
  tst (decide (Int.toNat v.1 < List.length v.2.2.2.2)) <|
  tst (decide (0 ≤ w64 (v.1 - (1 : Int)))) <|
  tst (decide (w64 (v.1 - (1 : Int)) < (zz (List.length v.2.2.2.2)))) <|
  tst (decide (Int.toNat (w64 (v.1 - (1 : Int))) < List.length v.2.2.2.2)) <|
  Option.bind (impl_Pair_byThing_fn fuel (((List.getD v.2.2.2.2 (Int.toNat v.1) (0, (0, ()))).1, (List.getD v.2.2.2.2 (Int.toNat v.1) (0, (0, ()))).2.1, ()), ((List.getD v.2.2.2.2 (Int.toNat (w64 (v.1 - (1 : Int)))) (0, (0, ()))).1, (List.getD v.2.2.2.2 (Int.toNat (w64 (v.1 - (1 : Int)))) (0, (0, ()))).2.1, ()), ())) fun y_2 =>
  cond (decide (y_2.1.1 < (0 : Int)))
   (tst (decide (0 ≤ w64 (v.1 - (1 : Int)))) <|
    tst (decide (w64 (v.1 - (1 : Int)) < (zz (List.length v.2.2.2.2)))) <|
    tst (decide (Int.toNat (w64 (v.1 - (1 : Int))) < List.length v.2.2.2.2)) <|
    tst (decide (0 ≤ v.1)) <|
    tst (decide (v.1 < (zz (List.length v.2.2.2.2)))) <|
    tst (decide (Int.toNat v.1 < List.length v.2.2.2.2)) <|
    tst (decide (0 ≤ v.1)) <|
    tst (decide (v.1 < (zz (List.length v.2.2.2.2)))) <|
    tst (decide (Int.toNat v.1 < List.length v.2.2.2.2)) <|
    tst (decide (0 ≤ w64 (v.1 - (1 : Int)))) <|
    tst (decide (w64 (v.1 - (1 : Int)) < (zz (List.length (List.set v.2.2.2.2 (Int.toNat v.1) ((List.getD v.2.2.2.2 (Int.toNat (w64 (v.1 - (1 : Int)))) (0, (0, ()))).1, (List.getD v.2.2.2.2 (Int.toNat (w64 (v.1 - (1 : Int)))) (0, (0, ()))).2.1, ())))))) <|
    tst (decide (Int.toNat (w64 (v.1 - (1 : Int))) < List.length (List.set v.2.2.2.2 (Int.toNat v.1) ((List.getD v.2.2.2.2 (Int.toNat (w64 (v.1 - (1 : Int)))) (0, (0, ()))).1, (List.getD v.2.2.2.2 (Int.toNat (w64 (v.1 - (1 : Int)))) (0, (0, ()))).2.1, ())))) <|
    g1 (w64 (v.1 - (1 : Int)), v.2.1, v.2.2.1, v.2.2.2.1, List.set (List.set v.2.2.2.2 (Int.toNat v.1) ((List.getD v.2.2.2.2 (Int.toNat (w64 (v.1 - (1 : Int)))) (0, (0, ()))).1, (List.getD v.2.2.2.2 (Int.toNat (w64 (v.1 - (1 : Int)))) (0, (0, ()))).2.1, ())) (Int.toNat (w64 (v.1 - (1 : Int)))) ((List.getD v.2.2.2.2 (Int.toNat v.1) (0, (0, ()))).1, (List.getD v.2.2.2.2 (Int.toNat v.1) (0, (0, ()))).2.1, ())))
   (g0 (w64 (v.2.2.1 + (1 : Int)), v.2.2.2.1, v.2.1, v.2.2.2.2)))
 (g0 (w64 (v.2.2.1 + (1 : Int)), v.2.2.2.1, v.2.1, v.2.2.2.2))
def slices_insertionSortCmpFunc_impl_Pair_v0_st1 (fuel : Nat) (g0 : slices_insertionSortCmpFunc_impl_Pair_v0_V0 → slices_insertionSortCmpFunc_impl_Pair_v0_R) (g1 : slices_insertionSortCmpFunc_impl_Pair_v0_V1 → slices_insertionSortCmpFunc_impl_Pair_v0_R) : slices_insertionSortCmpFunc_impl_Pair_v0_V1 → slices_insertionSortCmpFunc_impl_Pair_v0_R := slices_insertionSortCmpFunc_impl_Pair_v0_step1 fuel g0 g1
theorem slices_insertionSortCmpFunc_impl_Pair_v0_lp1 (fuel : Nat) (G) : slices_insertionSortCmpFunc_impl_Pair_v0_c.lp (slices_insertionSortCmpFunc_impl_Pair_v0_T fuel) 1 fuel G (endS slices_insertionSortCmpFunc_impl_Pair_v0_rv KP false slices_insertionSortCmpFunc_impl_Pair_v0_rs) 1 slices_insertionSortCmpFunc_impl_Pair_v0_enc1 = iter (slices_insertionSortCmpFunc_impl_Pair_v0_st1 fuel (fun v => G 0 (slices_insertionSortCmpFunc_impl_Pair_v0_enc0 v).1 (slices_insertionSortCmpFunc_impl_Pair_v0_enc0 v).2)) fuel := C.lp_iter fun g v =>
  (show run (slices_insertionSortCmpFunc_impl_Pair_v0_T fuel) 1 fuel (slices_insertionSortCmpFunc_impl_Pair_v0_c.bdAt 1) (slices_insertionSortCmpFunc_impl_Pair_v0_enc1 v).1 (slices_insertionSortCmpFunc_impl_Pair_v0_enc1 v).2 (loopK 1 (slices_insertionSortCmpFunc_impl_Pair_v0_c.nmAt 1) g (slices_insertionSortCmpFunc_impl_Pair_v0_c.contAt (slices_insertionSortCmpFunc_impl_Pair_v0_T fuel) 1 fuel G 0 1 (endS slices_insertionSortCmpFunc_impl_Pair_v0_rv KP false slices_insertionSortCmpFunc_impl_Pair_v0_rs))) = slices_insertionSortCmpFunc_impl_Pair_v0_step1 fuel (fun v => G 0 (slices_insertionSortCmpFunc_impl_Pair_v0_enc0 v).1 (slices_insertionSortCmpFunc_impl_Pair_v0_enc0 v).2) (fun v => g (slices_insertionSortCmpFunc_impl_Pair_v0_enc1 v).1 (slices_insertionSortCmpFunc_impl_Pair_v0_enc1 v).2) v by kernel_rfl)
def slices_insertionSortCmpFunc_impl_Pair_v0_step0 (fuel : Nat) (X1 : slices_insertionSortCmpFunc_impl_Pair_v0_V1 → slices_insertionSortCmpFunc_impl_Pair_v0_R) (g0 : slices_insertionSortCmpFunc_impl_Pair_v0_V0 → slices_insertionSortCmpFunc_impl_Pair_v0_R) (v : slices_insertionSortCmpFunc_impl_Pair_v0_V0) : slices_insertionSortCmpFunc_impl_Pair_v0_R :=
 cond (decide (v.1 < v.2.1))
 (X1 (v.1, v.2.2.1, v.1, v.2.1, v.2.2.2))
 (some ((v.2.2.2, ())))
def slices_insertionSortCmpFunc_impl_Pair_v0_st0 (fuel : Nat) (g0 : slices_insertionSortCmpFunc_impl_Pair_v0_V0 → slices_insertionSortCmpFunc_impl_Pair_v0_R) : slices_insertionSortCmpFunc_impl_Pair_v0_V0 → slices_insertionSortCmpFunc_impl_Pair_v0_R := slices_insertionSortCmpFunc_impl_Pair_v0_step0 fuel (iter (slices_insertionSortCmpFunc_impl_Pair_v0_st1 fuel g0) fuel) g0
theorem slices_insertionSortCmpFunc_impl_Pair_v0_lp0 (fuel : Nat) (G) : slices_insertionSortCmpFunc_impl_Pair_v0_c.lp (slices_insertionSortCmpFunc_impl_Pair_v0_T fuel) 1 fuel G (endS slices_insertionSortCmpFunc_impl_Pair_v0_rv KP false slices_insertionSortCmpFunc_impl_Pair_v0_rs) 0 slices_insertionSortCmpFunc_impl_Pair_v0_enc0 = iter (slices_insertionSortCmpFunc_impl_Pair_v0_st0 fuel) fuel := C.lp_iter fun g v =>
  (show run (slices_insertionSortCmpFunc_impl_Pair_v0_T fuel) 1 fuel (slices_insertionSortCmpFunc_impl_Pair_v0_c.bdAt 0) (slices_insertionSortCmpFunc_impl_Pair_v0_enc0 v).1 (slices_insertionSortCmpFunc_impl_Pair_v0_enc0 v).2 (loopK 1 (slices_insertionSortCmpFunc_impl_Pair_v0_c.nmAt 0) g (slices_insertionSortCmpFunc_impl_Pair_v0_c.contAt (slices_insertionSortCmpFunc_impl_Pair_v0_T fuel) 1 fuel G 0 0 (endS slices_insertionSortCmpFunc_impl_Pair_v0_rv KP false slices_insertionSortCmpFunc_impl_Pair_v0_rs))) = slices_insertionSortCmpFunc_impl_Pair_v0_step0 fuel (slices_insertionSortCmpFunc_impl_Pair_v0_c.lp (slices_insertionSortCmpFunc_impl_Pair_v0_T fuel) 1 fuel (fun m => bif Nat.beq m 0 then g else G m) (endS slices_insertionSortCmpFunc_impl_Pair_v0_rv KP false slices_insertionSortCmpFunc_impl_Pair_v0_rs) 1 slices_insertionSortCmpFunc_impl_Pair_v0_enc1) (fun v => g (slices_insertionSortCmpFunc_impl_Pair_v0_enc0 v).1 (slices_insertionSortCmpFunc_impl_Pair_v0_enc0 v).2) v by kernel_rfl).trans (by rw [slices_insertionSortCmpFunc_impl_Pair_v0_lp1]; rfl)
def slices_insertionSortCmpFunc_impl_Pair_v0_pre (fuel : Nat) (X0 : slices_insertionSortCmpFunc_impl_Pair_v0_V0 → slices_insertionSortCmpFunc_impl_Pair_v0_R) (d0 : LP) (x0 : Int) (x1 : Int) : slices_insertionSortCmpFunc_impl_Pair_v0_R :=
 X0 (w64 (x0 + (1 : Int)), x1, x0, d0)
def slices_insertionSortCmpFunc_impl_Pair_v0_fn (fuel : Nat) (z : LP × Unit × (Int × (Int × Unit))) : slices_insertionSortCmpFunc_impl_Pair_v0_R := slices_insertionSortCmpFunc_impl_Pair_v0_pre fuel (iter (slices_insertionSortCmpFunc_impl_Pair_v0_st0 fuel) fuel) z.1 z.2.2.1 z.2.2.2.1
theorem slices_insertionSortCmpFunc_impl_Pair_v0_run (fuel : Nat) (c : List (Kd.T KP)) (d : CsT []) (x : Sh.T slices_insertionSortCmpFunc_impl_Pair_v0_ps) : run (slices_insertionSortCmpFunc_impl_Pair_v0_T fuel) 1 fuel slices_insertionSortCmpFunc_impl_Pair_v0_c ((0, firstV false 0 (svCs [] d)) :: env0 (svS slices_insertionSortCmpFunc_impl_Pair_v0_ps x) 1) [.arr KP c 0] (endS slices_insertionSortCmpFunc_impl_Pair_v0_rv KP false slices_insertionSortCmpFunc_impl_Pair_v0_rs) = slices_insertionSortCmpFunc_impl_Pair_v0_fn fuel (c, d, x) :=
  (show run (slices_insertionSortCmpFunc_impl_Pair_v0_T fuel) 1 fuel slices_insertionSortCmpFunc_impl_Pair_v0_c ((0, firstV false 0 (svCs [] d)) :: env0 (svS slices_insertionSortCmpFunc_impl_Pair_v0_ps x) 1) [.arr KP c 0] (endS slices_insertionSortCmpFunc_impl_Pair_v0_rv KP false slices_insertionSortCmpFunc_impl_Pair_v0_rs) = slices_insertionSortCmpFunc_impl_Pair_v0_pre fuel (slices_insertionSortCmpFunc_impl_Pair_v0_c.lp (slices_insertionSortCmpFunc_impl_Pair_v0_T fuel) 1 fuel (fun _ _ _ => none) (endS slices_insertionSortCmpFunc_impl_Pair_v0_rv KP false slices_insertionSortCmpFunc_impl_Pair_v0_rs) 0 slices_insertionSortCmpFunc_impl_Pair_v0_enc0) c x.1 x.2.1 by kernel_rfl).trans (by rw [slices_insertionSortCmpFunc_impl_Pair_v0_lp0]; rfl)
def slices_insertionSortCmpFunc_impl_Pair_v0_tf (fuel : Nat) : TFT := ⟨KP, false, [], slices_insertionSortCmpFunc_impl_Pair_v0_ps, slices_insertionSortCmpFunc_impl_Pair_v0_rs, false, slices_insertionSortCmpFunc_impl_Pair_v0_fn fuel⟩
theorem slices_insertionSortCmpFunc_impl_Pair_v0_spec (fuel : Nat) : FnSpecT Tryz.prog 201 (slices_insertionSortCmpFunc_impl_Pair_v0_tf fuel) :=
  fn_specT (T := slices_insertionSortCmpFunc_impl_Pair_v0_T fuel) (c := bodyOf Tryz.f201) (fn := Tryz.f201) (TabOK.of (entCons (impl_Pair_byThing_ok fuel) (entCons (impl_Pair_byNum_ok fuel) entNil)) (methNil)) mixed (by kernel_rfl) (by kernel_rfl) slices_insertionSortCmpFunc_impl_Pair_v0_l (by kernel_rfl) (Nat.le_of_ble_eq_true (by kernel_rfl)) (rv := slices_insertionSortCmpFunc_impl_Pair_v0_rv) (by kernel_rfl) (slices_insertionSortCmpFunc_impl_Pair_v0_run fuel)
theorem slices_insertionSortCmpFunc_impl_Pair_v0_ok (fuel : Nat) : EntryOK Tryz.prog 201 (slices_insertionSortCmpFunc_impl_Pair_v0_tf fuel).te := EntryOK.tft (slices_insertionSortCmpFunc_impl_Pair_v0_spec fuel) (isFn (fn := Tryz.f201) (by kernel_rfl) (by kernel_rfl) (by kernel_rfl))
abbrev slices_insertionSortCmpFunc_impl_Pair_v1_R := Option (LP × Unit)
def slices_insertionSortCmpFunc_impl_Pair_v1_T (fuel : Nat) : Tab := Tab.of [(193, (impl_Pair_byThing_tf fuel).te), (194, (impl_Pair_byNum_tf fuel).te)] []
abbrev slices_insertionSortCmpFunc_impl_Pair_v1_ps : Sh := (.cell I6 0 (.cell I6 0 (.fnc 194 .nil)))
abbrev slices_insertionSortCmpFunc_impl_Pair_v1_rs : List Pm := []
def slices_insertionSortCmpFunc_impl_Pair_v1_ann : List Norm := [{ live := [8, 2, 1, 3, 0], fix := [] }, { live := [9, 1, 3, 0, 8, 2], fix := [] }]
noncomputable def slices_insertionSortCmpFunc_impl_Pair_v1_c : C := irOf Tryz.prog Tryz.f201 [] slices_insertionSortCmpFunc_impl_Pair_v1_ann []
theorem slices_insertionSortCmpFunc_impl_Pair_v1_l : lightC Tryz.prog [] Tryz.f201.ntmps slices_insertionSortCmpFunc_impl_Pair_v1_ann [] 0 (bodyOf Tryz.f201) = some (slices_insertionSortCmpFunc_impl_Pair_v1_c, 2) := by kernel_rfl
def slices_insertionSortCmpFunc_impl_Pair_v1_rv : List (Nat × Option (Nat × Bool)) := []
abbrev slices_insertionSortCmpFunc_impl_Pair_v1_V0 := (Int) × (Int) × (Int) × LP
abbrev slices_insertionSortCmpFunc_impl_Pair_v1_V1 := (Int) × (Int) × (Int) × (Int) × LP
def slices_insertionSortCmpFunc_impl_Pair_v1_enc0 (v : slices_insertionSortCmpFunc_impl_Pair_v1_V0) : Env × Heap := ([(8, SV.int .i64 v.1), (2, SV.int .i64 v.2.1), (1, SV.int .i64 v.2.2.1), (3, SV.fn (Fn.func 194) [] []), (0, SV.own 0)], [Blk.arr KP v.2.2.2 0])
def slices_insertionSortCmpFunc_impl_Pair_v1_enc1 (v : slices_insertionSortCmpFunc_impl_Pair_v1_V1) : Env × Heap := ([(9, SV.int .i64 v.1), (1, SV.int .i64 v.2.1), (3, SV.fn (Fn.func 194) [] []), (0, SV.own 0), (8, SV.int .i64 v.2.2.1), (2, SV.int .i64 v.2.2.2.1)], [Blk.arr KP v.2.2.2.2 0])
def slices_insertionSortCmpFunc_impl_Pair_v1_step1 (fuel : Nat) (g0 : slices_insertionSortCmpFunc_impl_Pair_v1_V0 → slices_insertionSortCmpFunc_impl_Pair_v1_R) (g1 : slices_insertionSortCmpFunc_impl_Pair_v1_V1 → slices_insertionSortCmpFunc_impl_Pair_v1_R) (v : slices_insertionSortCmpFunc_impl_Pair_v1_V1) : slices_insertionSortCmpFunc_impl_Pair_v1_R :=
 cond (decide (v.1 > v.2.1))
 (tst (decide (0 ≤ v.1)) <|
  tst (decide (v.1 < (zz (List.length v.2.2.2.2)))) <|
  tst (decide (Int.toNat v.1 < List.length v.2.2.2.2)) <|
  tst (decide (0 ≤ w64 (v.1 - (1 : Int)))) <|
  tst (decide (w64 (v.1 - (1 : Int)) < (zz (List.length v.2.2.2.2)))) <|
  tst (decide (Int.toNat (w64 (v.1 - (1 : Int))) < List.length v.2.2.2.2)) <|
  Option.bind (impl_Pair_byNum_fn fuel (((List.getD v.2.2.2.2 (Int.toNat v.1) (0, (0, ()))).1, (List.getD v.2.2.2.2 (Int.toNat v.1) (0, (0, ()))).2.1, ()), ((List.getD v.2.2.2.2 (Int.toNat (w64 (v.1 - (1 : Int)))) (0, (0, ()))).1, (List.getD v.2.2.2.2 (Int.toNat (w64 (v.1 - (1 : Int)))) (0, (0, ()))).2.1, ()), ())) fun y_2 =>
  cond (decide (y_2.1.1 < (0 : Int)))
   (tst (decide (0 ≤ w64 (v.1 - (1 : Int)))) <|
    tst (decide (w64 (v.1 - (1 : Int)) < (zz (List.length v.2.2.2.2)))) <|
    tst (decide (Int.toNat (w64 (v.1 - (1 : Int))) < List.length v.2.2.2.2)) <|
    tst (decide (0 ≤ v.1)) <|
    tst (decide (v.1 < (zz (List.length v.2.2.2.2)))) <|
    tst (decide (Int.toNat v.1 < List.length v.2.2.2.2)) <|
    tst (decide (0 ≤ v.1)) <|
    tst (decide (v.1 < (zz (List.length v.2.2.2.2)))) <|
    tst (decide (Int.toNat v.1 < List.length v.2.2.2.2)) <|
    tst (decide (0 ≤ w64 (v.1 - (1 : Int)))) <|
    tst (decide (w64 (v.1 - (1 : Int)) < (zz (List.length (List.set v.2.2.2.2 (Int.toNat v.1) ((List.getD v.2.2.2.2 (Int.toNat (w64 (v.1 - (1 : Int)))) (0, (0, ()))).1, (List.getD v.2.2.2.2 (Int.toNat (w64 (v.1 - (1 : Int)))) (0, (0, ()))).2.1, ())))))) <|
    tst (decide (Int.toNat (w64 (v.1 - (1 : Int))) < List.length (List.set v.2.2.2.2 (Int.toNat v.1) ((List.getD v.2.2.2.2 (Int.toNat (w64 (v.1 - (1 : Int)))) (0, (0, ()))).1, (List.getD v.2.2.2.2 (Int.toNat (w64 (v.1 - (1 : Int)))) (0, (0, ()))).2.1, ())))) <|
    g1 (w64 (v.1 - (1 : Int)), v.2.1, v.2.2.1, v.2.2.2.1, List.set (List.set v.2.2.2.2 (Int.toNat v.1) ((List.getD v.2.2.2.2 (Int.toNat (w64 (v.1 - (1 : Int)))) (0, (0, ()))).1, (List.getD v.2.2.2.2 (Int.toNat (w64 (v.1 - (1 : Int)))) (0, (0, ()))).2.1, ())) (Int.toNat (w64 (v.1 - (1 : Int)))) ((List.getD v.2.2.2.2 (Int.toNat v.1) (0, (0, ()))).1, (List.getD v.2.2.2.2 (Int.toNat v.1) (0, (0, ()))).2.1, ())))
   (g0 (w64 (v.2.2.1 + (1 : Int)), v.2.2.2.1, v.2.1, v.2.2.2.2)))
 (g0 (w64 (v.2.2.1 + (1 : Int)), v.2.2.2.1, v.2.1, v.2.2.2.2))
def slices_insertionSortCmpFunc_impl_Pair_v1_st1 (fuel : Nat) (g0 : slices_insertionSortCmpFunc_impl_Pair_v1_V0 → slices_insertionSortCmpFunc_impl_Pair_v1_R) (g1 : slices_insertionSortCmpFunc_impl_Pair_v1_V1 → slices_insertionSortCmpFunc_impl_Pair_v1_R) : slices_insertionSortCmpFunc_impl_Pair_v1_V1 → slices_insertionSortCmpFunc_impl_Pair_v1_R := slices_insertionSortCmpFunc_impl_Pair_v1_step1 fuel g0 g1
theorem slices_insertionSortCmpFunc_impl_Pair_v1_lp1 (fuel : Nat) (G) : slices_insertionSortCmpFunc_impl_Pair_v1_c.lp (slices_insertionSortCmpFunc_impl_Pair_v1_T fuel) 1 fuel G (endS slices_insertionSortCmpFunc_impl_Pair_v1_rv KP false slices_insertionSortCmpFunc_impl_Pair_v1_rs) 1 slices_insertionSortCmpFunc_impl_Pair_v1_enc1 = iter (slices_insertionSortCmpFunc_impl_Pair_v1_st1 fuel (fun v => G 0 (slices_insertionSortCmpFunc_impl_Pair_v1_enc0 v).1 (slices_insertionSortCmpFunc_impl_Pair_v1_enc0 v).2)) fuel := C.lp_iter fun g v =>
  (show run (slices_insertionSortCmpFunc_impl_Pair_v1_T fuel) 1 fuel (slices_insertionSortCmpFunc_impl_Pair_v1_c.bdAt 1) (slices_insertionSortCmpFunc_impl_Pair_v1_enc1 v).1 (slices_insertionSortCmpFunc_impl_Pair_v1_enc1 v).2 (loopK 1 (slices_insertionSortCmpFunc_impl_Pair_v1_c.nmAt 1) g (slices_insertionSortCmpFunc_impl_Pair_v1_c.contAt (slices_insertionSortCmpFunc_impl_Pair_v1_T fuel) 1 fuel G 0 1 (endS slices_insertionSortCmpFunc_impl_Pair_v1_rv KP false slices_insertionSortCmpFunc_impl_Pair_v1_rs))) = slices_insertionSortCmpFunc_impl_Pair_v1_step1 fuel (fun v => G 0 (slices_insertionSortCmpFunc_impl_Pair_v1_enc0 v).1 (slices_insertionSortCmpFunc_impl_Pair_v1_enc0 v).2) (fun v => g (slices_insertionSortCmpFunc_impl_Pair_v1_enc1 v).1 (slices_insertionSortCmpFunc_impl_Pair_v1_enc1 v).2) v by kernel_rfl)
def slices_insertionSortCmpFunc_impl_Pair_v1_step0 (fuel : Nat) (X1 : slices_insertionSortCmpFunc_impl_Pair_v1_V1 → slices_insertionSortCmpFunc_impl_Pair_v1_R) (g0 : slices_insertionSortCmpFunc_impl_Pair_v1_V0 → slices_insertionSortCmpFunc_impl_Pair_v1_R) (v : slices_insertionSortCmpFunc_impl_Pair_v1_V0) : slices_insertionSortCmpFunc_impl_Pair_v1_R :=
 cond (decide (v.1 < v.2.1))
 (X1 (v.1, v.2.2.1, v.1, v.2.1, v.2.2.2))
 (some ((v.2.2.2, ())))
def slices_insertionSortCmpFunc_impl_Pair_v1_st0 (fuel : Nat) (g0 : slices_insertionSortCmpFunc_impl_Pair_v1_V0 → slices_insertionSortCmpFunc_impl_Pair_v1_R) : slices_insertionSortCmpFunc_impl_Pair_v1_V0 → slices_insertionSortCmpFunc_impl_Pair_v1_R := slices_insertionSortCmpFunc_impl_Pair_v1_step0 fuel (iter (slices_insertionSortCmpFunc_impl_Pair_v1_st1 fuel g0) fuel) g0
theorem slices_insertionSortCmpFunc_impl_Pair_v1_lp0 (fuel : Nat) (G) : slices_insertionSortCmpFunc_impl_Pair_v1_c.lp (slices_insertionSortCmpFunc_impl_Pair_v1_T fuel) 1 fuel G (endS slices_insertionSortCmpFunc_impl_Pair_v1_rv KP false slices_insertionSortCmpFunc_impl_Pair_v1_rs) 0 slices_insertionSortCmpFunc_impl_Pair_v1_enc0 = iter (slices_insertionSortCmpFunc_impl_Pair_v1_st0 fuel) fuel := C.lp_iter fun g v =>
  (show run (slices_insertionSortCmpFunc_impl_Pair_v1_T fuel) 1 fuel (slices_insertionSortCmpFunc_impl_Pair_v1_c.bdAt 0) (slices_insertionSortCmpFunc_impl_Pair_v1_enc0 v).1 (slices_insertionSortCmpFunc_impl_Pair_v1_enc0 v).2 (loopK 1 (slices_insertionSortCmpFunc_impl_Pair_v1_c.nmAt 0) g (slices_insertionSortCmpFunc_impl_Pair_v1_c.contAt (slices_insertionSortCmpFunc_impl_Pair_v1_T fuel) 1 fuel G 0 0 (endS slices_insertionSortCmpFunc_impl_Pair_v1_rv KP false slices_insertionSortCmpFunc_impl_Pair_v1_rs))) = slices_insertionSortCmpFunc_impl_Pair_v1_step0 fuel (slices_insertionSortCmpFunc_impl_Pair_v1_c.lp (slices_insertionSortCmpFunc_impl_Pair_v1_T fuel) 1 fuel (fun m => bif Nat.beq m 0 then g else G m) (endS slices_insertionSortCmpFunc_impl_Pair_v1_rv KP false slices_insertionSortCmpFunc_impl_Pair_v1_rs) 1 slices_insertionSortCmpFunc_impl_Pair_v1_enc1) (fun v => g (slices_insertionSortCmpFunc_impl_Pair_v1_enc0 v).1 (slices_insertionSortCmpFunc_impl_Pair_v1_enc0 v).2) v by kernel_rfl).trans (by rw [slices_insertionSortCmpFunc_impl_Pair_v1_lp1]; rfl)
def slices_insertionSortCmpFunc_impl_Pair_v1_pre (fuel : Nat) (X0 : slices_insertionSortCmpFunc_impl_Pair_v1_V0 → slices_insertionSortCmpFunc_impl_Pair_v1_R) (d0 : LP) (x0 : Int) (x1 : Int) : slices_insertionSortCmpFunc_impl_Pair_v1_R :=
 X0 (w64 (x0 + (1 : Int)), x1, x0, d0)
def slices_insertionSortCmpFunc_impl_Pair_v1_fn (fuel : Nat) (z : LP × Unit × (Int × (Int × Unit))) : slices_insertionSortCmpFunc_impl_Pair_v1_R := slices_insertionSortCmpFunc_impl_Pair_v1_pre fuel (iter (slices_insertionSortCmpFunc_impl_Pair_v1_st0 fuel) fuel) z.1 z.2.2.1 z.2.2.2.1
theorem slices_insertionSortCmpFunc_impl_Pair_v1_run (fuel : Nat) (c : List (Kd.T KP)) (d : CsT []) (x : Sh.T slices_insertionSortCmpFunc_impl_Pair_v1_ps) : run (slices_insertionSortCmpFunc_impl_Pair_v1_T fuel) 1 fuel slices_insertionSortCmpFunc_impl_Pair_v1_c ((0, firstV false 0 (svCs [] d)) :: env0 (svS slices_insertionSortCmpFunc_impl_Pair_v1_ps x) 1) [.arr KP c 0] (endS slices_insertionSortCmpFunc_impl_Pair_v1_rv KP false slices_insertionSortCmpFunc_impl_Pair_v1_rs) = slices_insertionSortCmpFunc_impl_Pair_v1_fn fuel (c, d, x) :=
  (show run (slices_insertionSortCmpFunc_impl_Pair_v1_T fuel) 1 fuel slices_insertionSortCmpFunc_impl_Pair_v1_c ((0, firstV false 0 (svCs [] d)) :: env0 (svS slices_insertionSortCmpFunc_impl_Pair_v1_ps x) 1) [.arr KP c 0] (endS slices_insertionSortCmpFunc_impl_Pair_v1_rv KP false slices_insertionSortCmpFunc_impl_Pair_v1_rs) = slices_insertionSortCmpFunc_impl_Pair_v1_pre fuel (slices_insertionSortCmpFunc_impl_Pair_v1_c.lp (slices_insertionSortCmpFunc_impl_Pair_v1_T fuel) 1 fuel (fun _ _ _ => none) (endS slices_insertionSortCmpFunc_impl_Pair_v1_rv KP false slices_insertionSortCmpFunc_impl_Pair_v1_rs) 0 slices_insertionSortCmpFunc_impl_Pair_v1_enc0) c x.1 x.2.1 by kernel_rfl).trans (by rw [slices_insertionSortCmpFunc_impl_Pair_v1_lp0]; rfl)
def slices_insertionSortCmpFunc_impl_Pair_v1_tf (fuel : Nat) : TFT := ⟨KP, false, [], slices_insertionSortCmpFunc_impl_Pair_v1_ps, slices_insertionSortCmpFunc_impl_Pair_v1_rs, false, slices_insertionSortCmpFunc_impl_Pair_v1_fn fuel⟩
theorem slices_insertionSortCmpFunc_impl_Pair_v1_spec (fuel : Nat) : FnSpecT Tryz.prog 201 (slices_insertionSortCmpFunc_impl_Pair_v1_tf fuel) :=
  fn_specT (T := slices_insertionSortCmpFunc_impl_Pair_v1_T fuel) (c := bodyOf Tryz.f201) (fn := Tryz.f201) (TabOK.of (entCons (impl_Pair_byThing_ok fuel) (entCons (impl_Pair_byNum_ok fuel) entNil)) (methNil)) mixed (by kernel_rfl) (by kernel_rfl) slices_insertionSortCmpFunc_impl_Pair_v1_l (by kernel_rfl) (Nat.le_of_ble_eq_true (by kernel_rfl)) (rv := slices_insertionSortCmpFunc_impl_Pair_v1_rv) (by kernel_rfl) (slices_insertionSortCmpFunc_impl_Pair_v1_run fuel)
theorem slices_insertionSortCmpFunc_impl_Pair_v1_ok (fuel : Nat) : EntryOK Tryz.prog 201 (slices_insertionSortCmpFunc_impl_Pair_v1_tf fuel).te := EntryOK.tft (slices_insertionSortCmpFunc_impl_Pair_v1_spec fuel) (isFn (fn := Tryz.f201) (by kernel_rfl) (by kernel_rfl) (by kernel_rfl))
abbrev slices_pdqsortCmpFunc_impl_Pair_v0_R := Option (LP × Unit)
def slices_pdqsortCmpFunc_impl_Pair_v0_T (fuel : Nat) : Tab := Tab.of [(201, (slices_insertionSortCmpFunc_impl_Pair_v0_tf fuel).te), (201, (slices_insertionSortCmpFunc_impl_Pair_v1_tf fuel).te)] []
abbrev slices_pdqsortCmpFunc_impl_Pair_v0_ps : Sh := (.cell I6 0 (.cell I6 0 (.cell I6 0 (.fnc 193 .nil))))
abbrev slices_pdqsortCmpFunc_impl_Pair_v0_rs : List Pm := []
def slices_pdqsortCmpFunc_impl_Pair_v0_ann : List Norm := [{ live := [2, 1, 0, 4, 3, 10, 11], fix := [] }]
noncomputable def slices_pdqsortCmpFunc_impl_Pair_v0_c : C := irOf Tryz.prog Tryz.f198 [] slices_pdqsortCmpFunc_impl_Pair_v0_ann []
theorem slices_pdqsortCmpFunc_impl_Pair_v0_l : lightC Tryz.prog [] Tryz.f198.ntmps slices_pdqsortCmpFunc_impl_Pair_v0_ann [] 0 (bodyOf Tryz.f198) = some (slices_pdqsortCmpFunc_impl_Pair_v0_c, 1) := by kernel_rfl
def slices_pdqsortCmpFunc_impl_Pair_v0_rv : List (Nat × Option (Nat × Bool)) := []
abbrev slices_pdqsortCmpFunc_impl_Pair_v0_V0 := (Int) × (Int) × (Int) × (Bool) × (Bool) × LP
def slices_pdqsortCmpFunc_impl_Pair_v0_enc0 (v : slices_pdqsortCmpFunc_impl_Pair_v0_V0) : Env × Heap := ([(2, SV.int .i64 v.1), (1, SV.int .i64 v.2.1), (0, SV.own 0), (4, SV.fn (Fn.func 193) [] []), (3, SV.int .i64 v.2.2.1), (10, SV.bool v.2.2.2.1), (11, SV.bool v.2.2.2.2.1)], [Blk.arr KP v.2.2.2.2.2 0])
def slices_pdqsortCmpFunc_impl_Pair_v0_step0 (fuel : Nat) (g0 : slices_pdqsortCmpFunc_impl_Pair_v0_V0 → slices_pdqsortCmpFunc_impl_Pair_v0_R) (v : slices_pdqsortCmpFunc_impl_Pair_v0_V0) : slices_pdqsortCmpFunc_impl_Pair_v0_R :=
 cond (decide (w64 (v.1 - v.2.1) ≤ (12 : Int)))
 (Option.bind (slices_insertionSortCmpFunc_impl_Pair_v0_fn fuel (v.2.2.2.2.2, (), v.2.1, v.1, ())) fun y_2 =>
  some ((y_2.1, ())))
 (cond (v.2.2.1 == (0 : Int))
  (none)
  (cond (!v.2.2.2.1)
   (none)
   (none)))
def slices_pdqsortCmpFunc_impl_Pair_v0_st0 (fuel : Nat) (g0 : slices_pdqsortCmpFunc_impl_Pair_v0_V0 → slices_pdqsortCmpFunc_impl_Pair_v0_R) : slices_pdqsortCmpFunc_impl_Pair_v0_V0 → slices_pdqsortCmpFunc_impl_Pair_v0_R := slices_pdqsortCmpFunc_impl_Pair_v0_step0 fuel g0
theorem slices_pdqsortCmpFunc_impl_Pair_v0_lp0 (fuel : Nat) (G) : slices_pdqsortCmpFunc_impl_Pair_v0_c.lp (slices_pdqsortCmpFunc_impl_Pair_v0_T fuel) 1 fuel G (endS slices_pdqsortCmpFunc_impl_Pair_v0_rv KP false slices_pdqsortCmpFunc_impl_Pair_v0_rs) 0 slices_pdqsortCmpFunc_impl_Pair_v0_enc0 = iter (slices_pdqsortCmpFunc_impl_Pair_v0_st0 fuel) fuel := C.lp_iter fun g v => by kernel_rfl
def slices_pdqsortCmpFunc_impl_Pair_v0_pre (fuel : Nat) (X0 : slices_pdqsortCmpFunc_impl_Pair_v0_V0 → slices_pdqsortCmpFunc_impl_Pair_v0_R) (d0 : LP) (x0 : Int) (x1 : Int) (x2 : Int) : slices_pdqsortCmpFunc_impl_Pair_v0_R :=
 X0 (x1, x0, x2, true, true, d0)
def slices_pdqsortCmpFunc_impl_Pair_v0_fn (fuel : Nat) (z : LP × Unit × (Int × (Int × (Int × Unit)))) : slices_pdqsortCmpFunc_impl_Pair_v0_R := slices_pdqsortCmpFunc_impl_Pair_v0_pre fuel (iter (slices_pdqsortCmpFunc_impl_Pair_v0_st0 fuel) fuel) z.1 z.2.2.1 z.2.2.2.1 z.2.2.2.2.1
theorem slices_pdqsortCmpFunc_impl_Pair_v0_run (fuel : Nat) (c : List (Kd.T KP)) (d : CsT []) (x : Sh.T slices_pdqsortCmpFunc_impl_Pair_v0_ps) : run (slices_pdqsortCmpFunc_impl_Pair_v0_T fuel) 1 fuel slices_pdqsortCmpFunc_impl_Pair_v0_c ((0, firstV false 0 (svCs [] d)) :: env0 (svS slices_pdqsortCmpFunc_impl_Pair_v0_ps x) 1) [.arr KP c 0] (endS slices_pdqsortCmpFunc_impl_Pair_v0_rv KP false slices_pdqsortCmpFunc_impl_Pair_v0_rs) = slices_pdqsortCmpFunc_impl_Pair_v0_fn fuel (c, d, x) :=
  (show run (slices_pdqsortCmpFunc_impl_Pair_v0_T fuel) 1 fuel slices_pdqsortCmpFunc_impl_Pair_v0_c ((0, firstV false 0 (svCs [] d)) :: env0 (svS slices_pdqsortCmpFunc_impl_Pair_v0_ps x) 1) [.arr KP c 0] (endS slices_pdqsortCmpFunc_impl_Pair_v0_rv KP false slices_pdqsortCmpFunc_impl_Pair_v0_rs) = slices_pdqsortCmpFunc_impl_Pair_v0_pre fuel (slices_pdqsortCmpFunc_impl_Pair_v0_c.lp (slices_pdqsortCmpFunc_impl_Pair_v0_T fuel) 1 fuel (fun _ _ _ => none) (endS slices_pdqsortCmpFunc_impl_Pair_v0_rv KP false slices_pdqsortCmpFunc_impl_Pair_v0_rs) 0 slices_pdqsortCmpFunc_impl_Pair_v0_enc0) c x.1 x.2.1 x.2.2.1 by kernel_rfl).trans (by rw [slices_pdqsortCmpFunc_impl_Pair_v0_lp0]; rfl)
def slices_pdqsortCmpFunc_impl_Pair_v0_tf (fuel : Nat) : TFT := ⟨KP, false, [], slices_pdqsortCmpFunc_impl_Pair_v0_ps, slices_pdqsortCmpFunc_impl_Pair_v0_rs, false, slices_pdqsortCmpFunc_impl_Pair_v0_fn fuel⟩
theorem slices_pdqsortCmpFunc_impl_Pair_v0_spec (fuel : Nat) : FnSpecT Tryz.prog 198 (slices_pdqsortCmpFunc_impl_Pair_v0_tf fuel) :=
  fn_specT (T := slices_pdqsortCmpFunc_impl_Pair_v0_T fuel) (c := bodyOf Tryz.f198) (fn := Tryz.f198) (TabOK.of (entCons (slices_insertionSortCmpFunc_impl_Pair_v0_ok fuel) (entCons (slices_insertionSortCmpFunc_impl_Pair_v1_ok fuel) entNil)) (methNil)) mixed (by kernel_rfl) (by kernel_rfl) slices_pdqsortCmpFunc_impl_Pair_v0_l (by kernel_rfl) (Nat.le_of_ble_eq_true (by kernel_rfl)) (rv := slices_pdqsortCmpFunc_impl_Pair_v0_rv) (by kernel_rfl) (slices_pdqsortCmpFunc_impl_Pair_v0_run fuel)
theorem slices_pdqsortCmpFunc_impl_Pair_v0_ok (fuel : Nat) : EntryOK Tryz.prog 198 (slices_pdqsortCmpFunc_impl_Pair_v0_tf fuel).te := EntryOK.tft (slices_pdqsortCmpFunc_impl_Pair_v0_spec fuel) (isFn (fn := Tryz.f198) (by kernel_rfl) (by kernel_rfl) (by kernel_rfl))
abbrev slices_pdqsortCmpFunc_impl_Pair_v1_R := Option (LP × Unit)
def slices_pdqsortCmpFunc_impl_Pair_v1_T (fuel : Nat) : Tab := Tab.of [(201, (slices_insertionSortCmpFunc_impl_Pair_v0_tf fuel).te), (201, (slices_insertionSortCmpFunc_impl_Pair_v1_tf fuel).te)] []
abbrev slices_pdqsortCmpFunc_impl_Pair_v1_ps : Sh := (.cell I6 0 (.cell I6 0 (.cell I6 0 (.fnc 194 .nil))))
abbrev slices_pdqsortCmpFunc_impl_Pair_v1_rs : List Pm := []
def slices_pdqsortCmpFunc_impl_Pair_v1_ann : List Norm := [{ live := [2, 1, 0, 4, 3, 10, 11], fix := [] }]
noncomputable def slices_pdqsortCmpFunc_impl_Pair_v1_c : C := irOf Tryz.prog Tryz.f198 [] slices_pdqsortCmpFunc_impl_Pair_v1_ann []
theorem slices_pdqsortCmpFunc_impl_Pair_v1_l : lightC Tryz.prog [] Tryz.f198.ntmps slices_pdqsortCmpFunc_impl_Pair_v1_ann [] 0 (bodyOf Tryz.f198) = some (slices_pdqsortCmpFunc_impl_Pair_v1_c, 1) := by kernel_rfl
def slices_pdqsortCmpFunc_impl_Pair_v1_rv : List (Nat × Option (Nat × Bool)) := []
abbrev slices_pdqsortCmpFunc_impl_Pair_v1_V0 := (Int) × (Int) × (Int) × (Bool) × (Bool) × LP
def slices_pdqsortCmpFunc_impl_Pair_v1_enc0 (v : slices_pdqsortCmpFunc_impl_Pair_v1_V0) : Env × Heap := ([(2, SV.int .i64 v.1), (1, SV.int .i64 v.2.1), (0, SV.own 0), (4, SV.fn (Fn.func 194) [] []), (3, SV.int .i64 v.2.2.1), (10, SV.bool v.2.2.2.1), (11, SV.bool v.2.2.2.2.1)], [Blk.arr KP v.2.2.2.2.2 0])
def slices_pdqsortCmpFunc_impl_Pair_v1_step0 (fuel : Nat) (g0 : slices_pdqsortCmpFunc_impl_Pair_v1_V0 → slices_pdqsortCmpFunc_impl_Pair_v1_R) (v : slices_pdqsortCmpFunc_impl_Pair_v1_V0) : slices_pdqsortCmpFunc_impl_Pair_v1_R :=
 cond (decide (w64 (v.1 - v.2.1) ≤ (12 : Int)))
 (Option.bind (slices_insertionSortCmpFunc_impl_Pair_v1_fn fuel (v.2.2.2.2.2, (), v.2.1, v.1, ())) fun y_2 =>
  some ((y_2.1, ())))
 (cond (v.2.2.1 == (0 : Int))
  (none)
  (cond (!v.2.2.2.1)
   (none)
   (none)))
def slices_pdqsortCmpFunc_impl_Pair_v1_st0 (fuel : Nat) (g0 : slices_pdqsortCmpFunc_impl_Pair_v1_V0 → slices_pdqsortCmpFunc_impl_Pair_v1_R) : slices_pdqsortCmpFunc_impl_Pair_v1_V0 → slices_pdqsortCmpFunc_impl_Pair_v1_R := slices_pdqsortCmpFunc_impl_Pair_v1_step0 fuel g0
theorem slices_pdqsortCmpFunc_impl_Pair_v1_lp0 (fuel : Nat) (G) : slices_pdqsortCmpFunc_impl_Pair_v1_c.lp (slices_pdqsortCmpFunc_impl_Pair_v1_T fuel) 1 fuel G (endS slices_pdqsortCmpFunc_impl_Pair_v1_rv KP false slices_pdqsortCmpFunc_impl_Pair_v1_rs) 0 slices_pdqsortCmpFunc_impl_Pair_v1_enc0 = iter (slices_pdqsortCmpFunc_impl_Pair_v1_st0 fuel) fuel := C.lp_iter fun g v => by kernel_rfl
def slices_pdqsortCmpFunc_impl_Pair_v1_pre (fuel : Nat) (X0 : slices_pdqsortCmpFunc_impl_Pair_v1_V0 → slices_pdqsortCmpFunc_impl_Pair_v1_R) (d0 : LP) (x0 : Int) (x1 : Int) (x2 : Int) : slices_pdqsortCmpFunc_impl_Pair_v1_R :=
 X0 (x1, x0, x2, true, true, d0)
def slices_pdqsortCmpFunc_impl_Pair_v1_fn (fuel : Nat) (z : LP × Unit × (Int × (Int × (Int × Unit)))) : slices_pdqsortCmpFunc_impl_Pair_v1_R := slices_pdqsortCmpFunc_impl_Pair_v1_pre fuel (iter (slices_pdqsortCmpFunc_impl_Pair_v1_st0 fuel) fuel) z.1 z.2.2.1 z.2.2.2.1 z.2.2.2.2.1
theorem slices_pdqsortCmpFunc_impl_Pair_v1_run (fuel : Nat) (c : List (Kd.T KP)) (d : CsT []) (x : Sh.T slices_pdqsortCmpFunc_impl_Pair_v1_ps) : run (slices_pdqsortCmpFunc_impl_Pair_v1_T fuel) 1 fuel slices_pdqsortCmpFunc_impl_Pair_v1_c ((0, firstV false 0 (svCs [] d)) :: env0 (svS slices_pdqsortCmpFunc_impl_Pair_v1_ps x) 1) [.arr KP c 0] (endS slices_pdqsortCmpFunc_impl_Pair_v1_rv KP false slices_pdqsortCmpFunc_impl_Pair_v1_rs) = slices_pdqsortCmpFunc_impl_Pair_v1_fn fuel (c, d, x) :=
  (show run (slices_pdqsortCmpFunc_impl_Pair_v1_T fuel) 1 fuel slices_pdqsortCmpFunc_impl_Pair_v1_c ((0, firstV false 0 (svCs [] d)) :: env0 (svS slices_pdqsortCmpFunc_impl_Pair_v1_ps x) 1) [.arr KP c 0] (endS slices_pdqsortCmpFunc_impl_Pair_v1_rv KP false slices_pdqsortCmpFunc_impl_Pair_v1_rs) = slices_pdqsortCmpFunc_impl_Pair_v1_pre fuel (slices_pdqsortCmpFunc_impl_Pair_v1_c.lp (slices_pdqsortCmpFunc_impl_Pair_v1_T fuel) 1 fuel (fun _ _ _ => none) (endS slices_pdqsortCmpFunc_impl_Pair_v1_rv KP false slices_pdqsortCmpFunc_impl_Pair_v1_rs) 0 slices_pdqsortCmpFunc_impl_Pair_v1_enc0) c x.1 x.2.1 x.2.2.1 by kernel_rfl).trans (by rw [slices_pdqsortCmpFunc_impl_Pair_v1_lp0]; rfl)
def slices_pdqsortCmpFunc_impl_Pair_v1_tf (fuel : Nat) : TFT := ⟨KP, false, [], slices_pdqsortCmpFunc_impl_Pair_v1_ps, slices_pdqsortCmpFunc_impl_Pair_v1_rs, false, slices_pdqsortCmpFunc_impl_Pair_v1_fn fuel⟩
theorem slices_pdqsortCmpFunc_impl_Pair_v1_spec (fuel : Nat) : FnSpecT Tryz.prog 198 (slices_pdqsortCmpFunc_impl_Pair_v1_tf fuel) :=
  fn_specT (T := slices_pdqsortCmpFunc_impl_Pair_v1_T fuel) (c := bodyOf Tryz.f198) (fn := Tryz.f198) (TabOK.of (entCons (slices_insertionSortCmpFunc_impl_Pair_v0_ok fuel) (entCons (slices_insertionSortCmpFunc_impl_Pair_v1_ok fuel) entNil)) (methNil)) mixed (by kernel_rfl) (by kernel_rfl) slices_pdqsortCmpFunc_impl_Pair_v1_l (by kernel_rfl) (Nat.le_of_ble_eq_true (by kernel_rfl)) (rv := slices_pdqsortCmpFunc_impl_Pair_v1_rv) (by kernel_rfl) (slices_pdqsortCmpFunc_impl_Pair_v1_run fuel)
theorem slices_pdqsortCmpFunc_impl_Pair_v1_ok (fuel : Nat) : EntryOK Tryz.prog 198 (slices_pdqsortCmpFunc_impl_Pair_v1_tf fuel).te := EntryOK.tft (slices_pdqsortCmpFunc_impl_Pair_v1_spec fuel) (isFn (fn := Tryz.f198) (by kernel_rfl) (by kernel_rfl) (by kernel_rfl))
def math_bits_Len64_T (fuel : Nat) : Tab := Tab.of [] []
abbrev math_bits_Len64_ps : List Pm := [{ cs := [(Kd.int IntKind.u64, false)], ag := false }]
abbrev math_bits_Len64_rs : List Pm := [{ cs := [(I6, false)], ag := false }]
def math_bits_Len64_ann : List Norm := []
noncomputable def math_bits_Len64_c : C := irOf Tryz.prog Tryz.f210 [] math_bits_Len64_ann []
theorem math_bits_Len64_l : lightC Tryz.prog [] Tryz.f210.ntmps math_bits_Len64_ann [] 0 (bodyOf Tryz.f210) = some (math_bits_Len64_c, 0) := by kernel_rfl
def math_bits_Len64_rv : List (Nat × Option (Nat × Bool)) := [(2, none)]
def math_bits_Len64_pre (fuel : Nat) (x0 : Int) : Option ((Int × Unit) × Unit) :=
 cond (decide (x0 ≥ (4294967296 : Int)))
 (cond (decide (Int.fdiv x0 (2 ^ min (Int.toNat (32 : Int)) (IntKind.bits IntKind.u64)) ≥ (65536 : Int)))
  (cond (decide (Int.fdiv (Int.fdiv x0 (2 ^ min (Int.toNat (32 : Int)) (IntKind.bits IntKind.u64))) (2 ^ min (Int.toNat (16 : Int)) (IntKind.bits IntKind.u64)) ≥ (256 : Int)))
   (tst (decide (0 ≤ IntKind.wrap IntKind.u8 (Int.fdiv (Int.fdiv (Int.fdiv x0 (2 ^ min (Int.toNat (32 : Int)) (IntKind.bits IntKind.u64))) (2 ^ min (Int.toNat (16 : Int)) (IntKind.bits IntKind.u64))) (2 ^ min (Int.toNat (8 : Int)) (IntKind.bits IntKind.u64))))) <|
    tst (decide (IntKind.wrap IntKind.u8 (Int.fdiv (Int.fdiv (Int.fdiv x0 (2 ^ min (Int.toNat (32 : Int)) (IntKind.bits IntKind.u64))) (2 ^ min (Int.toNat (16 : Int)) (IntKind.bits IntKind.u64))) (2 ^ min (Int.toNat (8 : Int)) (IntKind.bits IntKind.u64))) < (zz 256))) <|
    some (((w64 (w64 (w64 ((32 : Int) + (16 : Int)) + (8 : Int)) + w64 (zz (List.getD [0, 1, 2, 2, 3, 3, 3, 3, 4, 4, 4, 4, 4, 4, 4, 4, 5, 5, 5, 5, 5, 5, 5, 5, 5, 5, 5, 5, 5, 5, 5, 5, 6, 6, 6, 6, 6, 6, 6, 6, 6, 6, 6, 6, 6, 6, 6, 6, 6, 6, 6, 6, 6, 6, 6, 6, 6, 6, 6, 6, 6, 6, 6, 6, 7, 7, 7, 7, 7, 7, 7, 7, 7, 7, 7, 7, 7, 7, 7, 7, 7, 7, 7, 7, 7, 7, 7, 7, 7, 7, 7, 7, 7, 7, 7, 7, 7, 7, 7, 7, 7, 7, 7, 7, 7, 7, 7, 7, 7, 7, 7, 7, 7, 7, 7, 7, 7, 7, 7, 7, 7, 7, 7, 7, 7, 7, 7, 7, 8, 8, 8, 8, 8, 8, 8, 8, 8, 8, 8, 8, 8, 8, 8, 8, 8, 8, 8, 8, 8, 8, 8, 8, 8, 8, 8, 8, 8, 8, 8, 8, 8, 8, 8, 8, 8, 8, 8, 8, 8, 8, 8, 8, 8, 8, 8, 8, 8, 8, 8, 8, 8, 8, 8, 8, 8, 8, 8, 8, 8, 8, 8, 8, 8, 8, 8, 8, 8, 8, 8, 8, 8, 8, 8, 8, 8, 8, 8, 8, 8, 8, 8, 8, 8, 8, 8, 8, 8, 8, 8, 8, 8, 8, 8, 8, 8, 8, 8, 8, 8, 8, 8, 8, 8, 8, 8, 8, 8, 8, 8, 8, 8, 8, 8, 8, 8, 8, 8, 8, 8, 8, 8, 8, 8, 8, 8, 8] (Int.toNat (IntKind.wrap IntKind.u8 (Int.fdiv (Int.fdiv (Int.fdiv x0 (2 ^ min (Int.toNat (32 : Int)) (IntKind.bits IntKind.u64))) (2 ^ min (Int.toNat (16 : Int)) (IntKind.bits IntKind.u64))) (2 ^ min (Int.toNat (8 : Int)) (IntKind.bits IntKind.u64))))) 0))), ()), ())))
   (tst (decide (0 ≤ IntKind.wrap IntKind.u8 (Int.fdiv (Int.fdiv x0 (2 ^ min (Int.toNat (32 : Int)) (IntKind.bits IntKind.u64))) (2 ^ min (Int.toNat (16 : Int)) (IntKind.bits IntKind.u64))))) <|
    tst (decide (IntKind.wrap IntKind.u8 (Int.fdiv (Int.fdiv x0 (2 ^ min (Int.toNat (32 : Int)) (IntKind.bits IntKind.u64))) (2 ^ min (Int.toNat (16 : Int)) (IntKind.bits IntKind.u64))) < (zz 256))) <|
    some (((w64 (w64 ((32 : Int) + (16 : Int)) + w64 (zz (List.getD [0, 1, 2, 2, 3, 3, 3, 3, 4, 4, 4, 4, 4, 4, 4, 4, 5, 5, 5, 5, 5, 5, 5, 5, 5, 5, 5, 5, 5, 5, 5, 5, 6, 6, 6, 6, 6, 6, 6, 6, 6, 6, 6, 6, 6, 6, 6, 6, 6, 6, 6, 6, 6, 6, 6, 6, 6, 6, 6, 6, 6, 6, 6, 6, 7, 7, 7, 7, 7, 7, 7, 7, 7, 7, 7, 7, 7, 7, 7, 7, 7, 7, 7, 7, 7, 7, 7, 7, 7, 7, 7, 7, 7, 7, 7, 7, 7, 7, 7, 7, 7, 7, 7, 7, 7, 7, 7, 7, 7, 7, 7, 7, 7, 7, 7, 7, 7, 7, 7, 7, 7, 7, 7, 7, 7, 7, 7, 7, 8, 8, 8, 8, 8, 8, 8, 8, 8, 8, 8, 8, 8, 8, 8, 8, 8, 8, 8, 8, 8, 8, 8, 8, 8, 8, 8, 8, 8, 8, 8, 8, 8, 8, 8, 8, 8, 8, 8, 8, 8, 8, 8, 8, 8, 8, 8, 8, 8, 8, 8, 8, 8, 8, 8, 8, 8, 8, 8, 8, 8, 8, 8, 8, 8, 8, 8, 8, 8, 8, 8, 8, 8, 8, 8, 8, 8, 8, 8, 8, 8, 8, 8, 8, 8, 8, 8, 8, 8, 8, 8, 8, 8, 8, 8, 8, 8, 8, 8, 8, 8, 8, 8, 8, 8, 8, 8, 8, 8, 8, 8, 8, 8, 8, 8, 8, 8, 8, 8, 8, 8, 8, 8, 8, 8, 8, 8, 8] (Int.toNat (IntKind.wrap IntKind.u8 (Int.fdiv (Int.fdiv x0 (2 ^ min (Int.toNat (32 : Int)) (IntKind.bits IntKind.u64))) (2 ^ min (Int.toNat (16 : Int)) (IntKind.bits IntKind.u64))))) 0))), ()), ()))))
  (cond (decide (Int.fdiv x0 (2 ^ min (Int.toNat (32 : Int)) (IntKind.bits IntKind.u64)) ≥ (256 : Int)))
   (tst (decide (0 ≤ IntKind.wrap IntKind.u8 (Int.fdiv (Int.fdiv x0 (2 ^ min (Int.toNat (32 : Int)) (IntKind.bits IntKind.u64))) (2 ^ min (Int.toNat (8 : Int)) (IntKind.bits IntKind.u64))))) <|
    tst (decide (IntKind.wrap IntKind.u8 (Int.fdiv (Int.fdiv x0 (2 ^ min (Int.toNat (32 : Int)) (IntKind.bits IntKind.u64))) (2 ^ min (Int.toNat (8 : Int)) (IntKind.bits IntKind.u64))) < (zz 256))) <|
    some (((w64 (w64 ((32 : Int) + (8 : Int)) + w64 (zz (List.getD [0, 1, 2, 2, 3, 3, 3, 3, 4, 4, 4, 4, 4, 4, 4, 4, 5, 5, 5, 5, 5, 5, 5, 5, 5, 5, 5, 5, 5, 5, 5, 5, 6, 6, 6, 6, 6, 6, 6, 6, 6, 6, 6, 6, 6, 6, 6, 6, 6, 6, 6, 6, 6, 6, 6, 6, 6, 6, 6, 6, 6, 6, 6, 6, 7, 7, 7, 7, 7, 7, 7, 7, 7, 7, 7, 7, 7, 7, 7, 7, 7, 7, 7, 7, 7, 7, 7, 7, 7, 7, 7, 7, 7, 7, 7, 7, 7, 7, 7, 7, 7, 7, 7, 7, 7, 7, 7, 7, 7, 7, 7, 7, 7, 7, 7, 7, 7, 7, 7, 7, 7, 7, 7, 7, 7, 7, 7, 7, 8, 8, 8, 8, 8, 8, 8, 8, 8, 8, 8, 8, 8, 8, 8, 8, 8, 8, 8, 8, 8, 8, 8, 8, 8, 8, 8, 8, 8, 8, 8, 8, 8, 8, 8, 8, 8, 8, 8, 8, 8, 8, 8, 8, 8, 8, 8, 8, 8, 8, 8, 8, 8, 8, 8, 8, 8, 8, 8, 8, 8, 8, 8, 8, 8, 8, 8, 8, 8, 8, 8, 8, 8, 8, 8, 8, 8, 8, 8, 8, 8, 8, 8, 8, 8, 8, 8, 8, 8, 8, 8, 8, 8, 8, 8, 8, 8, 8, 8, 8, 8, 8, 8, 8, 8, 8, 8, 8, 8, 8, 8, 8, 8, 8, 8, 8, 8, 8, 8, 8, 8, 8, 8, 8, 8, 8, 8, 8] (Int.toNat (IntKind.wrap IntKind.u8 (Int.fdiv (Int.fdiv x0 (2 ^ min (Int.toNat (32 : Int)) (IntKind.bits IntKind.u64))) (2 ^ min (Int.toNat (8 : Int)) (IntKind.bits IntKind.u64))))) 0))), ()), ())))
   (tst (decide (0 ≤ IntKind.wrap IntKind.u8 (Int.fdiv x0 (2 ^ min (Int.toNat (32 : Int)) (IntKind.bits IntKind.u64))))) <|
    tst (decide (IntKind.wrap IntKind.u8 (Int.fdiv x0 (2 ^ min (Int.toNat (32 : Int)) (IntKind.bits IntKind.u64))) < (zz 256))) <|
    some (((w64 ((32 : Int) + w64 (zz (List.getD [0, 1, 2, 2, 3, 3, 3, 3, 4, 4, 4, 4, 4, 4, 4, 4, 5, 5, 5, 5, 5, 5, 5, 5, 5, 5, 5, 5, 5, 5, 5, 5, 6, 6, 6, 6, 6, 6, 6, 6, 6, 6, 6, 6, 6, 6, 6, 6, 6, 6, 6, 6, 6, 6, 6, 6, 6, 6, 6, 6, 6, 6, 6, 6, 7, 7, 7, 7, 7, 7, 7, 7, 7, 7, 7, 7, 7, 7, 7, 7, 7, 7, 7, 7, 7, 7, 7, 7, 7, 7, 7, 7, 7, 7, 7, 7, 7, 7, 7, 7, 7, 7, 7, 7, 7, 7, 7, 7, 7, 7, 7, 7, 7, 7, 7, 7, 7, 7, 7, 7, 7, 7, 7, 7, 7, 7, 7, 7, 8, 8, 8, 8, 8, 8, 8, 8, 8, 8, 8, 8, 8, 8, 8, 8, 8, 8, 8, 8, 8, 8, 8, 8, 8, 8, 8, 8, 8, 8, 8, 8, 8, 8, 8, 8, 8, 8, 8, 8, 8, 8, 8, 8, 8, 8, 8, 8, 8, 8, 8, 8, 8, 8, 8, 8, 8, 8, 8, 8, 8, 8, 8, 8, 8, 8, 8, 8, 8, 8, 8, 8, 8, 8, 8, 8, 8, 8, 8, 8, 8, 8, 8, 8, 8, 8, 8, 8, 8, 8, 8, 8, 8, 8, 8, 8, 8, 8, 8, 8, 8, 8, 8, 8, 8, 8, 8, 8, 8, 8, 8, 8, 8, 8, 8, 8, 8, 8, 8, 8, 8, 8, 8, 8, 8, 8, 8, 8] (Int.toNat (IntKind.wrap IntKind.u8 (Int.fdiv x0 (2 ^ min (Int.toNat (32 : Int)) (IntKind.bits IntKind.u64))))) 0))), ()), ())))))
 (cond (decide (x0 ≥ (65536 : Int)))
  (cond (decide (Int.fdiv x0 (2 ^ min (Int.toNat (16 : Int)) (IntKind.bits IntKind.u64)) ≥ (256 : Int)))
   (tst (decide (0 ≤ IntKind.wrap IntKind.u8 (Int.fdiv (Int.fdiv x0 (2 ^ min (Int.toNat (16 : Int)) (IntKind.bits IntKind.u64))) (2 ^ min (Int.toNat (8 : Int)) (IntKind.bits IntKind.u64))))) <|
    tst (decide (IntKind.wrap IntKind.u8 (Int.fdiv (Int.fdiv x0 (2 ^ min (Int.toNat (16 : Int)) (IntKind.bits IntKind.u64))) (2 ^ min (Int.toNat (8 : Int)) (IntKind.bits IntKind.u64))) < (zz 256))) <|
    some (((w64 (w64 (w64 ((0 : Int) + (16 : Int)) + (8 : Int)) + w64 (zz (List.getD [0, 1, 2, 2, 3, 3, 3, 3, 4, 4, 4, 4, 4, 4, 4, 4, 5, 5, 5, 5, 5, 5, 5, 5, 5, 5, 5, 5, 5, 5, 5, 5, 6, 6, 6, 6, 6, 6, 6, 6, 6, 6, 6, 6, 6, 6, 6, 6, 6, 6, 6, 6, 6, 6, 6, 6, 6, 6, 6, 6, 6, 6, 6, 6, 7, 7, 7, 7, 7, 7, 7, 7, 7, 7, 7, 7, 7, 7, 7, 7, 7, 7, 7, 7, 7, 7, 7, 7, 7, 7, 7, 7, 7, 7, 7, 7, 7, 7, 7, 7, 7, 7, 7, 7, 7, 7, 7, 7, 7, 7, 7, 7, 7, 7, 7, 7, 7, 7, 7, 7, 7, 7, 7, 7, 7, 7, 7, 7, 8, 8, 8, 8, 8, 8, 8, 8, 8, 8, 8, 8, 8, 8, 8, 8, 8, 8, 8, 8, 8, 8, 8, 8, 8, 8, 8, 8, 8, 8, 8, 8, 8, 8, 8, 8, 8, 8, 8, 8, 8, 8, 8, 8, 8, 8, 8, 8, 8, 8, 8, 8, 8, 8, 8, 8, 8, 8, 8, 8, 8, 8, 8, 8, 8, 8, 8, 8, 8, 8, 8, 8, 8, 8, 8, 8, 8, 8, 8, 8, 8, 8, 8, 8, 8, 8, 8, 8, 8, 8, 8, 8, 8, 8, 8, 8, 8, 8, 8, 8, 8, 8, 8, 8, 8, 8, 8, 8, 8, 8, 8, 8, 8, 8, 8, 8, 8, 8, 8, 8, 8, 8, 8, 8, 8, 8, 8, 8] (Int.toNat (IntKind.wrap IntKind.u8 (Int.fdiv (Int.fdiv x0 (2 ^ min (Int.toNat (16 : Int)) (IntKind.bits IntKind.u64))) (2 ^ min (Int.toNat (8 : Int)) (IntKind.bits IntKind.u64))))) 0))), ()), ())))
   (tst (decide (0 ≤ IntKind.wrap IntKind.u8 (Int.fdiv x0 (2 ^ min (Int.toNat (16 : Int)) (IntKind.bits IntKind.u64))))) <|
    tst (decide (IntKind.wrap IntKind.u8 (Int.fdiv x0 (2 ^ min (Int.toNat (16 : Int)) (IntKind.bits IntKind.u64))) < (zz 256))) <|
    some (((w64 (w64 ((0 : Int) + (16 : Int)) + w64 (zz (List.getD [0, 1, 2, 2, 3, 3, 3, 3, 4, 4, 4, 4, 4, 4, 4, 4, 5, 5, 5, 5, 5, 5, 5, 5, 5, 5, 5, 5, 5, 5, 5, 5, 6, 6, 6, 6, 6, 6, 6, 6, 6, 6, 6, 6, 6, 6, 6, 6, 6, 6, 6, 6, 6, 6, 6, 6, 6, 6, 6, 6, 6, 6, 6, 6, 7, 7, 7, 7, 7, 7, 7, 7, 7, 7, 7, 7, 7, 7, 7, 7, 7, 7, 7, 7, 7, 7, 7, 7, 7, 7, 7, 7, 7, 7, 7, 7, 7, 7, 7, 7, 7, 7, 7, 7, 7, 7, 7, 7, 7, 7, 7, 7, 7, 7, 7, 7, 7, 7, 7, 7, 7, 7, 7, 7, 7, 7, 7, 7, 8, 8, 8, 8, 8, 8, 8, 8, 8, 8, 8, 8, 8, 8, 8, 8, 8, 8, 8, 8, 8, 8, 8, 8, 8, 8, 8, 8, 8, 8, 8, 8, 8, 8, 8, 8, 8, 8, 8, 8, 8, 8, 8, 8, 8, 8, 8, 8, 8, 8, 8, 8, 8, 8, 8, 8, 8, 8, 8, 8, 8, 8, 8, 8, 8, 8, 8, 8, 8, 8, 8, 8, 8, 8, 8, 8, 8, 8, 8, 8, 8, 8, 8, 8, 8, 8, 8, 8, 8, 8, 8, 8, 8, 8, 8, 8, 8, 8, 8, 8, 8, 8, 8, 8, 8, 8, 8, 8, 8, 8, 8, 8, 8, 8, 8, 8, 8, 8, 8, 8, 8, 8, 8, 8, 8, 8, 8, 8] (Int.toNat (IntKind.wrap IntKind.u8 (Int.fdiv x0 (2 ^ min (Int.toNat (16 : Int)) (IntKind.bits IntKind.u64))))) 0))), ()), ()))))
  (cond (decide (x0 ≥ (256 : Int)))
   (tst (decide (0 ≤ IntKind.wrap IntKind.u8 (Int.fdiv x0 (2 ^ min (Int.toNat (8 : Int)) (IntKind.bits IntKind.u64))))) <|
    tst (decide (IntKind.wrap IntKind.u8 (Int.fdiv x0 (2 ^ min (Int.toNat (8 : Int)) (IntKind.bits IntKind.u64))) < (zz 256))) <|
    some (((w64 (w64 ((0 : Int) + (8 : Int)) + w64 (zz (List.getD [0, 1, 2, 2, 3, 3, 3, 3, 4, 4, 4, 4, 4, 4, 4, 4, 5, 5, 5, 5, 5, 5, 5, 5, 5, 5, 5, 5, 5, 5, 5, 5, 6, 6, 6, 6, 6, 6, 6, 6, 6, 6, 6, 6, 6, 6, 6, 6, 6, 6, 6, 6, 6, 6, 6, 6, 6, 6, 6, 6, 6, 6, 6, 6, 7, 7, 7, 7, 7, 7, 7, 7, 7, 7, 7, 7, 7, 7, 7, 7, 7, 7, 7, 7, 7, 7, 7, 7, 7, 7, 7, 7, 7, 7, 7, 7, 7, 7, 7, 7, 7, 7, 7, 7, 7, 7, 7, 7, 7, 7, 7, 7, 7, 7, 7, 7, 7, 7, 7, 7, 7, 7, 7, 7, 7, 7, 7, 7, 8, 8, 8, 8, 8, 8, 8, 8, 8, 8, 8, 8, 8, 8, 8, 8, 8, 8, 8, 8, 8, 8, 8, 8, 8, 8, 8, 8, 8, 8, 8, 8, 8, 8, 8, 8, 8, 8, 8, 8, 8, 8, 8, 8, 8, 8, 8, 8, 8, 8, 8, 8, 8, 8, 8, 8, 8, 8, 8, 8, 8, 8, 8, 8, 8, 8, 8, 8, 8, 8, 8, 8, 8, 8, 8, 8, 8, 8, 8, 8, 8, 8, 8, 8, 8, 8, 8, 8, 8, 8, 8, 8, 8, 8, 8, 8, 8, 8, 8, 8, 8, 8, 8, 8, 8, 8, 8, 8, 8, 8, 8, 8, 8, 8, 8, 8, 8, 8, 8, 8, 8, 8, 8, 8, 8, 8, 8, 8] (Int.toNat (IntKind.wrap IntKind.u8 (Int.fdiv x0 (2 ^ min (Int.toNat (8 : Int)) (IntKind.bits IntKind.u64))))) 0))), ()), ())))
   (tst (decide (0 ≤ IntKind.wrap IntKind.u8 x0)) <|
    tst (decide (IntKind.wrap IntKind.u8 x0 < (zz 256))) <|
    some (((w64 ((0 : Int) + w64 (zz (List.getD [0, 1, 2, 2, 3, 3, 3, 3, 4, 4, 4, 4, 4, 4, 4, 4, 5, 5, 5, 5, 5, 5, 5, 5, 5, 5, 5, 5, 5, 5, 5, 5, 6, 6, 6, 6, 6, 6, 6, 6, 6, 6, 6, 6, 6, 6, 6, 6, 6, 6, 6, 6, 6, 6, 6, 6, 6, 6, 6, 6, 6, 6, 6, 6, 7, 7, 7, 7, 7, 7, 7, 7, 7, 7, 7, 7, 7, 7, 7, 7, 7, 7, 7, 7, 7, 7, 7, 7, 7, 7, 7, 7, 7, 7, 7, 7, 7, 7, 7, 7, 7, 7, 7, 7, 7, 7, 7, 7, 7, 7, 7, 7, 7, 7, 7, 7, 7, 7, 7, 7, 7, 7, 7, 7, 7, 7, 7, 7, 8, 8, 8, 8, 8, 8, 8, 8, 8, 8, 8, 8, 8, 8, 8, 8, 8, 8, 8, 8, 8, 8, 8, 8, 8, 8, 8, 8, 8, 8, 8, 8, 8, 8, 8, 8, 8, 8, 8, 8, 8, 8, 8, 8, 8, 8, 8, 8, 8, 8, 8, 8, 8, 8, 8, 8, 8, 8, 8, 8, 8, 8, 8, 8, 8, 8, 8, 8, 8, 8, 8, 8, 8, 8, 8, 8, 8, 8, 8, 8, 8, 8, 8, 8, 8, 8, 8, 8, 8, 8, 8, 8, 8, 8, 8, 8, 8, 8, 8, 8, 8, 8, 8, 8, 8, 8, 8, 8, 8, 8, 8, 8, 8, 8, 8, 8, 8, 8, 8, 8, 8, 8, 8, 8, 8, 8, 8, 8] (Int.toNat (IntKind.wrap IntKind.u8 x0)) 0))), ()), ())))))
def math_bits_Len64_fn (fuel : Nat) (x : ((Int × Unit) × Unit)) : Option ((Int × Unit) × Unit) := math_bits_Len64_pre fuel x.1.1
theorem math_bits_Len64_run (fuel : Nat) (x : PsT math_bits_Len64_ps) : run (math_bits_Len64_T fuel) 0 fuel math_bits_Len64_c (env0 (svPs math_bits_Len64_ps x) 0) [] (endF math_bits_Len64_rv math_bits_Len64_rs) = math_bits_Len64_fn fuel x := by kernel_rfl
def math_bits_Len64_tf (fuel : Nat) : TF := ⟨math_bits_Len64_ps, math_bits_Len64_rs, true, math_bits_Len64_fn fuel⟩
theorem math_bits_Len64_spec (fuel : Nat) : FnSpec Tryz.prog 210 (math_bits_Len64_tf fuel) :=
  fn_spec (T := math_bits_Len64_T fuel) (c := bodyOf Tryz.f210) (fn := Tryz.f210) (TabOK.of (entNil) (methNil)) mixed (by kernel_rfl) (by kernel_rfl) math_bits_Len64_l (by kernel_rfl) (Nat.le_of_ble_eq_true (by kernel_rfl)) (rv := math_bits_Len64_rv) (by kernel_rfl) (math_bits_Len64_run fuel)
theorem math_bits_Len64_ok (fuel : Nat) : EntryOK Tryz.prog 210 (math_bits_Len64_tf fuel).te := EntryOK.tf rfl (math_bits_Len64_spec fuel) (isFn (fn := Tryz.f210) (by kernel_rfl) (by kernel_rfl) (by kernel_rfl))
def math_bits_Len_T (fuel : Nat) : Tab := Tab.of [(210, (math_bits_Len64_tf fuel).te)] []
abbrev math_bits_Len_ps : List Pm := [{ cs := [(Kd.int IntKind.u64, false)], ag := false }]
abbrev math_bits_Len_rs : List Pm := [{ cs := [(I6, false)], ag := false }]
def math_bits_Len_ann : List Norm := []
noncomputable def math_bits_Len_c : C := irOf Tryz.prog Tryz.f199 [] math_bits_Len_ann []
theorem math_bits_Len_l : lightC Tryz.prog [] Tryz.f199.ntmps math_bits_Len_ann [] 0 (bodyOf Tryz.f199) = some (math_bits_Len_c, 0) := by kernel_rfl
def math_bits_Len_rv : List (Nat × Option (Nat × Bool)) := [(2, none)]
def math_bits_Len_pre (fuel : Nat) (x0 : Int) : Option ((Int × Unit) × Unit) :=
 Option.bind (math_bits_Len64_fn fuel ((x0, ()), ())) fun y_1 =>
 some (((y_1.1.1, ()), ()))
def math_bits_Len_fn (fuel : Nat) (x : ((Int × Unit) × Unit)) : Option ((Int × Unit) × Unit) := math_bits_Len_pre fuel x.1.1
theorem math_bits_Len_run (fuel : Nat) (x : PsT math_bits_Len_ps) : run (math_bits_Len_T fuel) 0 fuel math_bits_Len_c (env0 (svPs math_bits_Len_ps x) 0) [] (endF math_bits_Len_rv math_bits_Len_rs) = math_bits_Len_fn fuel x := by kernel_rfl
def math_bits_Len_tf (fuel : Nat) : TF := ⟨math_bits_Len_ps, math_bits_Len_rs, true, math_bits_Len_fn fuel⟩
theorem math_bits_Len_spec (fuel : Nat) : FnSpec Tryz.prog 199 (math_bits_Len_tf fuel) :=
  fn_spec (T := math_bits_Len_T fuel) (c := bodyOf Tryz.f199) (fn := Tryz.f199) (TabOK.of (entCons (math_bits_Len64_ok fuel) entNil) (methNil)) mixed (by kernel_rfl) (by kernel_rfl) math_bits_Len_l (by kernel_rfl) (Nat.le_of_ble_eq_true (by kernel_rfl)) (rv := math_bits_Len_rv) (by kernel_rfl) (math_bits_Len_run fuel)
theorem math_bits_Len_ok (fuel : Nat) : EntryOK Tryz.prog 199 (math_bits_Len_tf fuel).te := EntryOK.tf rfl (math_bits_Len_spec fuel) (isFn (fn := Tryz.f199) (by kernel_rfl) (by kernel_rfl) (by kernel_rfl))
def slices_SortFunc_impl_Pair_impl_Pair_v0_T (fuel : Nat) : Tab := Tab.of [(198, (slices_pdqsortCmpFunc_impl_Pair_v0_tf fuel).te), (198, (slices_pdqsortCmpFunc_impl_Pair_v1_tf fuel).te), (199, (math_bits_Len_tf fuel).te)] []
abbrev slices_SortFunc_impl_Pair_impl_Pair_v0_ps : Sh := (.fnc 193 .nil)
abbrev slices_SortFunc_impl_Pair_impl_Pair_v0_rs : List Pm := []
def slices_SortFunc_impl_Pair_impl_Pair_v0_ann : List Norm := []
noncomputable def slices_SortFunc_impl_Pair_impl_Pair_v0_c : C := irOf Tryz.prog Tryz.f195 [] slices_SortFunc_impl_Pair_impl_Pair_v0_ann []
theorem slices_SortFunc_impl_Pair_impl_Pair_v0_l : lightC Tryz.prog [] Tryz.f195.ntmps slices_SortFunc_impl_Pair_impl_Pair_v0_ann [] 0 (bodyOf Tryz.f195) = some (slices_SortFunc_impl_Pair_impl_Pair_v0_c, 0) := by kernel_rfl
def slices_SortFunc_impl_Pair_impl_Pair_v0_rv : List (Nat × Option (Nat × Bool)) := []
def slices_SortFunc_impl_Pair_impl_Pair_v0_pre (fuel : Nat) (d0 : LP) : Option (LP × Unit) :=
 Option.bind (math_bits_Len_fn fuel ((IntKind.wrap IntKind.u64 (zz (List.length d0)), ()), ())) fun y_1 =>
 Option.bind (slices_pdqsortCmpFunc_impl_Pair_v0_fn fuel (d0, (), (0 : Int), (zz (List.length d0)), y_1.1.1, ())) fun y_2 =>
  some ((y_2.1, ()))
def slices_SortFunc_impl_Pair_impl_Pair_v0_fn (fuel : Nat) (z : LP × Unit × Unit) : Option (LP × Unit) := slices_SortFunc_impl_Pair_impl_Pair_v0_pre fuel z.1
theorem slices_SortFunc_impl_Pair_impl_Pair_v0_run (fuel : Nat) (c : List (Kd.T KP)) (d : CsT []) (x : Sh.T slices_SortFunc_impl_Pair_impl_Pair_v0_ps) : run (slices_SortFunc_impl_Pair_impl_Pair_v0_T fuel) 1 fuel slices_SortFunc_impl_Pair_impl_Pair_v0_c ((0, firstV false 0 (svCs [] d)) :: env0 (svS slices_SortFunc_impl_Pair_impl_Pair_v0_ps x) 1) [.arr KP c 0] (endS slices_SortFunc_impl_Pair_impl_Pair_v0_rv KP false slices_SortFunc_impl_Pair_impl_Pair_v0_rs) = slices_SortFunc_impl_Pair_impl_Pair_v0_fn fuel (c, d, x) := by kernel_rfl
def slices_SortFunc_impl_Pair_impl_Pair_v0_tf (fuel : Nat) : TFT := ⟨KP, false, [], slices_SortFunc_impl_Pair_impl_Pair_v0_ps, slices_SortFunc_impl_Pair_impl_Pair_v0_rs, false, slices_SortFunc_impl_Pair_impl_Pair_v0_fn fuel⟩
theorem slices_SortFunc_impl_Pair_impl_Pair_v0_spec (fuel : Nat) : FnSpecT Tryz.prog 195 (slices_SortFunc_impl_Pair_impl_Pair_v0_tf fuel) :=
  fn_specT (T := slices_SortFunc_impl_Pair_impl_Pair_v0_T fuel) (c := bodyOf Tryz.f195) (fn := Tryz.f195) (TabOK.of (entCons (slices_pdqsortCmpFunc_impl_Pair_v0_ok fuel) (entCons (slices_pdqsortCmpFunc_impl_Pair_v1_ok fuel) (entCons (math_bits_Len_ok fuel) entNil))) (methNil)) mixed (by kernel_rfl) (by kernel_rfl) slices_SortFunc_impl_Pair_impl_Pair_v0_l (by kernel_rfl) (Nat.le_of_ble_eq_true (by kernel_rfl)) (rv := slices_SortFunc_impl_Pair_impl_Pair_v0_rv) (by kernel_rfl) (slices_SortFunc_impl_Pair_impl_Pair_v0_run fuel)
theorem slices_SortFunc_impl_Pair_impl_Pair_v0_ok (fuel : Nat) : EntryOK Tryz.prog 195 (slices_SortFunc_impl_Pair_impl_Pair_v0_tf fuel).te := EntryOK.tft (slices_SortFunc_impl_Pair_impl_Pair_v0_spec fuel) (isFn (fn := Tryz.f195) (by kernel_rfl) (by kernel_rfl) (by kernel_rfl))
def slices_SortFunc_impl_Pair_impl_Pair_v1_T (fuel : Nat) : Tab := Tab.of [(198, (slices_pdqsortCmpFunc_impl_Pair_v0_tf fuel).te), (198, (slices_pdqsortCmpFunc_impl_Pair_v1_tf fuel).te), (199, (math_bits_Len_tf fuel).te)] []
abbrev slices_SortFunc_impl_Pair_impl_Pair_v1_ps : Sh := (.fnc 194 .nil)
abbrev slices_SortFunc_impl_Pair_impl_Pair_v1_rs : List Pm := []
def slices_SortFunc_impl_Pair_impl_Pair_v1_ann : List Norm := []
noncomputable def slices_SortFunc_impl_Pair_impl_Pair_v1_c : C := irOf Tryz.prog Tryz.f195 [] slices_SortFunc_impl_Pair_impl_Pair_v1_ann []
theorem slices_SortFunc_impl_Pair_impl_Pair_v1_l : lightC Tryz.prog [] Tryz.f195.ntmps slices_SortFunc_impl_Pair_impl_Pair_v1_ann [] 0 (bodyOf Tryz.f195) = some (slices_SortFunc_impl_Pair_impl_Pair_v1_c, 0) := by kernel_rfl
def slices_SortFunc_impl_Pair_impl_Pair_v1_rv : List (Nat × Option (Nat × Bool)) := []
def slices_SortFunc_impl_Pair_impl_Pair_v1_pre (fuel : Nat) (d0 : LP) : Option (LP × Unit) :=
 Option.bind (math_bits_Len_fn fuel ((IntKind.wrap IntKind.u64 (zz (List.length d0)), ()), ())) fun y_1 =>
 Option.bind (slices_pdqsortCmpFunc_impl_Pair_v1_fn fuel (d0, (), (0 : Int), (zz (List.length d0)), y_1.1.1, ())) fun y_2 =>
  some ((y_2.1, ()))
def slices_SortFunc_impl_Pair_impl_Pair_v1_fn (fuel : Nat) (z : LP × Unit × Unit) : Option (LP × Unit) := slices_SortFunc_impl_Pair_impl_Pair_v1_pre fuel z.1
theorem slices_SortFunc_impl_Pair_impl_Pair_v1_run (fuel : Nat) (c : List (Kd.T KP)) (d : CsT []) (x : Sh.T slices_SortFunc_impl_Pair_impl_Pair_v1_ps) : run (slices_SortFunc_impl_Pair_impl_Pair_v1_T fuel) 1 fuel slices_SortFunc_impl_Pair_impl_Pair_v1_c ((0, firstV false 0 (svCs [] d)) :: env0 (svS slices_SortFunc_impl_Pair_impl_Pair_v1_ps x) 1) [.arr KP c 0] (endS slices_SortFunc_impl_Pair_impl_Pair_v1_rv KP false slices_SortFunc_impl_Pair_impl_Pair_v1_rs) = slices_SortFunc_impl_Pair_impl_Pair_v1_fn fuel (c, d, x) := by kernel_rfl
def slices_SortFunc_impl_Pair_impl_Pair_v1_tf (fuel : Nat) : TFT := ⟨KP, false, [], slices_SortFunc_impl_Pair_impl_Pair_v1_ps, slices_SortFunc_impl_Pair_impl_Pair_v1_rs, false, slices_SortFunc_impl_Pair_impl_Pair_v1_fn fuel⟩
theorem slices_SortFunc_impl_Pair_impl_Pair_v1_spec (fuel : Nat) : FnSpecT Tryz.prog 195 (slices_SortFunc_impl_Pair_impl_Pair_v1_tf fuel) :=
  fn_specT (T := slices_SortFunc_impl_Pair_impl_Pair_v1_T fuel) (c := bodyOf Tryz.f195) (fn := Tryz.f195) (TabOK.of (entCons (slices_pdqsortCmpFunc_impl_Pair_v0_ok fuel) (entCons (slices_pdqsortCmpFunc_impl_Pair_v1_ok fuel) (entCons (math_bits_Len_ok fuel) entNil))) (methNil)) mixed (by kernel_rfl) (by kernel_rfl) slices_SortFunc_impl_Pair_impl_Pair_v1_l (by kernel_rfl) (Nat.le_of_ble_eq_true (by kernel_rfl)) (rv := slices_SortFunc_impl_Pair_impl_Pair_v1_rv) (by kernel_rfl) (slices_SortFunc_impl_Pair_impl_Pair_v1_run fuel)
theorem slices_SortFunc_impl_Pair_impl_Pair_v1_ok (fuel : Nat) : EntryOK Tryz.prog 195 (slices_SortFunc_impl_Pair_impl_Pair_v1_tf fuel).te := EntryOK.tft (slices_SortFunc_impl_Pair_impl_Pair_v1_spec fuel) (isFn (fn := Tryz.f195) (by kernel_rfl) (by kernel_rfl) (by kernel_rfl))
def impl_sortPairs_v0_T (fuel : Nat) : Tab := Tab.of [(195, (slices_SortFunc_impl_Pair_impl_Pair_v0_tf fuel).te), (195, (slices_SortFunc_impl_Pair_impl_Pair_v1_tf fuel).te)] []
abbrev impl_sortPairs_v0_ps : Sh := (.num .i64 (0) .nil)
abbrev impl_sortPairs_v0_rs : List Pm := []
def impl_sortPairs_v0_ann : List Norm := []
noncomputable def impl_sortPairs_v0_c : C := irOf Tryz.prog Tryz.f183 [] impl_sortPairs_v0_ann []
theorem impl_sortPairs_v0_l : lightC Tryz.prog [] Tryz.f183.ntmps impl_sortPairs_v0_ann [] 0 (bodyOf Tryz.f183) = some (impl_sortPairs_v0_c, 0) := by kernel_rfl
def impl_sortPairs_v0_rv : List (Nat × Option (Nat × Bool)) := []
def impl_sortPairs_v0_pre (fuel : Nat) (d0 : LP) : Option (LP × Unit) :=
 Option.bind (slices_SortFunc_impl_Pair_impl_Pair_v0_fn fuel (d0, (), ())) fun y_1 =>
 some ((y_1.1, ()))
def impl_sortPairs_v0_fn (fuel : Nat) (z : LP × Unit × Unit) : Option (LP × Unit) := impl_sortPairs_v0_pre fuel z.1
theorem impl_sortPairs_v0_run (fuel : Nat) (c : List (Kd.T KP)) (d : CsT []) (x : Sh.T impl_sortPairs_v0_ps) : run (impl_sortPairs_v0_T fuel) 1 fuel impl_sortPairs_v0_c ((0, firstV false 0 (svCs [] d)) :: env0 (svS impl_sortPairs_v0_ps x) 1) [.arr KP c 0] (endS impl_sortPairs_v0_rv KP false impl_sortPairs_v0_rs) = impl_sortPairs_v0_fn fuel (c, d, x) := by kernel_rfl
def impl_sortPairs_v0_tf (fuel : Nat) : TFT := ⟨KP, false, [], impl_sortPairs_v0_ps, impl_sortPairs_v0_rs, false, impl_sortPairs_v0_fn fuel⟩
theorem impl_sortPairs_v0_spec (fuel : Nat) : FnSpecT Tryz.prog 183 (impl_sortPairs_v0_tf fuel) :=
  fn_specT (T := impl_sortPairs_v0_T fuel) (c := bodyOf Tryz.f183) (fn := Tryz.f183) (TabOK.of (entCons (slices_SortFunc_impl_Pair_impl_Pair_v0_ok fuel) (entCons (slices_SortFunc_impl_Pair_impl_Pair_v1_ok fuel) entNil)) (methNil)) mixed (by kernel_rfl) (by kernel_rfl) impl_sortPairs_v0_l (by kernel_rfl) (Nat.le_of_ble_eq_true (by kernel_rfl)) (rv := impl_sortPairs_v0_rv) (by kernel_rfl) (impl_sortPairs_v0_run fuel)
theorem impl_sortPairs_v0_ok (fuel : Nat) : EntryOK Tryz.prog 183 (impl_sortPairs_v0_tf fuel).te := EntryOK.tft (impl_sortPairs_v0_spec fuel) (isFn (fn := Tryz.f183) (by kernel_rfl) (by kernel_rfl) (by kernel_rfl))
def impl_sortPairs_v1_T (fuel : Nat) : Tab := Tab.of [(195, (slices_SortFunc_impl_Pair_impl_Pair_v0_tf fuel).te), (195, (slices_SortFunc_impl_Pair_impl_Pair_v1_tf fuel).te)] []
abbrev impl_sortPairs_v1_ps : Sh := (.num .i64 (1) .nil)
abbrev impl_sortPairs_v1_rs : List Pm := []
def impl_sortPairs_v1_ann : List Norm := []
noncomputable def impl_sortPairs_v1_c : C := irOf Tryz.prog Tryz.f183 [] impl_sortPairs_v1_ann []
theorem impl_sortPairs_v1_l : lightC Tryz.prog [] Tryz.f183.ntmps impl_sortPairs_v1_ann [] 0 (bodyOf Tryz.f183) = some (impl_sortPairs_v1_c, 0) := by kernel_rfl
def impl_sortPairs_v1_rv : List (Nat × Option (Nat × Bool)) := []
def impl_sortPairs_v1_pre (fuel : Nat) (d0 : LP) : Option (LP × Unit) :=
 Option.bind (slices_SortFunc_impl_Pair_impl_Pair_v1_fn fuel (d0, (), ())) fun y_1 =>
 some ((y_1.1, ()))
def impl_sortPairs_v1_fn (fuel : Nat) (z : LP × Unit × Unit) : Option (LP × Unit) := impl_sortPairs_v1_pre fuel z.1
theorem impl_sortPairs_v1_run (fuel : Nat) (c : List (Kd.T KP)) (d : CsT []) (x : Sh.T impl_sortPairs_v1_ps) : run (impl_sortPairs_v1_T fuel) 1 fuel impl_sortPairs_v1_c ((0, firstV false 0 (svCs [] d)) :: env0 (svS impl_sortPairs_v1_ps x) 1) [.arr KP c 0] (endS impl_sortPairs_v1_rv KP false impl_sortPairs_v1_rs) = impl_sortPairs_v1_fn fuel (c, d, x) := by kernel_rfl
def impl_sortPairs_v1_tf (fuel : Nat) : TFT := ⟨KP, false, [], impl_sortPairs_v1_ps, impl_sortPairs_v1_rs, false, impl_sortPairs_v1_fn fuel⟩
theorem impl_sortPairs_v1_spec (fuel : Nat) : FnSpecT Tryz.prog 183 (impl_sortPairs_v1_tf fuel) :=
  fn_specT (T := impl_sortPairs_v1_T fuel) (c := bodyOf Tryz.f183) (fn := Tryz.f183) (TabOK.of (entCons (slices_SortFunc_impl_Pair_impl_Pair_v0_ok fuel) (entCons (slices_SortFunc_impl_Pair_impl_Pair_v1_ok fuel) entNil)) (methNil)) mixed (by kernel_rfl) (by kernel_rfl) impl_sortPairs_v1_l (by kernel_rfl) (Nat.le_of_ble_eq_true (by kernel_rfl)) (rv := impl_sortPairs_v1_rv) (by kernel_rfl) (impl_sortPairs_v1_run fuel)
theorem impl_sortPairs_v1_ok (fuel : Nat) : EntryOK Tryz.prog 183 (impl_sortPairs_v1_tf fuel).te := EntryOK.tft (impl_sortPairs_v1_spec fuel) (isFn (fn := Tryz.f183) (by kernel_rfl) (by kernel_rfl) (by kernel_rfl))
end Go.Proofs.YtdgdoeknpakmlaaGreat.Den
namespace Go.Proofs.YtdgdoeknpakmlaaGreat.Den
open Go Go.RowKit
set_option linter.unusedVariables false
set_option linter.unusedSimpArgs false
abbrev impl_cutTop_R := Option ((LP × (Int × (Int × Unit))) × Unit)
def impl_cutTop_T (fuel : Nat) : Tab := Tab.of [(182, (slices_Clone_impl_Pair_impl_Pair_tf fuel).te), (183, (impl_sortPairs_v0_tf fuel).te), (183, (impl_sortPairs_v1_tf fuel).te)] []
abbrev impl_cutTop_ps : List Pm := [{ cs := [(Kd.list KP, false), (I6, false), (I6, false)], ag := true }]
abbrev impl_cutTop_rs : List Pm := [{ cs := [(Kd.list KP, false), (I6, false), (I6, false)], ag := true }]
def impl_cutTop_ann : List Norm := [{ live := [26, 25, 24, 4, 5, 1, 2], fix := [] }]
noncomputable def impl_cutTop_c : C := irOf Tryz.prog Tryz.f136 [] impl_cutTop_ann []
theorem impl_cutTop_l : lightC Tryz.prog [] Tryz.f136.ntmps impl_cutTop_ann [] 0 (bodyOf Tryz.f136) = some (impl_cutTop_c, 1) := by kernel_rfl
def impl_cutTop_rv : List (Nat × Option (Nat × Bool)) := [(2, some (3, true))]
abbrev impl_cutTop_V0 := (Int) × (Int) × LP × (Int) × LP × LP × (Int) × (Int) × (Int) × (Int)
def impl_cutTop_enc0 (v : impl_cutTop_V0) : Env × Heap := ([(26, SV.int .i64 v.1), (25, SV.int .i64 v.2.1), (24, SV.es KP v.2.2.1), (4, SV.int .i64 v.2.2.2.1), (5, SV.own 0), (1, SV.ptr 1 0), (2, SV.ptr 2 0)], [Blk.arr KP v.2.2.2.2.1 0, Blk.cells [SV.es KP v.2.2.2.2.2.1, SV.int .i64 v.2.2.2.2.2.2.1, SV.int .i64 v.2.2.2.2.2.2.2.1] 0 3, Blk.cells [SV.nils, SV.int .i64 v.2.2.2.2.2.2.2.2.1, SV.int .i64 v.2.2.2.2.2.2.2.2.2] 0 3])
def impl_cutTop_step0 (fuel : Nat) (g0 : impl_cutTop_V0 → impl_cutTop_R) (v : impl_cutTop_V0) : impl_cutTop_R :=
 cond (decide (v.1 < v.2.1))
 (tst (decide (0 ≤ v.1)) <|
  tst (decide (v.1 < (zz (List.length v.2.2.1)))) <|
  cond (decide ((List.getD v.2.2.1 (Int.toNat v.1) (0, (0, ()))).2.1 > v.2.2.2.1))
  (tst (decide (List.length v.2.2.2.2.1 + 1 < LIM)) <|
   g0 (w64 (v.1 + (1 : Int)), v.2.1, v.2.2.1, v.2.2.2.1, v.2.2.2.2.1 ++ [((List.getD v.2.2.1 (Int.toNat v.1) (0, (0, ()))).1, w64 ((List.getD v.2.2.1 (Int.toNat v.1) (0, (0, ()))).2.1 - v.2.2.2.1), ())], v.2.2.2.2.2.1, v.2.2.2.2.2.2.1, v.2.2.2.2.2.2.2.1, v.2.2.2.2.2.2.2.2.1, v.2.2.2.2.2.2.2.2.2))
  (g0 (w64 (v.1 + (1 : Int)), v.2.1, v.2.2.1, v.2.2.2.1, v.2.2.2.2.1, v.2.2.2.2.2.1, v.2.2.2.2.2.2.1, v.2.2.2.2.2.2.2.1, v.2.2.2.2.2.2.2.2.1, v.2.2.2.2.2.2.2.2.2)))
 (some (((v.2.2.2.2.1, w64 (v.2.2.2.2.2.2.1 + v.2.2.2.1), v.2.2.2.2.2.2.2.1, ()), ())))
def impl_cutTop_st0 (fuel : Nat) (g0 : impl_cutTop_V0 → impl_cutTop_R) : impl_cutTop_V0 → impl_cutTop_R := impl_cutTop_step0 fuel g0
theorem impl_cutTop_lp0 (fuel : Nat) (G) : impl_cutTop_c.lp (impl_cutTop_T fuel) 0 fuel G (endF impl_cutTop_rv impl_cutTop_rs) 0 impl_cutTop_enc0 = iter (impl_cutTop_st0 fuel) fuel := C.lp_iter fun g v => by kernel_rfl
def impl_cutTop_pre (fuel : Nat) (X0 : impl_cutTop_V0 → impl_cutTop_R) (x0 : LP) (x1 : Int) (x2 : Int) : impl_cutTop_R :=
 cond (decide ((zz (List.length x0)) ≤ (4 : Int)))
 (some (((x0, x1, x2, ()), ())))
 (Option.bind (slices_Clone_impl_Pair_impl_Pair_fn fuel ((x0, ()), ())) fun y_2 =>
  Option.bind (impl_sortPairs_v1_fn fuel (y_2.1.1, (), ())) fun y_3 =>
   tst (decide ((4 : Int) < (zz (List.length y_3.1)))) <|
    tst (decide (Int.toNat (4 : Int) < List.length y_3.1)) <|
    X0 ((0 : Int), (zz (List.length x0)), x0, (List.getD y_3.1 (Int.toNat (4 : Int)) (0, (0, ()))).2.1, List.replicate (Int.toNat (0 : Int)) (0, (0, ())), x0, x1, x2, (0 : Int), (0 : Int)))
def impl_cutTop_fn (fuel : Nat) (x : ((LP × (Int × (Int × Unit))) × Unit)) : impl_cutTop_R := impl_cutTop_pre fuel (iter (impl_cutTop_st0 fuel) fuel) x.1.1 x.1.2.1 x.1.2.2.1
theorem impl_cutTop_run (fuel : Nat) (x : PsT impl_cutTop_ps) : run (impl_cutTop_T fuel) 0 fuel impl_cutTop_c (env0 (svPs impl_cutTop_ps x) 0) [] (endF impl_cutTop_rv impl_cutTop_rs) = impl_cutTop_fn fuel x :=
  (show run (impl_cutTop_T fuel) 0 fuel impl_cutTop_c (env0 (svPs impl_cutTop_ps x) 0) [] (endF impl_cutTop_rv impl_cutTop_rs) = impl_cutTop_pre fuel (impl_cutTop_c.lp (impl_cutTop_T fuel) 0 fuel (fun _ _ _ => none) (endF impl_cutTop_rv impl_cutTop_rs) 0 impl_cutTop_enc0) x.1.1 x.1.2.1 x.1.2.2.1 by kernel_rfl).trans (by rw [impl_cutTop_lp0]; rfl)
def impl_cutTop_tf (fuel : Nat) : TF := ⟨impl_cutTop_ps, impl_cutTop_rs, false, impl_cutTop_fn fuel⟩
theorem impl_cutTop_spec (fuel : Nat) : FnSpec Tryz.prog 136 (impl_cutTop_tf fuel) :=
  fn_spec (T := impl_cutTop_T fuel) (c := bodyOf Tryz.f136) (fn := Tryz.f136) (TabOK.of (entCons (slices_Clone_impl_Pair_impl_Pair_ok fuel) (entCons (impl_sortPairs_v0_ok fuel) (entCons (impl_sortPairs_v1_ok fuel) entNil))) (methNil)) mixed (by kernel_rfl) (by kernel_rfl) impl_cutTop_l (by kernel_rfl) (Nat.le_of_ble_eq_true (by kernel_rfl)) (rv := impl_cutTop_rv) (by kernel_rfl) (impl_cutTop_run fuel)
theorem impl_cutTop_ok (fuel : Nat) : EntryOK Tryz.prog 136 (impl_cutTop_tf fuel).te := EntryOK.tf rfl (impl_cutTop_spec fuel) (isFn (fn := Tryz.f136) (by kernel_rfl) (by kernel_rfl) (by kernel_rfl))
def slices_Grow_impl_Pair_impl_Pair_T (fuel : Nat) : Tab := Tab.of [] []
abbrev slices_Grow_impl_Pair_impl_Pair_ps : Sh := (.nls (.cell I6 0 .nil))
abbrev slices_Grow_impl_Pair_impl_Pair_rs : Sh := (.cell (Kd.list KP) 1 .nil)
def slices_Grow_impl_Pair_impl_Pair_ann : List Norm := []
noncomputable def slices_Grow_impl_Pair_impl_Pair_c : C := irOf Tryz.prog Tryz.f196 [] slices_Grow_impl_Pair_impl_Pair_ann []
theorem slices_Grow_impl_Pair_impl_Pair_l : lightC Tryz.prog [] Tryz.f196.ntmps slices_Grow_impl_Pair_impl_Pair_ann [] 0 (bodyOf Tryz.f196) = some (slices_Grow_impl_Pair_impl_Pair_c, 0) := by kernel_rfl
def slices_Grow_impl_Pair_impl_Pair_rv : List (Nat × Option (Nat × Bool)) := [(4, none)]
def slices_Grow_impl_Pair_impl_Pair_pre (fuel : Nat) (x0 : Int) : Option (LP × Unit) :=
 cond (decide (x0 < (0 : Int)))
 (none)
 (cond (decide (w64 (x0 - w64 (0 - (zz 0))) > (0 : Int)))
  (tst (decide (0 ≤ w64 (x0 - w64 (0 - (zz 0))))) <|
   tst (decide (Int.toNat (w64 (x0 - w64 (0 - (zz 0)))) < LIM)) <|
   tst (decide ((zz 0) ≤ (zz (List.length (List.replicate (Int.toNat (w64 (x0 - w64 (0 - (zz 0))))) (Kd.dflt KP)))))) <|
   some ((List.take (Int.toNat (zz 0) - 0) (List.drop 0 (List.replicate (Int.toNat (w64 (x0 - w64 (0 - (zz 0))))) (0, (0, ())))), ())))
  (some (([], ()))))
def slices_Grow_impl_Pair_impl_Pair_fn (fuel : Nat) (x : (Int × Unit)) : Option (LP × Unit) := slices_Grow_impl_Pair_impl_Pair_pre fuel x.1
theorem slices_Grow_impl_Pair_impl_Pair_run (fuel : Nat) (x : Sh.T slices_Grow_impl_Pair_impl_Pair_ps) : run (slices_Grow_impl_Pair_impl_Pair_T fuel) 0 fuel slices_Grow_impl_Pair_impl_Pair_c (env0 (svS slices_Grow_impl_Pair_impl_Pair_ps x) 0) [] (endG slices_Grow_impl_Pair_impl_Pair_rv slices_Grow_impl_Pair_impl_Pair_rs) = slices_Grow_impl_Pair_impl_Pair_fn fuel x := by kernel_rfl
def slices_Grow_impl_Pair_impl_Pair_tf (fuel : Nat) : TG := ⟨slices_Grow_impl_Pair_impl_Pair_ps, slices_Grow_impl_Pair_impl_Pair_rs, true, slices_Grow_impl_Pair_impl_Pair_fn fuel⟩
theorem slices_Grow_impl_Pair_impl_Pair_spec (fuel : Nat) : FnSpecG Tryz.prog 196 (slices_Grow_impl_Pair_impl_Pair_tf fuel) :=
  fn_specG (T := slices_Grow_impl_Pair_impl_Pair_T fuel) (c := bodyOf Tryz.f196) (fn := Tryz.f196) (TabOK.of (entNil) (methNil)) mixed (by kernel_rfl) (by kernel_rfl) slices_Grow_impl_Pair_impl_Pair_l (by kernel_rfl) (Nat.le_of_ble_eq_true (by kernel_rfl)) (rv := slices_Grow_impl_Pair_impl_Pair_rv) (by kernel_rfl) (fun x y h => (slices_Grow_impl_Pair_impl_Pair_run fuel x).trans h)
theorem slices_Grow_impl_Pair_impl_Pair_ok (fuel : Nat) : EntryOK Tryz.prog 196 (slices_Grow_impl_Pair_impl_Pair_tf fuel).te := EntryOK.tg rfl (slices_Grow_impl_Pair_impl_Pair_spec fuel) (isFn (fn := Tryz.f196) (by kernel_rfl) (by kernel_rfl) (by kernel_rfl))
abbrev slices_Concat_impl_Pair_impl_Pair_R := Option ((LP × Unit) × Unit)
def slices_Concat_impl_Pair_impl_Pair_T (fuel : Nat) : Tab := Tab.of [(196, (slices_Grow_impl_Pair_impl_Pair_tf fuel).te)] []
abbrev slices_Concat_impl_Pair_impl_Pair_ps : List Pm := [{ cs := [(Kd.list (Kd.list KP), false)], ag := false }]
abbrev slices_Concat_impl_Pair_impl_Pair_rs : List Pm := [{ cs := [(Kd.list KP, true)], ag := false }]
def slices_Concat_impl_Pair_impl_Pair_ann : List Norm := [{ live := [11, 10, 9, 3, 0], fix := [] }, { live := [27, 26, 25, 6], fix := [] }]
noncomputable def slices_Concat_impl_Pair_impl_Pair_c : C := irOf Tryz.prog Tryz.f184 [] slices_Concat_impl_Pair_impl_Pair_ann []
theorem slices_Concat_impl_Pair_impl_Pair_l : lightC Tryz.prog [] Tryz.f184.ntmps slices_Concat_impl_Pair_impl_Pair_ann [] 0 (bodyOf Tryz.f184) = some (slices_Concat_impl_Pair_impl_Pair_c, 2) := by kernel_rfl
def slices_Concat_impl_Pair_impl_Pair_rv : List (Nat × Option (Nat × Bool)) := [(2, none)]
abbrev slices_Concat_impl_Pair_impl_Pair_V0 := (Int) × (Int) × (List LP) × (Int) × (List LP)
abbrev slices_Concat_impl_Pair_impl_Pair_V1 := (Int) × (Int) × (List LP) × LP
def slices_Concat_impl_Pair_impl_Pair_enc0 (v : slices_Concat_impl_Pair_impl_Pair_V0) : Env × Heap := ([(11, SV.int .i64 v.1), (10, SV.int .i64 v.2.1), (9, SV.es (Kd.list KP) v.2.2.1), (3, SV.int .i64 v.2.2.2.1), (0, SV.es (Kd.list KP) v.2.2.2.2)], [])
def slices_Concat_impl_Pair_impl_Pair_enc1 (v : slices_Concat_impl_Pair_impl_Pair_V1) : Env × Heap := ([(27, SV.int .i64 v.1), (26, SV.int .i64 v.2.1), (25, SV.es (Kd.list KP) v.2.2.1), (6, SV.own 0)], [Blk.arr KP v.2.2.2 0])
def slices_Concat_impl_Pair_impl_Pair_step1 (fuel : Nat) (g1 : slices_Concat_impl_Pair_impl_Pair_V1 → slices_Concat_impl_Pair_impl_Pair_R) (v : slices_Concat_impl_Pair_impl_Pair_V1) : slices_Concat_impl_Pair_impl_Pair_R :=
 cond (decide (v.1 < v.2.1))
 (tst (decide (0 ≤ v.1)) <|
  tst (decide (v.1 < (zz (List.length v.2.2.1)))) <|
  tst (decide (List.length v.2.2.2 + List.length (List.getD v.2.2.1 (Int.toNat v.1) []) < LIM)) <|
  g1 (w64 (v.1 + (1 : Int)), v.2.1, v.2.2.1, v.2.2.2 ++ List.getD v.2.2.1 (Int.toNat v.1) []))
 (some (((v.2.2.2, ()), ())))
def slices_Concat_impl_Pair_impl_Pair_st1 (fuel : Nat) (g1 : slices_Concat_impl_Pair_impl_Pair_V1 → slices_Concat_impl_Pair_impl_Pair_R) : slices_Concat_impl_Pair_impl_Pair_V1 → slices_Concat_impl_Pair_impl_Pair_R := slices_Concat_impl_Pair_impl_Pair_step1 fuel g1
theorem slices_Concat_impl_Pair_impl_Pair_lp1 (fuel : Nat) (G) : slices_Concat_impl_Pair_impl_Pair_c.lp (slices_Concat_impl_Pair_impl_Pair_T fuel) 0 fuel G (endF slices_Concat_impl_Pair_impl_Pair_rv slices_Concat_impl_Pair_impl_Pair_rs) 1 slices_Concat_impl_Pair_impl_Pair_enc1 = iter (slices_Concat_impl_Pair_impl_Pair_st1 fuel) fuel := C.lp_iter fun g v => by kernel_rfl
def slices_Concat_impl_Pair_impl_Pair_step0 (fuel : Nat) (X1 : slices_Concat_impl_Pair_impl_Pair_V1 → slices_Concat_impl_Pair_impl_Pair_R) (g0 : slices_Concat_impl_Pair_impl_Pair_V0 → slices_Concat_impl_Pair_impl_Pair_R) (v : slices_Concat_impl_Pair_impl_Pair_V0) : slices_Concat_impl_Pair_impl_Pair_R :=
 cond (decide (v.1 < v.2.1))
 (tst (decide (0 ≤ v.1)) <|
  tst (decide (v.1 < (zz (List.length v.2.2.1)))) <|
  cond (decide (w64 (v.2.2.2.1 + (zz (List.length (List.getD v.2.2.1 (Int.toNat v.1) [])))) < (0 : Int)))
  (none)
  (g0 (w64 (v.1 + (1 : Int)), v.2.1, v.2.2.1, w64 (v.2.2.2.1 + (zz (List.length (List.getD v.2.2.1 (Int.toNat v.1) [])))), v.2.2.2.2)))
 (Option.bind (slices_Grow_impl_Pair_impl_Pair_fn fuel (v.2.2.2.1, ())) fun y_2 =>
  X1 ((0 : Int), (zz (List.length v.2.2.2.2)), v.2.2.2.2, y_2.1))
def slices_Concat_impl_Pair_impl_Pair_st0 (fuel : Nat) (g0 : slices_Concat_impl_Pair_impl_Pair_V0 → slices_Concat_impl_Pair_impl_Pair_R) : slices_Concat_impl_Pair_impl_Pair_V0 → slices_Concat_impl_Pair_impl_Pair_R := slices_Concat_impl_Pair_impl_Pair_step0 fuel (iter (slices_Concat_impl_Pair_impl_Pair_st1 fuel) fuel) g0
theorem slices_Concat_impl_Pair_impl_Pair_lp0 (fuel : Nat) (G) : slices_Concat_impl_Pair_impl_Pair_c.lp (slices_Concat_impl_Pair_impl_Pair_T fuel) 0 fuel G (endF slices_Concat_impl_Pair_impl_Pair_rv slices_Concat_impl_Pair_impl_Pair_rs) 0 slices_Concat_impl_Pair_impl_Pair_enc0 = iter (slices_Concat_impl_Pair_impl_Pair_st0 fuel) fuel := C.lp_iter fun g v =>
  (show run (slices_Concat_impl_Pair_impl_Pair_T fuel) 0 fuel (slices_Concat_impl_Pair_impl_Pair_c.bdAt 0) (slices_Concat_impl_Pair_impl_Pair_enc0 v).1 (slices_Concat_impl_Pair_impl_Pair_enc0 v).2 (loopK 0 (slices_Concat_impl_Pair_impl_Pair_c.nmAt 0) g (slices_Concat_impl_Pair_impl_Pair_c.contAt (slices_Concat_impl_Pair_impl_Pair_T fuel) 0 fuel G 0 0 (endF slices_Concat_impl_Pair_impl_Pair_rv slices_Concat_impl_Pair_impl_Pair_rs))) = slices_Concat_impl_Pair_impl_Pair_step0 fuel (slices_Concat_impl_Pair_impl_Pair_c.lp (slices_Concat_impl_Pair_impl_Pair_T fuel) 0 fuel (fun m => bif Nat.beq m 0 then g else G m) (endF slices_Concat_impl_Pair_impl_Pair_rv slices_Concat_impl_Pair_impl_Pair_rs) 1 slices_Concat_impl_Pair_impl_Pair_enc1) (fun v => g (slices_Concat_impl_Pair_impl_Pair_enc0 v).1 (slices_Concat_impl_Pair_impl_Pair_enc0 v).2) v by kernel_rfl).trans (by rw [slices_Concat_impl_Pair_impl_Pair_lp1]; rfl)
def slices_Concat_impl_Pair_impl_Pair_pre (fuel : Nat) (X0 : slices_Concat_impl_Pair_impl_Pair_V0 → slices_Concat_impl_Pair_impl_Pair_R) (x0 : List LP) : slices_Concat_impl_Pair_impl_Pair_R :=
 X0 ((0 : Int), (zz (List.length x0)), x0, (0 : Int), x0)
def slices_Concat_impl_Pair_impl_Pair_fn (fuel : Nat) (x : (((List LP) × Unit) × Unit)) : slices_Concat_impl_Pair_impl_Pair_R := slices_Concat_impl_Pair_impl_Pair_pre fuel (iter (slices_Concat_impl_Pair_impl_Pair_st0 fuel) fuel) x.1.1
theorem slices_Concat_impl_Pair_impl_Pair_run (fuel : Nat) (x : PsT slices_Concat_impl_Pair_impl_Pair_ps) : run (slices_Concat_impl_Pair_impl_Pair_T fuel) 0 fuel slices_Concat_impl_Pair_impl_Pair_c (env0 (svPs slices_Concat_impl_Pair_impl_Pair_ps x) 0) [] (endF slices_Concat_impl_Pair_impl_Pair_rv slices_Concat_impl_Pair_impl_Pair_rs) = slices_Concat_impl_Pair_impl_Pair_fn fuel x :=
  (show run (slices_Concat_impl_Pair_impl_Pair_T fuel) 0 fuel slices_Concat_impl_Pair_impl_Pair_c (env0 (svPs slices_Concat_impl_Pair_impl_Pair_ps x) 0) [] (endF slices_Concat_impl_Pair_impl_Pair_rv slices_Concat_impl_Pair_impl_Pair_rs) = slices_Concat_impl_Pair_impl_Pair_pre fuel (slices_Concat_impl_Pair_impl_Pair_c.lp (slices_Concat_impl_Pair_impl_Pair_T fuel) 0 fuel (fun _ _ _ => none) (endF slices_Concat_impl_Pair_impl_Pair_rv slices_Concat_impl_Pair_impl_Pair_rs) 0 slices_Concat_impl_Pair_impl_Pair_enc0) x.1.1 by kernel_rfl).trans (by rw [slices_Concat_impl_Pair_impl_Pair_lp0]; rfl)
def slices_Concat_impl_Pair_impl_Pair_tf (fuel : Nat) : TF := ⟨slices_Concat_impl_Pair_impl_Pair_ps, slices_Concat_impl_Pair_impl_Pair_rs, true, slices_Concat_impl_Pair_impl_Pair_fn fuel⟩
theorem slices_Concat_impl_Pair_impl_Pair_spec (fuel : Nat) : FnSpec Tryz.prog 184 (slices_Concat_impl_Pair_impl_Pair_tf fuel) :=
  fn_spec (T := slices_Concat_impl_Pair_impl_Pair_T fuel) (c := bodyOf Tryz.f184) (fn := Tryz.f184) (TabOK.of (entCons (slices_Grow_impl_Pair_impl_Pair_ok fuel) entNil) (methNil)) mixed (by kernel_rfl) (by kernel_rfl) slices_Concat_impl_Pair_impl_Pair_l (by kernel_rfl) (Nat.le_of_ble_eq_true (by kernel_rfl)) (rv := slices_Concat_impl_Pair_impl_Pair_rv) (by kernel_rfl) (slices_Concat_impl_Pair_impl_Pair_run fuel)
theorem slices_Concat_impl_Pair_impl_Pair_ok (fuel : Nat) : EntryOK Tryz.prog 184 (slices_Concat_impl_Pair_impl_Pair_tf fuel).te := EntryOK.tf rfl (slices_Concat_impl_Pair_impl_Pair_spec fuel) (isFn (fn := Tryz.f184) (by kernel_rfl) (by kernel_rfl) (by kernel_rfl))
abbrev impl_bothPairs_R := Option ((LP × Unit) × Unit)
def impl_bothPairs_T (fuel : Nat) : Tab := Tab.of [(183, (impl_sortPairs_v0_tf fuel).te), (183, (impl_sortPairs_v1_tf fuel).te), (184, (slices_Concat_impl_Pair_impl_Pair_tf fuel).te)] []
abbrev impl_bothPairs_ps : List Pm := [{ cs := [(Kd.list KP, false)], ag := false }, { cs := [(Kd.list KP, false)], ag := false }]
abbrev impl_bothPairs_rs : List Pm := [{ cs := [(Kd.list KP, true)], ag := false }]
def impl_bothPairs_ann : List Norm := [{ live := [21, 20, 19, 6], fix := [] }]
noncomputable def impl_bothPairs_c : C := irOf Tryz.prog Tryz.f137 [] impl_bothPairs_ann []
theorem impl_bothPairs_l : lightC Tryz.prog [] Tryz.f137.ntmps impl_bothPairs_ann [] 0 (bodyOf Tryz.f137) = some (impl_bothPairs_c, 1) := by kernel_rfl
def impl_bothPairs_rv : List (Nat × Option (Nat × Bool)) := [(4, none)]
abbrev impl_bothPairs_V0 := (Int) × (Int) × LP × LP
def impl_bothPairs_enc0 (v : impl_bothPairs_V0) : Env × Heap := ([(21, SV.int .i64 v.1), (20, SV.int .i64 v.2.1), (19, SV.own 0), (6, SV.own 1)], [Blk.arr KP v.2.2.1 0, Blk.arr KP v.2.2.2 0])
def impl_bothPairs_step0 (fuel : Nat) (g0 : impl_bothPairs_V0 → impl_bothPairs_R) (v : impl_bothPairs_V0) : impl_bothPairs_R :=
 cond (decide (v.1 < v.2.1))
 (tst (decide (0 ≤ v.1)) <|
  tst (decide (v.1 < (zz (List.length v.2.2.1)))) <|
  tst (decide (Int.toNat v.1 < List.length v.2.2.1)) <|
  cond (decide (w64 ((zz (List.length v.2.2.2)) - (1 : Int)) ≥ (0 : Int)))
  (tst (decide (0 ≤ w64 ((zz (List.length v.2.2.2)) - (1 : Int)))) <|
   tst (decide (w64 ((zz (List.length v.2.2.2)) - (1 : Int)) < (zz (List.length v.2.2.2)))) <|
   tst (decide (Int.toNat (w64 ((zz (List.length v.2.2.2)) - (1 : Int))) < List.length v.2.2.2)) <|
   cond ((List.getD v.2.2.2 (Int.toNat (w64 ((zz (List.length v.2.2.2)) - (1 : Int)))) (0, (0, ()))).1 == (List.getD v.2.2.1 (Int.toNat v.1) (0, (0, ()))).1)
   (tst (decide (0 ≤ w64 ((zz (List.length v.2.2.2)) - (1 : Int)))) <|
    tst (decide (w64 ((zz (List.length v.2.2.2)) - (1 : Int)) < (zz (List.length v.2.2.2)))) <|
    tst (decide (Int.toNat (w64 ((zz (List.length v.2.2.2)) - (1 : Int))) < List.length v.2.2.2)) <|
    tst (decide (0 ≤ w64 ((zz (List.length v.2.2.2)) - (1 : Int)))) <|
    tst (decide (w64 ((zz (List.length v.2.2.2)) - (1 : Int)) < (zz (List.length v.2.2.2)))) <|
    tst (decide (Int.toNat (w64 ((zz (List.length v.2.2.2)) - (1 : Int))) < List.length v.2.2.2)) <|
    g0 (w64 (v.1 + (1 : Int)), v.2.1, v.2.2.1, List.set v.2.2.2 (Int.toNat (w64 ((zz (List.length v.2.2.2)) - (1 : Int)))) ((List.getD v.2.2.2 (Int.toNat (w64 ((zz (List.length v.2.2.2)) - (1 : Int)))) (0, (0, ()))).1, w64 ((List.getD v.2.2.2 (Int.toNat (w64 ((zz (List.length v.2.2.2)) - (1 : Int)))) (0, (0, ()))).2.1 + (List.getD v.2.2.1 (Int.toNat v.1) (0, (0, ()))).2.1), ())))
   (tst (decide (List.length v.2.2.2 + 1 < LIM)) <|
    g0 (w64 (v.1 + (1 : Int)), v.2.1, v.2.2.1, v.2.2.2 ++ [((List.getD v.2.2.1 (Int.toNat v.1) (0, (0, ()))).1, (List.getD v.2.2.1 (Int.toNat v.1) (0, (0, ()))).2.1, ())])))
  (tst (decide (List.length v.2.2.2 + 1 < LIM)) <|
   g0 (w64 (v.1 + (1 : Int)), v.2.1, v.2.2.1, v.2.2.2 ++ [((List.getD v.2.2.1 (Int.toNat v.1) (0, (0, ()))).1, (List.getD v.2.2.1 (Int.toNat v.1) (0, (0, ()))).2.1, ())])))
 (some (((v.2.2.2, ()), ())))
def impl_bothPairs_st0 (fuel : Nat) (g0 : impl_bothPairs_V0 → impl_bothPairs_R) : impl_bothPairs_V0 → impl_bothPairs_R := impl_bothPairs_step0 fuel g0
theorem impl_bothPairs_lp0 (fuel : Nat) (G) : impl_bothPairs_c.lp (impl_bothPairs_T fuel) 0 fuel G (endF impl_bothPairs_rv impl_bothPairs_rs) 0 impl_bothPairs_enc0 = iter (impl_bothPairs_st0 fuel) fuel := C.lp_iter fun g v => by kernel_rfl
def impl_bothPairs_pre (fuel : Nat) (X0 : impl_bothPairs_V0 → impl_bothPairs_R) (x0 : LP) (x1 : LP) : impl_bothPairs_R :=
 Option.bind (slices_Concat_impl_Pair_impl_Pair_fn fuel (([x0, x1], ()), ())) fun y_1 =>
 Option.bind (impl_sortPairs_v0_fn fuel (y_1.1.1, (), ())) fun y_2 =>
  tst (decide ((0 : Int) ≤ (zz (List.length y_2.1)))) <|
   tst (decide (Int.toNat (zz (List.length y_2.1)) < LIM)) <|
   X0 ((0 : Int), (zz (List.length y_2.1)), y_2.1, List.replicate (Int.toNat (0 : Int)) (0, (0, ())))
def impl_bothPairs_fn (fuel : Nat) (x : ((LP × Unit) × ((LP × Unit) × Unit))) : impl_bothPairs_R := impl_bothPairs_pre fuel (iter (impl_bothPairs_st0 fuel) fuel) x.1.1 x.2.1.1
theorem impl_bothPairs_run (fuel : Nat) (x : PsT impl_bothPairs_ps) : run (impl_bothPairs_T fuel) 0 fuel impl_bothPairs_c (env0 (svPs impl_bothPairs_ps x) 0) [] (endF impl_bothPairs_rv impl_bothPairs_rs) = impl_bothPairs_fn fuel x :=
  (show run (impl_bothPairs_T fuel) 0 fuel impl_bothPairs_c (env0 (svPs impl_bothPairs_ps x) 0) [] (endF impl_bothPairs_rv impl_bothPairs_rs) = impl_bothPairs_pre fuel (impl_bothPairs_c.lp (impl_bothPairs_T fuel) 0 fuel (fun _ _ _ => none) (endF impl_bothPairs_rv impl_bothPairs_rs) 0 impl_bothPairs_enc0) x.1.1 x.2.1.1 by kernel_rfl).trans (by rw [impl_bothPairs_lp0]; rfl)
def impl_bothPairs_tf (fuel : Nat) : TF := ⟨impl_bothPairs_ps, impl_bothPairs_rs, true, impl_bothPairs_fn fuel⟩
theorem impl_bothPairs_spec (fuel : Nat) : FnSpec Tryz.prog 137 (impl_bothPairs_tf fuel) :=
  fn_spec (T := impl_bothPairs_T fuel) (c := bodyOf Tryz.f137) (fn := Tryz.f137) (TabOK.of (entCons (impl_sortPairs_v0_ok fuel) (entCons (impl_sortPairs_v1_ok fuel) (entCons (slices_Concat_impl_Pair_impl_Pair_ok fuel) entNil))) (methNil)) mixed (by kernel_rfl) (by kernel_rfl) impl_bothPairs_l (by kernel_rfl) (Nat.le_of_ble_eq_true (by kernel_rfl)) (rv := impl_bothPairs_rv) (by kernel_rfl) (impl_bothPairs_run fuel)
theorem impl_bothPairs_ok (fuel : Nat) : EntryOK Tryz.prog 137 (impl_bothPairs_tf fuel).te := EntryOK.tf rfl (impl_bothPairs_spec fuel) (isFn (fn := Tryz.f137) (by kernel_rfl) (by kernel_rfl) (by kernel_rfl))
def impl_topSum_T (fuel : Nat) : Tab := Tab.of [(136, (impl_cutTop_tf fuel).te), (137, (impl_bothPairs_tf fuel).te)] []
abbrev impl_topSum_ps : List Pm := [{ cs := [(Kd.list KP, false), (I6, false), (I6, false)], ag := true }, { cs := [(Kd.list KP, false), (I6, false), (I6, false)], ag := true }]
abbrev impl_topSum_rs : List Pm := [{ cs := [(Kd.list KP, false), (I6, false), (I6, false)], ag := true }]
def impl_topSum_ann : List Norm := []
noncomputable def impl_topSum_c : C := irOf Tryz.prog Tryz.f90 [21] impl_topSum_ann []
theorem impl_topSum_l : lightC Tryz.prog [21] Tryz.f90.ntmps impl_topSum_ann [] 0 (bodyOf Tryz.f90) = some (impl_topSum_c, 0) := by kernel_rfl
def impl_topSum_rv : List (Nat × Option (Nat × Bool)) := [(4, some (3, true))]
def impl_topSum_pre (fuel : Nat) (x0 : LP) (x1 : Int) (x2 : Int) (x3 : LP) (x4 : Int) (x5 : Int) : Option ((LP × (Int × (Int × Unit))) × Unit) :=
 Option.bind (impl_bothPairs_fn fuel ((x0, ()), (x3, ()), ())) fun y_1 =>
 Option.bind (impl_cutTop_fn fuel ((y_1.1.1, w64 (x1 + x4), w64 (x2 + x5), ()), ())) fun y_2 =>
  some (((y_2.1.1, y_2.1.2.1, y_2.1.2.2.1, ()), ()))
def impl_topSum_fn (fuel : Nat) (x : ((LP × (Int × (Int × Unit))) × ((LP × (Int × (Int × Unit))) × Unit))) : Option ((LP × (Int × (Int × Unit))) × Unit) := impl_topSum_pre fuel x.1.1 x.1.2.1 x.1.2.2.1 x.2.1.1 x.2.1.2.1 x.2.1.2.2.1
theorem impl_topSum_run (fuel : Nat) (x : PsT impl_topSum_ps) : run (impl_topSum_T fuel) 0 fuel impl_topSum_c (env0 (svPs impl_topSum_ps x) 0) [] (endF impl_topSum_rv impl_topSum_rs) = impl_topSum_fn fuel x := by kernel_rfl
def impl_topSum_tf (fuel : Nat) : TF := ⟨impl_topSum_ps, impl_topSum_rs, false, impl_topSum_fn fuel⟩
theorem impl_topSum_spec (fuel : Nat) : FnSpec Tryz.prog 90 (impl_topSum_tf fuel) :=
  fn_spec (T := impl_topSum_T fuel) (c := bodyOf Tryz.f90) (fn := Tryz.f90) (TabOK.of (entCons (impl_cutTop_ok fuel) (entCons (impl_bothPairs_ok fuel) entNil)) (methNil)) mixed (by kernel_rfl) (by kernel_rfl) impl_topSum_l (by kernel_rfl) (Nat.le_of_ble_eq_true (by kernel_rfl)) (rv := impl_topSum_rv) (by kernel_rfl) (impl_topSum_run fuel)
theorem impl_topSum_ok (fuel : Nat) : EntryOK Tryz.prog 90 (impl_topSum_tf fuel).te := EntryOK.tf rfl (impl_topSum_spec fuel) (isFn (fn := Tryz.f90) (by kernel_rfl) (by kernel_rfl) (by kernel_rfl))
def impl_TopAdd_T (fuel : Nat) : Tab := Tab.of [(85, (impl_TopOk_tf fuel).te), (86, (impl_isThing_tf fuel).te), (90, (impl_topSum_tf fuel).te)] []
abbrev impl_TopAdd_ps : List Pm := [{ cs := [(Kd.list KP, false), (I6, false), (I6, false)], ag := true }, { cs := [(I6, false)], ag := false }]
abbrev impl_TopAdd_rs : List Pm := [{ cs := [(Kd.list KP, false), (I6, false), (I6, false)], ag := true }, { cs := [(Kd.bool, false)], ag := false }]
def impl_TopAdd_ann : List Norm := []
noncomputable def impl_TopAdd_c : C := irOf Tryz.prog Tryz.f64 [25] impl_TopAdd_ann []
theorem impl_TopAdd_l : lightC Tryz.prog [25] Tryz.f64.ntmps impl_TopAdd_ann [] 0 (bodyOf Tryz.f64) = some (impl_TopAdd_c, 0) := by kernel_rfl
def impl_TopAdd_rv : List (Nat × Option (Nat × Bool)) := [(4, some (3, true)), (5, none)]
def impl_TopAdd_pre (fuel : Nat) (x0 : LP) (x1 : Int) (x2 : Int) (x3 : Int) : Option ((LP × (Int × (Int × Unit))) × ((Bool × Unit) × Unit)) :=
 Option.bind (impl_TopOk_fn fuel ((x0, x1, x2, ()), ())) fun y_1 =>
 cond (!y_1.1.1)
  (some ((([], (0 : Int), (0 : Int), ()), (false, ()), ())))
  (Option.bind (impl_isThing_fn fuel ((x3, ()), ())) fun y_3 =>
   cond (!y_3.1.1)
    (some ((([], (0 : Int), (0 : Int), ()), (false, ()), ())))
    (cond (x2 == (2000 : Int))
     (some ((([], (0 : Int), (0 : Int), ()), (false, ()), ())))
     (Option.bind (impl_topSum_fn fuel ((x0, x1, x2, ()), ([(x3, (1 : Int), ())], (0 : Int), (1 : Int), ()), ())) fun y_6 =>
      some (((y_6.1.1, y_6.1.2.1, y_6.1.2.2.1, ()), (true, ()), ())))))
def impl_TopAdd_fn (fuel : Nat) (x : ((LP × (Int × (Int × Unit))) × ((Int × Unit) × Unit))) : Option ((LP × (Int × (Int × Unit))) × ((Bool × Unit) × Unit)) := impl_TopAdd_pre fuel x.1.1 x.1.2.1 x.1.2.2.1 x.2.1.1
theorem impl_TopAdd_run (fuel : Nat) (x : PsT impl_TopAdd_ps) : run (impl_TopAdd_T fuel) 0 fuel impl_TopAdd_c (env0 (svPs impl_TopAdd_ps x) 0) [] (endF impl_TopAdd_rv impl_TopAdd_rs) = impl_TopAdd_fn fuel x := by kernel_rfl
def impl_TopAdd_tf (fuel : Nat) : TF := ⟨impl_TopAdd_ps, impl_TopAdd_rs, false, impl_TopAdd_fn fuel⟩
theorem impl_TopAdd_spec (fuel : Nat) : FnSpec Tryz.prog 64 (impl_TopAdd_tf fuel) :=
  fn_spec (T := impl_TopAdd_T fuel) (c := bodyOf Tryz.f64) (fn := Tryz.f64) (TabOK.of (entCons (impl_TopOk_ok fuel) (entCons (impl_isThing_ok fuel) (entCons (impl_topSum_ok fuel) entNil))) (methNil)) mixed (by kernel_rfl) (by kernel_rfl) impl_TopAdd_l (by kernel_rfl) (Nat.le_of_ble_eq_true (by kernel_rfl)) (rv := impl_TopAdd_rv) (by kernel_rfl) (impl_TopAdd_run fuel)
theorem impl_TopAdd_ok (fuel : Nat) : EntryOK Tryz.prog 64 (impl_TopAdd_tf fuel).te := EntryOK.tf rfl (impl_TopAdd_spec fuel) (isFn (fn := Tryz.f64) (by kernel_rfl) (by kernel_rfl) (by kernel_rfl))
def impl_Top_with_T (fuel : Nat) : Tab := Tab.of [(64, (impl_TopAdd_tf fuel).te)] []
abbrev impl_Top_with_ps : Sh := (.agg (.cell (Kd.list KP) 0 (.cell I6 0 (.cell I6 0 .nil))) (.cell I6 0 .nil))
abbrev impl_Top_with_rs : Sh := (.ifc 32 (.agg (.cell (Kd.list KP) 0 (.cell I6 0 (.cell I6 0 .nil))) .nil) (.cell Kd.bool 0 .nil))
def impl_Top_with_ann : List Norm := []
noncomputable def impl_Top_with_c : C := irOf Tryz.prog Tryz.f237 [] impl_Top_with_ann []
theorem impl_Top_with_l : lightC Tryz.prog [] Tryz.f237.ntmps impl_Top_with_ann [] 0 (bodyOf Tryz.f237) = some (impl_Top_with_c, 0) := by kernel_rfl
def impl_Top_with_rv : List (Nat × Option (Nat × Bool)) := [(4, none), (5, none)]
def impl_Top_with_pre (fuel : Nat) (x0 : LP) (x1 : Int) (x2 : Int) (x3 : Int) : Option (((LP × (Int × (Int × Unit))) × Unit) × (Bool × Unit)) :=
 Option.bind (impl_TopAdd_fn fuel ((x0, x1, x2, ()), (x3, ()), ())) fun y_1 =>
 some ((((y_1.1.1, y_1.1.2.1, y_1.1.2.2.1, ()), ()), y_1.2.1.1, ()))
def impl_Top_with_fn (fuel : Nat) (x : ((LP × (Int × (Int × Unit))) × (Int × Unit))) : Option (((LP × (Int × (Int × Unit))) × Unit) × (Bool × Unit)) := impl_Top_with_pre fuel x.1.1 x.1.2.1 x.1.2.2.1 x.2.1
theorem impl_Top_with_run (fuel : Nat) (x : Sh.T impl_Top_with_ps) : run (impl_Top_with_T fuel) 0 fuel impl_Top_with_c (env0 (svS impl_Top_with_ps x) 0) [] (endG impl_Top_with_rv impl_Top_with_rs) = impl_Top_with_fn fuel x := by kernel_rfl
def impl_Top_with_tf (fuel : Nat) : TG := ⟨impl_Top_with_ps, impl_Top_with_rs, false, impl_Top_with_fn fuel⟩
theorem impl_Top_with_spec (fuel : Nat) : FnSpecG Tryz.prog 237 (impl_Top_with_tf fuel) :=
  fn_specG (T := impl_Top_with_T fuel) (c := bodyOf Tryz.f237) (fn := Tryz.f237) (TabOK.of (entCons (impl_TopAdd_ok fuel) entNil) (methNil)) mixed (by kernel_rfl) (by kernel_rfl) impl_Top_with_l (by kernel_rfl) (Nat.le_of_ble_eq_true (by kernel_rfl)) (rv := impl_Top_with_rv) (by kernel_rfl) (fun x y h => (impl_Top_with_run fuel x).trans h)
theorem impl_Top_with_ok (fuel : Nat) : EntryOK Tryz.prog 237 (impl_Top_with_tf fuel).te := EntryOK.tg rfl (impl_Top_with_spec fuel) (isFn (fn := Tryz.f237) (by kernel_rfl) (by kernel_rfl) (by kernel_rfl))
def impl_knotNums_addKnots_T (fuel : Nat) : Tab := Tab.of [] []
abbrev impl_knotNums_addKnots_ps : List Pm := [{ cs := [(Kd.list KP, false)], ag := false }]
abbrev impl_knotNums_addKnots_rs : List Pm := []
abbrev impl_knotNums_addKnots_rf : Rf := Rf.arr I6 165
def impl_knotNums_addKnots_ann : List Norm := [{ live := [8, 7, 6, 0], fix := [] }]
noncomputable def impl_knotNums_addKnots_c : C := irOf Tryz.prog Tryz.f155 [] impl_knotNums_addKnots_ann []
theorem impl_knotNums_addKnots_l : lightC Tryz.prog [] Tryz.f155.ntmps impl_knotNums_addKnots_ann [] 0 (bodyOf Tryz.f155) = some (impl_knotNums_addKnots_c, 1) := by kernel_rfl
def impl_knotNums_addKnots_rv : List (Nat × Option (Nat × Bool)) := []
abbrev impl_knotNums_addKnots_V0 := (Int) × (Int) × LP × (List Int)
def impl_knotNums_addKnots_enc0 (v : impl_knotNums_addKnots_V0) : Env × Heap := ([(8, SV.int .i64 v.1), (7, SV.int .i64 v.2.1), (6, SV.es KP v.2.2.1), (0, SV.ptr 0 0)], [Blk.arr I6 v.2.2.2 0])
def impl_knotNums_addKnots_step0 (fuel : Nat) (g0 : impl_knotNums_addKnots_V0 → Option ((List Int) × Unit)) (v : impl_knotNums_addKnots_V0) : Option ((List Int) × Unit) :=
 cond (decide (v.1 < v.2.1))
 (tst (decide (0 ≤ v.1)) <|
  tst (decide (v.1 < (zz (List.length v.2.2.1)))) <|
  tst (decide (0 ≤ (List.getD v.2.2.1 (Int.toNat v.1) (0, (0, ()))).1)) <|
  tst (decide ((List.getD v.2.2.1 (Int.toNat v.1) (0, (0, ()))).1 < (zz 128))) <|
  tst (decide (Int.toNat (List.getD v.2.2.1 (Int.toNat v.1) (0, (0, ()))).1 < List.length v.2.2.2)) <|
  tst (decide (0 ≤ (List.getD v.2.2.1 (Int.toNat v.1) (0, (0, ()))).1)) <|
  tst (decide ((List.getD v.2.2.1 (Int.toNat v.1) (0, (0, ()))).1 < (zz 128))) <|
  tst (decide (Int.toNat (List.getD v.2.2.1 (Int.toNat v.1) (0, (0, ()))).1 < List.length v.2.2.2)) <|
  g0 (w64 (v.1 + (1 : Int)), v.2.1, v.2.2.1, List.set v.2.2.2 (Int.toNat (List.getD v.2.2.1 (Int.toNat v.1) (0, (0, ()))).1) (w64 (List.getD v.2.2.2 (Int.toNat (List.getD v.2.2.1 (Int.toNat v.1) (0, (0, ()))).1) 0 + (List.getD v.2.2.1 (Int.toNat v.1) (0, (0, ()))).2.1))))
 (some ((v.2.2.2, ())))
def impl_knotNums_addKnots_st0 (fuel : Nat) (g0 : impl_knotNums_addKnots_V0 → Option ((List Int) × Unit)) : impl_knotNums_addKnots_V0 → Option ((List Int) × Unit) := impl_knotNums_addKnots_step0 fuel g0
theorem impl_knotNums_addKnots_lp0 (fuel : Nat) (G) : impl_knotNums_addKnots_c.lp (impl_knotNums_addKnots_T fuel) 1 fuel G (endU impl_knotNums_addKnots_rv impl_knotNums_addKnots_rf impl_knotNums_addKnots_rs) 0 impl_knotNums_addKnots_enc0 = iter (impl_knotNums_addKnots_st0 fuel) fuel := C.lp_iter fun g v => by kernel_rfl
def impl_knotNums_addKnots_pre (fuel : Nat) (X0 : impl_knotNums_addKnots_V0 → Option ((List Int) × Unit)) (d0 : List Int) (x0 : LP) : Option ((List Int) × Unit) :=
 X0 ((0 : Int), (zz (List.length x0)), x0, d0)
def impl_knotNums_addKnots_fn (fuel : Nat) (z : (List Int) × ((LP × Unit) × Unit)) : Option ((List Int) × Unit) := impl_knotNums_addKnots_pre fuel (iter (impl_knotNums_addKnots_st0 fuel) fuel) z.1 z.2.1.1
theorem impl_knotNums_addKnots_run (fuel : Nat) (c : Rf.T impl_knotNums_addKnots_rf) (x : PsT impl_knotNums_addKnots_ps) : run (impl_knotNums_addKnots_T fuel) 1 fuel impl_knotNums_addKnots_c ((0, .ptr 0 0) :: env0 (svPs impl_knotNums_addKnots_ps x) 1) [impl_knotNums_addKnots_rf.blk c] (endU impl_knotNums_addKnots_rv impl_knotNums_addKnots_rf impl_knotNums_addKnots_rs) = impl_knotNums_addKnots_fn fuel (c, x) :=
  (show run (impl_knotNums_addKnots_T fuel) 1 fuel impl_knotNums_addKnots_c ((0, .ptr 0 0) :: env0 (svPs impl_knotNums_addKnots_ps x) 1) [impl_knotNums_addKnots_rf.blk c] (endU impl_knotNums_addKnots_rv impl_knotNums_addKnots_rf impl_knotNums_addKnots_rs) = impl_knotNums_addKnots_pre fuel (impl_knotNums_addKnots_c.lp (impl_knotNums_addKnots_T fuel) 1 fuel (fun _ _ _ => none) (endU impl_knotNums_addKnots_rv impl_knotNums_addKnots_rf impl_knotNums_addKnots_rs) 0 impl_knotNums_addKnots_enc0) c x.1.1 by kernel_rfl).trans (by rw [impl_knotNums_addKnots_lp0]; rfl)
def impl_knotNums_addKnots_tf (fuel : Nat) : TFU := ⟨impl_knotNums_addKnots_rf, impl_knotNums_addKnots_ps, impl_knotNums_addKnots_rs, impl_knotNums_addKnots_fn fuel⟩
theorem impl_knotNums_addKnots_spec (fuel : Nat) : FnSpecU Tryz.prog 155 (impl_knotNums_addKnots_tf fuel) :=
  fn_specU (T := impl_knotNums_addKnots_T fuel) (c := bodyOf Tryz.f155) (fn := Tryz.f155) (TabOK.of (entNil) (methNil)) mixed (by kernel_rfl) (by kernel_rfl) impl_knotNums_addKnots_l (by kernel_rfl) (Nat.le_of_ble_eq_true (by kernel_rfl)) (rv := impl_knotNums_addKnots_rv) (by kernel_rfl) (impl_knotNums_addKnots_run fuel)
theorem impl_knotNums_addKnots_ok (fuel : Nat) : EntryOK Tryz.prog 155 (impl_knotNums_addKnots_tf fuel).te := EntryOK.tfu (impl_knotNums_addKnots_spec fuel) (isFn (fn := Tryz.f155) (by kernel_rfl) (by kernel_rfl) (by kernel_rfl))
def impl_knotNums_squeeze_T (fuel : Nat) : Tab := Tab.of [] []
abbrev impl_knotNums_squeeze_ps : List Pm := [{ cs := [(I6, false)], ag := false }]
abbrev impl_knotNums_squeeze_rs : List Pm := []
abbrev impl_knotNums_squeeze_rf : Rf := Rf.arr I6 165
def impl_knotNums_squeeze_ann : List Norm := [{ live := [5, 4, 0, 1], fix := [] }, { live := [4, 0, 1], fix := [(4, none, I6, true)] }]
noncomputable def impl_knotNums_squeeze_c : C := irOf Tryz.prog Tryz.f156 [] impl_knotNums_squeeze_ann []
theorem impl_knotNums_squeeze_l : lightC Tryz.prog [] Tryz.f156.ntmps impl_knotNums_squeeze_ann [] 0 (bodyOf Tryz.f156) = some (impl_knotNums_squeeze_c, 2) := by kernel_rfl
def impl_knotNums_squeeze_rv : List (Nat × Option (Nat × Bool)) := []
abbrev impl_knotNums_squeeze_V0 := (Int) × (Int) × (List Int) × (List Int)
abbrev impl_knotNums_squeeze_V1 := (Int) × (List Int) × (List Int)
def impl_knotNums_squeeze_enc0 (v : impl_knotNums_squeeze_V0) : Env × Heap := ([(5, SV.int .i64 v.1), (4, SV.own 1), (0, SV.ptr 0 0), (1, SV.int .i64 v.2.1)], [Blk.arr I6 v.2.2.1 0, Blk.arr I6 v.2.2.2 0])
def impl_knotNums_squeeze_enc1 (v : impl_knotNums_squeeze_V1) : Env × Heap := ([(4, SV.own 1), (0, SV.ptr 0 0), (1, SV.int .i64 v.1)], [Blk.arr I6 v.2.1 0, Blk.arr I6 v.2.2 0])
def impl_knotNums_squeeze_step1 (fuel : Nat) (g1 : impl_knotNums_squeeze_V1 → Option ((List Int) × Unit)) (v : impl_knotNums_squeeze_V1) : Option ((List Int) × Unit) :=
 cond (decide ((zz (List.length v.2.2)) > (0 : Int)))
 (tst (decide ((0 : Int) < (zz (List.length v.2.2)))) <|
  tst (decide (Int.toNat (0 : Int) < List.length v.2.2)) <|
  tst (decide ((1 : Int) ≤ (zz (List.length v.2.2)))) <|
  tst (decide (0 ≤ w64 (List.getD v.2.2 (Int.toNat (0 : Int)) 0 * 2 ^ min (Int.toNat (1 : Int)) (IntKind.bits IntKind.i64)))) <|
  tst (decide (w64 (List.getD v.2.2 (Int.toNat (0 : Int)) 0 * 2 ^ min (Int.toNat (1 : Int)) (IntKind.bits IntKind.i64)) < (zz 128))) <|
  tst (decide (Int.toNat (w64 (List.getD v.2.2 (Int.toNat (0 : Int)) 0 * 2 ^ min (Int.toNat (1 : Int)) (IntKind.bits IntKind.i64))) < List.length v.2.1)) <|
  tst (decide (0 ≤ w64 (zz (BitVec.toNat (BitVec.ofInt (IntKind.bits IntKind.i64) (w64 (List.getD v.2.2 (Int.toNat (0 : Int)) 0 * 2 ^ min (Int.toNat (1 : Int)) (IntKind.bits IntKind.i64))) ||| BitVec.ofInt (IntKind.bits IntKind.i64) (1 : Int)))))) <|
  tst (decide (w64 (zz (BitVec.toNat (BitVec.ofInt (IntKind.bits IntKind.i64) (w64 (List.getD v.2.2 (Int.toNat (0 : Int)) 0 * 2 ^ min (Int.toNat (1 : Int)) (IntKind.bits IntKind.i64))) ||| BitVec.ofInt (IntKind.bits IntKind.i64) (1 : Int)))) < (zz 128))) <|
  tst (decide (Int.toNat (w64 (zz (BitVec.toNat (BitVec.ofInt (IntKind.bits IntKind.i64) (w64 (List.getD v.2.2 (Int.toNat (0 : Int)) 0 * 2 ^ min (Int.toNat (1 : Int)) (IntKind.bits IntKind.i64))) ||| BitVec.ofInt (IntKind.bits IntKind.i64) (1 : Int))))) < List.length v.2.1)) <|
  cond (decide (w64 (List.getD v.2.1 (Int.toNat (w64 (List.getD v.2.2 (Int.toNat (0 : Int)) 0 * 2 ^ min (Int.toNat (1 : Int)) (IntKind.bits IntKind.i64)))) 0 + List.getD v.2.1 (Int.toNat (w64 (zz (BitVec.toNat (BitVec.ofInt (IntKind.bits IntKind.i64) (w64 (List.getD v.2.2 (Int.toNat (0 : Int)) 0 * 2 ^ min (Int.toNat (1 : Int)) (IntKind.bits IntKind.i64))) ||| BitVec.ofInt (IntKind.bits IntKind.i64) (1 : Int)))))) 0) > (0 : Int)))
  (tst (decide (0 ≤ List.getD v.2.2 (Int.toNat (0 : Int)) 0)) <|
   tst (decide (List.getD v.2.2 (Int.toNat (0 : Int)) 0 < (zz 128))) <|
   tst (decide (Int.toNat (List.getD v.2.2 (Int.toNat (0 : Int)) 0) < List.length v.2.1)) <|
   cond (decide (w64 (w64 (List.getD v.2.1 (Int.toNat (w64 (List.getD v.2.2 (Int.toNat (0 : Int)) 0 * 2 ^ min (Int.toNat (1 : Int)) (IntKind.bits IntKind.i64)))) 0 + List.getD v.2.1 (Int.toNat (w64 (zz (BitVec.toNat (BitVec.ofInt (IntKind.bits IntKind.i64) (w64 (List.getD v.2.2 (Int.toNat (0 : Int)) 0 * 2 ^ min (Int.toNat (1 : Int)) (IntKind.bits IntKind.i64))) ||| BitVec.ofInt (IntKind.bits IntKind.i64) (1 : Int)))))) 0) + List.getD v.2.1 (Int.toNat (List.getD v.2.2 (Int.toNat (0 : Int)) 0)) 0) ≤ w64 (Int.tdiv v.1 (8 : Int))))
   (tst (decide (0 ≤ List.getD v.2.2 (Int.toNat (0 : Int)) 0)) <|
    tst (decide (List.getD v.2.2 (Int.toNat (0 : Int)) 0 < (zz 128))) <|
    tst (decide (Int.toNat (List.getD v.2.2 (Int.toNat (0 : Int)) 0) < List.length v.2.1)) <|
    tst (decide (0 ≤ List.getD v.2.2 (Int.toNat (0 : Int)) 0)) <|
    tst (decide (List.getD v.2.2 (Int.toNat (0 : Int)) 0 < (zz 128))) <|
    tst (decide (Int.toNat (List.getD v.2.2 (Int.toNat (0 : Int)) 0) < List.length v.2.1)) <|
    tst (decide (0 ≤ w64 (List.getD v.2.2 (Int.toNat (0 : Int)) 0 * 2 ^ min (Int.toNat (1 : Int)) (IntKind.bits IntKind.i64)))) <|
    tst (decide (w64 (List.getD v.2.2 (Int.toNat (0 : Int)) 0 * 2 ^ min (Int.toNat (1 : Int)) (IntKind.bits IntKind.i64)) < (zz 128))) <|
    tst (decide (Int.toNat (w64 (List.getD v.2.2 (Int.toNat (0 : Int)) 0 * 2 ^ min (Int.toNat (1 : Int)) (IntKind.bits IntKind.i64))) < List.length (List.set v.2.1 (Int.toNat (List.getD v.2.2 (Int.toNat (0 : Int)) 0)) (w64 (List.getD v.2.1 (Int.toNat (List.getD v.2.2 (Int.toNat (0 : Int)) 0)) 0 + w64 (List.getD v.2.1 (Int.toNat (w64 (List.getD v.2.2 (Int.toNat (0 : Int)) 0 * 2 ^ min (Int.toNat (1 : Int)) (IntKind.bits IntKind.i64)))) 0 + List.getD v.2.1 (Int.toNat (w64 (zz (BitVec.toNat (BitVec.ofInt (IntKind.bits IntKind.i64) (w64 (List.getD v.2.2 (Int.toNat (0 : Int)) 0 * 2 ^ min (Int.toNat (1 : Int)) (IntKind.bits IntKind.i64))) ||| BitVec.ofInt (IntKind.bits IntKind.i64) (1 : Int)))))) 0)))))) <|
    tst (decide (0 ≤ w64 (zz (BitVec.toNat (BitVec.ofInt (IntKind.bits IntKind.i64) (w64 (List.getD v.2.2 (Int.toNat (0 : Int)) 0 * 2 ^ min (Int.toNat (1 : Int)) (IntKind.bits IntKind.i64))) ||| BitVec.ofInt (IntKind.bits IntKind.i64) (1 : Int)))))) <|
    tst (decide (w64 (zz (BitVec.toNat (BitVec.ofInt (IntKind.bits IntKind.i64) (w64 (List.getD v.2.2 (Int.toNat (0 : Int)) 0 * 2 ^ min (Int.toNat (1 : Int)) (IntKind.bits IntKind.i64))) ||| BitVec.ofInt (IntKind.bits IntKind.i64) (1 : Int)))) < (zz 128))) <|
    tst (decide (Int.toNat (w64 (zz (BitVec.toNat (BitVec.ofInt (IntKind.bits IntKind.i64) (w64 (List.getD v.2.2 (Int.toNat (0 : Int)) 0 * 2 ^ min (Int.toNat (1 : Int)) (IntKind.bits IntKind.i64))) ||| BitVec.ofInt (IntKind.bits IntKind.i64) (1 : Int))))) < List.length (List.set (List.set v.2.1 (Int.toNat (List.getD v.2.2 (Int.toNat (0 : Int)) 0)) (w64 (List.getD v.2.1 (Int.toNat (List.getD v.2.2 (Int.toNat (0 : Int)) 0)) 0 + w64 (List.getD v.2.1 (Int.toNat (w64 (List.getD v.2.2 (Int.toNat (0 : Int)) 0 * 2 ^ min (Int.toNat (1 : Int)) (IntKind.bits IntKind.i64)))) 0 + List.getD v.2.1 (Int.toNat (w64 (zz (BitVec.toNat (BitVec.ofInt (IntKind.bits IntKind.i64) (w64 (List.getD v.2.2 (Int.toNat (0 : Int)) 0 * 2 ^ min (Int.toNat (1 : Int)) (IntKind.bits IntKind.i64))) ||| BitVec.ofInt (IntKind.bits IntKind.i64) (1 : Int)))))) 0)))) (Int.toNat (w64 (List.getD v.2.2 (Int.toNat (0 : Int)) 0 * 2 ^ min (Int.toNat (1 : Int)) (IntKind.bits IntKind.i64)))) (0 : Int)))) <|
    cond (w64 (zz (BitVec.toNat (BitVec.ofInt (IntKind.bits IntKind.i64) (List.getD v.2.2 (Int.toNat (0 : Int)) 0) &&& BitVec.ofInt (IntKind.bits IntKind.i64) (1 : Int)))) == (0 : Int))
    (tst (decide (List.length (List.take (List.length v.2.2 - Int.toNat (1 : Int)) (List.drop (Int.toNat (1 : Int)) v.2.2)) + 1 < LIM)) <|
     g1 (v.1, List.set (List.set (List.set v.2.1 (Int.toNat (List.getD v.2.2 (Int.toNat (0 : Int)) 0)) (w64 (List.getD v.2.1 (Int.toNat (List.getD v.2.2 (Int.toNat (0 : Int)) 0)) 0 + w64 (List.getD v.2.1 (Int.toNat (w64 (List.getD v.2.2 (Int.toNat (0 : Int)) 0 * 2 ^ min (Int.toNat (1 : Int)) (IntKind.bits IntKind.i64)))) 0 + List.getD v.2.1 (Int.toNat (w64 (zz (BitVec.toNat (BitVec.ofInt (IntKind.bits IntKind.i64) (w64 (List.getD v.2.2 (Int.toNat (0 : Int)) 0 * 2 ^ min (Int.toNat (1 : Int)) (IntKind.bits IntKind.i64))) ||| BitVec.ofInt (IntKind.bits IntKind.i64) (1 : Int)))))) 0)))) (Int.toNat (w64 (List.getD v.2.2 (Int.toNat (0 : Int)) 0 * 2 ^ min (Int.toNat (1 : Int)) (IntKind.bits IntKind.i64)))) (0 : Int)) (Int.toNat (w64 (zz (BitVec.toNat (BitVec.ofInt (IntKind.bits IntKind.i64) (w64 (List.getD v.2.2 (Int.toNat (0 : Int)) 0 * 2 ^ min (Int.toNat (1 : Int)) (IntKind.bits IntKind.i64))) ||| BitVec.ofInt (IntKind.bits IntKind.i64) (1 : Int)))))) (0 : Int), List.take (List.length v.2.2 - Int.toNat (1 : Int)) (List.drop (Int.toNat (1 : Int)) v.2.2) ++ [Int.fdiv (List.getD v.2.2 (Int.toNat (0 : Int)) 0) (2 ^ min (Int.toNat (1 : Int)) (IntKind.bits IntKind.i64))]))
    (g1 (v.1, List.set (List.set (List.set v.2.1 (Int.toNat (List.getD v.2.2 (Int.toNat (0 : Int)) 0)) (w64 (List.getD v.2.1 (Int.toNat (List.getD v.2.2 (Int.toNat (0 : Int)) 0)) 0 + w64 (List.getD v.2.1 (Int.toNat (w64 (List.getD v.2.2 (Int.toNat (0 : Int)) 0 * 2 ^ min (Int.toNat (1 : Int)) (IntKind.bits IntKind.i64)))) 0 + List.getD v.2.1 (Int.toNat (w64 (zz (BitVec.toNat (BitVec.ofInt (IntKind.bits IntKind.i64) (w64 (List.getD v.2.2 (Int.toNat (0 : Int)) 0 * 2 ^ min (Int.toNat (1 : Int)) (IntKind.bits IntKind.i64))) ||| BitVec.ofInt (IntKind.bits IntKind.i64) (1 : Int)))))) 0)))) (Int.toNat (w64 (List.getD v.2.2 (Int.toNat (0 : Int)) 0 * 2 ^ min (Int.toNat (1 : Int)) (IntKind.bits IntKind.i64)))) (0 : Int)) (Int.toNat (w64 (zz (BitVec.toNat (BitVec.ofInt (IntKind.bits IntKind.i64) (w64 (List.getD v.2.2 (Int.toNat (0 : Int)) 0 * 2 ^ min (Int.toNat (1 : Int)) (IntKind.bits IntKind.i64))) ||| BitVec.ofInt (IntKind.bits IntKind.i64) (1 : Int)))))) (0 : Int), List.take (List.length v.2.2 - Int.toNat (1 : Int)) (List.drop (Int.toNat (1 : Int)) v.2.2))))
   (cond (w64 (zz (BitVec.toNat (BitVec.ofInt (IntKind.bits IntKind.i64) (List.getD v.2.2 (Int.toNat (0 : Int)) 0) &&& BitVec.ofInt (IntKind.bits IntKind.i64) (1 : Int)))) == (0 : Int))
    (tst (decide (List.length (List.take (List.length v.2.2 - Int.toNat (1 : Int)) (List.drop (Int.toNat (1 : Int)) v.2.2)) + 1 < LIM)) <|
     g1 (v.1, v.2.1, List.take (List.length v.2.2 - Int.toNat (1 : Int)) (List.drop (Int.toNat (1 : Int)) v.2.2) ++ [Int.fdiv (List.getD v.2.2 (Int.toNat (0 : Int)) 0) (2 ^ min (Int.toNat (1 : Int)) (IntKind.bits IntKind.i64))]))
    (g1 (v.1, v.2.1, List.take (List.length v.2.2 - Int.toNat (1 : Int)) (List.drop (Int.toNat (1 : Int)) v.2.2)))))
  (cond (w64 (zz (BitVec.toNat (BitVec.ofInt (IntKind.bits IntKind.i64) (List.getD v.2.2 (Int.toNat (0 : Int)) 0) &&& BitVec.ofInt (IntKind.bits IntKind.i64) (1 : Int)))) == (0 : Int))
   (tst (decide (List.length (List.take (List.length v.2.2 - Int.toNat (1 : Int)) (List.drop (Int.toNat (1 : Int)) v.2.2)) + 1 < LIM)) <|
    g1 (v.1, v.2.1, List.take (List.length v.2.2 - Int.toNat (1 : Int)) (List.drop (Int.toNat (1 : Int)) v.2.2) ++ [Int.fdiv (List.getD v.2.2 (Int.toNat (0 : Int)) 0) (2 ^ min (Int.toNat (1 : Int)) (IntKind.bits IntKind.i64))]))
   (g1 (v.1, v.2.1, List.take (List.length v.2.2 - Int.toNat (1 : Int)) (List.drop (Int.toNat (1 : Int)) v.2.2)))))
 (some ((v.2.1, ())))
def impl_knotNums_squeeze_st1 (fuel : Nat) (g1 : impl_knotNums_squeeze_V1 → Option ((List Int) × Unit)) : impl_knotNums_squeeze_V1 → Option ((List Int) × Unit) := impl_knotNums_squeeze_step1 fuel g1
theorem impl_knotNums_squeeze_lp1 (fuel : Nat) (G) : impl_knotNums_squeeze_c.lp (impl_knotNums_squeeze_T fuel) 1 fuel G (endU impl_knotNums_squeeze_rv impl_knotNums_squeeze_rf impl_knotNums_squeeze_rs) 1 impl_knotNums_squeeze_enc1 = iter (impl_knotNums_squeeze_st1 fuel) fuel := C.lp_iter fun g v => by kernel_rfl
def impl_knotNums_squeeze_step0 (fuel : Nat) (X1 : impl_knotNums_squeeze_V1 → Option ((List Int) × Unit)) (g0 : impl_knotNums_squeeze_V0 → Option ((List Int) × Unit)) (v : impl_knotNums_squeeze_V0) : Option ((List Int) × Unit) :=
 cond (decide (v.1 ≥ (32 : Int)))
 (tst (decide (List.length v.2.2.2 + 1 < LIM)) <|
  g0 (w64 (v.1 - (1 : Int)), v.2.1, v.2.2.1, v.2.2.2 ++ [v.1]))
 (X1 (v.2.1, v.2.2.1, v.2.2.2))
def impl_knotNums_squeeze_st0 (fuel : Nat) (g0 : impl_knotNums_squeeze_V0 → Option ((List Int) × Unit)) : impl_knotNums_squeeze_V0 → Option ((List Int) × Unit) := impl_knotNums_squeeze_step0 fuel (iter (impl_knotNums_squeeze_st1 fuel) fuel) g0
theorem impl_knotNums_squeeze_lp0 (fuel : Nat) (G) : impl_knotNums_squeeze_c.lp (impl_knotNums_squeeze_T fuel) 1 fuel G (endU impl_knotNums_squeeze_rv impl_knotNums_squeeze_rf impl_knotNums_squeeze_rs) 0 impl_knotNums_squeeze_enc0 = iter (impl_knotNums_squeeze_st0 fuel) fuel := C.lp_iter fun g v =>
  (show run (impl_knotNums_squeeze_T fuel) 1 fuel (impl_knotNums_squeeze_c.bdAt 0) (impl_knotNums_squeeze_enc0 v).1 (impl_knotNums_squeeze_enc0 v).2 (loopK 1 (impl_knotNums_squeeze_c.nmAt 0) g (impl_knotNums_squeeze_c.contAt (impl_knotNums_squeeze_T fuel) 1 fuel G 0 0 (endU impl_knotNums_squeeze_rv impl_knotNums_squeeze_rf impl_knotNums_squeeze_rs))) = impl_knotNums_squeeze_step0 fuel (impl_knotNums_squeeze_c.lp (impl_knotNums_squeeze_T fuel) 1 fuel (fun m => bif Nat.beq m 0 then g else G m) (endU impl_knotNums_squeeze_rv impl_knotNums_squeeze_rf impl_knotNums_squeeze_rs) 1 impl_knotNums_squeeze_enc1) (fun v => g (impl_knotNums_squeeze_enc0 v).1 (impl_knotNums_squeeze_enc0 v).2) v by kernel_rfl).trans (by rw [impl_knotNums_squeeze_lp1]; rfl)
def impl_knotNums_squeeze_pre (fuel : Nat) (X0 : impl_knotNums_squeeze_V0 → Option ((List Int) × Unit)) (d0 : List Int) (x0 : Int) : Option ((List Int) × Unit) :=
 X0 ((63 : Int), x0, d0, List.replicate (Int.toNat (0 : Int)) 0)
def impl_knotNums_squeeze_fn (fuel : Nat) (z : (List Int) × ((Int × Unit) × Unit)) : Option ((List Int) × Unit) := impl_knotNums_squeeze_pre fuel (iter (impl_knotNums_squeeze_st0 fuel) fuel) z.1 z.2.1.1
theorem impl_knotNums_squeeze_run (fuel : Nat) (c : Rf.T impl_knotNums_squeeze_rf) (x : PsT impl_knotNums_squeeze_ps) : run (impl_knotNums_squeeze_T fuel) 1 fuel impl_knotNums_squeeze_c ((0, .ptr 0 0) :: env0 (svPs impl_knotNums_squeeze_ps x) 1) [impl_knotNums_squeeze_rf.blk c] (endU impl_knotNums_squeeze_rv impl_knotNums_squeeze_rf impl_knotNums_squeeze_rs) = impl_knotNums_squeeze_fn fuel (c, x) :=
  (show run (impl_knotNums_squeeze_T fuel) 1 fuel impl_knotNums_squeeze_c ((0, .ptr 0 0) :: env0 (svPs impl_knotNums_squeeze_ps x) 1) [impl_knotNums_squeeze_rf.blk c] (endU impl_knotNums_squeeze_rv impl_knotNums_squeeze_rf impl_knotNums_squeeze_rs) = impl_knotNums_squeeze_pre fuel (impl_knotNums_squeeze_c.lp (impl_knotNums_squeeze_T fuel) 1 fuel (fun _ _ _ => none) (endU impl_knotNums_squeeze_rv impl_knotNums_squeeze_rf impl_knotNums_squeeze_rs) 0 impl_knotNums_squeeze_enc0) c x.1.1 by kernel_rfl).trans (by rw [impl_knotNums_squeeze_lp0]; rfl)
def impl_knotNums_squeeze_tf (fuel : Nat) : TFU := ⟨impl_knotNums_squeeze_rf, impl_knotNums_squeeze_ps, impl_knotNums_squeeze_rs, impl_knotNums_squeeze_fn fuel⟩
theorem impl_knotNums_squeeze_spec (fuel : Nat) : FnSpecU Tryz.prog 156 (impl_knotNums_squeeze_tf fuel) :=
  fn_specU (T := impl_knotNums_squeeze_T fuel) (c := bodyOf Tryz.f156) (fn := Tryz.f156) (TabOK.of (entNil) (methNil)) mixed (by kernel_rfl) (by kernel_rfl) impl_knotNums_squeeze_l (by kernel_rfl) (Nat.le_of_ble_eq_true (by kernel_rfl)) (rv := impl_knotNums_squeeze_rv) (by kernel_rfl) (impl_knotNums_squeeze_run fuel)
theorem impl_knotNums_squeeze_ok (fuel : Nat) : EntryOK Tryz.prog 156 (impl_knotNums_squeeze_tf fuel).te := EntryOK.tfu (impl_knotNums_squeeze_spec fuel) (isFn (fn := Tryz.f156) (by kernel_rfl) (by kernel_rfl) (by kernel_rfl))
abbrev impl_rankSum_R := Option ((LP × (Int × Unit)) × Unit)
def impl_rankSum_T (fuel : Nat) : Tab := Tab.of [(155, (impl_knotNums_addKnots_tf fuel).te), (156, (impl_knotNums_squeeze_tf fuel).te)] []
abbrev impl_rankSum_ps : List Pm := [{ cs := [(Kd.list KP, false), (I6, false)], ag := true }, { cs := [(Kd.list KP, false), (I6, false)], ag := true }]
abbrev impl_rankSum_rs : List Pm := [{ cs := [(Kd.list KP, true), (I6, false)], ag := true }]
def impl_rankSum_ann : List Norm := [{ live := [24, 23, 7, 6, 4], fix := [(7, none, KP, true)] }]
noncomputable def impl_rankSum_c : C := irOf Tryz.prog Tryz.f105 [] impl_rankSum_ann []
theorem impl_rankSum_l : lightC Tryz.prog [] Tryz.f105.ntmps impl_rankSum_ann [] 0 (bodyOf Tryz.f105) = some (impl_rankSum_c, 1) := by kernel_rfl
def impl_rankSum_rv : List (Nat × Option (Nat × Bool)) := [(4, some (2, true))]
abbrev impl_rankSum_V0 := (Int) × (List Int) × (Int) × LP × (Int)
def impl_rankSum_enc0 (v : impl_rankSum_V0) : Env × Heap := ([(24, SV.int .i64 v.1), (23, SV.arrv I6 v.2.1), (7, SV.own 0), (6, SV.int .i64 v.2.2.1), (4, SV.ptr 1 0)], [Blk.arr KP v.2.2.2.1 0, Blk.cells [SV.nils, SV.int .i64 v.2.2.2.2] 0 2])
def impl_rankSum_step0 (fuel : Nat) (g0 : impl_rankSum_V0 → impl_rankSum_R) (v : impl_rankSum_V0) : impl_rankSum_R :=
 cond (decide (v.1 < (128 : Int)))
 (tst (decide (0 ≤ v.1)) <|
  tst (decide (v.1 < (zz 128))) <|
  tst (decide (v.1 < (zz (List.length v.2.1)))) <|
  cond (decide (List.getD v.2.1 (Int.toNat v.1) 0 > (0 : Int)))
  (tst (decide (List.length v.2.2.2.1 + 1 < LIM)) <|
   g0 (w64 (v.1 + (1 : Int)), v.2.1, v.2.2.1, v.2.2.2.1 ++ [(v.1, List.getD v.2.1 (Int.toNat v.1) 0, ())], v.2.2.2.2))
  (g0 (w64 (v.1 + (1 : Int)), v.2.1, v.2.2.1, v.2.2.2.1, v.2.2.2.2)))
 (some (((v.2.2.2.1, v.2.2.1, ()), ())))
def impl_rankSum_st0 (fuel : Nat) (g0 : impl_rankSum_V0 → impl_rankSum_R) : impl_rankSum_V0 → impl_rankSum_R := impl_rankSum_step0 fuel g0
theorem impl_rankSum_lp0 (fuel : Nat) (G) : impl_rankSum_c.lp (impl_rankSum_T fuel) 0 fuel G (endF impl_rankSum_rv impl_rankSum_rs) 0 impl_rankSum_enc0 = iter (impl_rankSum_st0 fuel) fuel := C.lp_iter fun g v => by kernel_rfl
def impl_rankSum_pre (fuel : Nat) (X0 : impl_rankSum_V0 → impl_rankSum_R) (x0 : LP) (x1 : Int) (x2 : LP) (x3 : Int) : impl_rankSum_R :=
 Option.bind (impl_knotNums_addKnots_fn fuel (List.replicate 128 0, (x0, ()), ())) fun y_1 =>
 Option.bind (impl_knotNums_addKnots_fn fuel (y_1.1, (x2, ()), ())) fun y_2 =>
  Option.bind (impl_knotNums_squeeze_fn fuel (y_2.1, (w64 (x1 + x3), ()), ())) fun y_3 =>
   tst (Nat.beq (List.length y_3.1 * Kd.sz I6) 128) <|
    X0 ((0 : Int), y_3.1, w64 (x1 + x3), [], (0 : Int))
def impl_rankSum_fn (fuel : Nat) (x : ((LP × (Int × Unit)) × ((LP × (Int × Unit)) × Unit))) : impl_rankSum_R := impl_rankSum_pre fuel (iter (impl_rankSum_st0 fuel) fuel) x.1.1 x.1.2.1 x.2.1.1 x.2.1.2.1
theorem impl_rankSum_run (fuel : Nat) (x : PsT impl_rankSum_ps) : run (impl_rankSum_T fuel) 0 fuel impl_rankSum_c (env0 (svPs impl_rankSum_ps x) 0) [] (endF impl_rankSum_rv impl_rankSum_rs) = impl_rankSum_fn fuel x :=
  (show run (impl_rankSum_T fuel) 0 fuel impl_rankSum_c (env0 (svPs impl_rankSum_ps x) 0) [] (endF impl_rankSum_rv impl_rankSum_rs) = impl_rankSum_pre fuel (impl_rankSum_c.lp (impl_rankSum_T fuel) 0 fuel (fun _ _ _ => none) (endF impl_rankSum_rv impl_rankSum_rs) 0 impl_rankSum_enc0) x.1.1 x.1.2.1 x.2.1.1 x.2.1.2.1 by kernel_rfl).trans (by rw [impl_rankSum_lp0]; rfl)
def impl_rankSum_tf (fuel : Nat) : TF := ⟨impl_rankSum_ps, impl_rankSum_rs, true, impl_rankSum_fn fuel⟩
theorem impl_rankSum_spec (fuel : Nat) : FnSpec Tryz.prog 105 (impl_rankSum_tf fuel) :=
  fn_spec (T := impl_rankSum_T fuel) (c := bodyOf Tryz.f105) (fn := Tryz.f105) (TabOK.of (entCons (impl_knotNums_addKnots_ok fuel) (entCons (impl_knotNums_squeeze_ok fuel) entNil)) (methNil)) mixed (by kernel_rfl) (by kernel_rfl) impl_rankSum_l (by kernel_rfl) (Nat.le_of_ble_eq_true (by kernel_rfl)) (rv := impl_rankSum_rv) (by kernel_rfl) (impl_rankSum_run fuel)
theorem impl_rankSum_ok (fuel : Nat) : EntryOK Tryz.prog 105 (impl_rankSum_tf fuel).te := EntryOK.tf rfl (impl_rankSum_spec fuel) (isFn (fn := Tryz.f105) (by kernel_rfl) (by kernel_rfl) (by kernel_rfl))
def impl_RankAdd_T (fuel : Nat) : Tab := Tab.of [(86, (impl_isThing_tf fuel).te), (94, (impl_RankOk_tf fuel).te), (105, (impl_rankSum_tf fuel).te)] []
abbrev impl_RankAdd_ps : List Pm := [{ cs := [(Kd.list KP, false), (I6, false)], ag := true }, { cs := [(I6, false)], ag := false }]
abbrev impl_RankAdd_rs : List Pm := [{ cs := [(Kd.list KP, true), (I6, false)], ag := true }, { cs := [(Kd.bool, false)], ag := false }]
def impl_RankAdd_ann : List Norm := []
noncomputable def impl_RankAdd_c : C := irOf Tryz.prog Tryz.f65 [] impl_RankAdd_ann []
theorem impl_RankAdd_l : lightC Tryz.prog [] Tryz.f65.ntmps impl_RankAdd_ann [] 0 (bodyOf Tryz.f65) = some (impl_RankAdd_c, 0) := by kernel_rfl
def impl_RankAdd_rv : List (Nat × Option (Nat × Bool)) := [(4, some (2, true)), (5, none)]
def impl_RankAdd_pre (fuel : Nat) (x0 : LP) (x1 : Int) (x2 : Int) : Option ((LP × (Int × Unit)) × ((Bool × Unit) × Unit)) :=
 Option.bind (impl_RankOk_fn fuel ((x0, x1, ()), ())) fun y_1 =>
 cond (!y_1.1.1)
  (some ((([], (0 : Int), ()), (false, ()), ())))
  (Option.bind (impl_isThing_fn fuel ((x2, ()), ())) fun y_3 =>
   cond (!y_3.1.1)
    (some ((([], (0 : Int), ()), (false, ()), ())))
    (cond (x1 == (2000 : Int))
     (some ((([], (0 : Int), ()), (false, ()), ())))
     (Option.bind (impl_rankSum_fn fuel ((x0, x1, ()), ([(w64 ((64 : Int) + x2), (1 : Int), ())], (1 : Int), ()), ())) fun y_6 =>
      some (((y_6.1.1, y_6.1.2.1, ()), (true, ()), ())))))
def impl_RankAdd_fn (fuel : Nat) (x : ((LP × (Int × Unit)) × ((Int × Unit) × Unit))) : Option ((LP × (Int × Unit)) × ((Bool × Unit) × Unit)) := impl_RankAdd_pre fuel x.1.1 x.1.2.1 x.2.1.1
theorem impl_RankAdd_run (fuel : Nat) (x : PsT impl_RankAdd_ps) : run (impl_RankAdd_T fuel) 0 fuel impl_RankAdd_c (env0 (svPs impl_RankAdd_ps x) 0) [] (endF impl_RankAdd_rv impl_RankAdd_rs) = impl_RankAdd_fn fuel x := by kernel_rfl
def impl_RankAdd_tf (fuel : Nat) : TF := ⟨impl_RankAdd_ps, impl_RankAdd_rs, true, impl_RankAdd_fn fuel⟩
theorem impl_RankAdd_spec (fuel : Nat) : FnSpec Tryz.prog 65 (impl_RankAdd_tf fuel) :=
  fn_spec (T := impl_RankAdd_T fuel) (c := bodyOf Tryz.f65) (fn := Tryz.f65) (TabOK.of (entCons (impl_isThing_ok fuel) (entCons (impl_RankOk_ok fuel) (entCons (impl_rankSum_ok fuel) entNil))) (methNil)) mixed (by kernel_rfl) (by kernel_rfl) impl_RankAdd_l (by kernel_rfl) (Nat.le_of_ble_eq_true (by kernel_rfl)) (rv := impl_RankAdd_rv) (by kernel_rfl) (impl_RankAdd_run fuel)
theorem impl_RankAdd_ok (fuel : Nat) : EntryOK Tryz.prog 65 (impl_RankAdd_tf fuel).te := EntryOK.tf rfl (impl_RankAdd_spec fuel) (isFn (fn := Tryz.f65) (by kernel_rfl) (by kernel_rfl) (by kernel_rfl))
def impl_Rank_with_T (fuel : Nat) : Tab := Tab.of [(65, (impl_RankAdd_tf fuel).te)] []
abbrev impl_Rank_with_ps : Sh := (.agg (.cell (Kd.list KP) 0 (.cell I6 0 .nil)) (.cell I6 0 .nil))
abbrev impl_Rank_with_rs : Sh := (.ifc 35 (.agg (.cell (Kd.list KP) 0 (.cell I6 0 .nil)) .nil) (.cell Kd.bool 0 .nil))
def impl_Rank_with_ann : List Norm := []
noncomputable def impl_Rank_with_c : C := irOf Tryz.prog Tryz.f239 [] impl_Rank_with_ann []
theorem impl_Rank_with_l : lightC Tryz.prog [] Tryz.f239.ntmps impl_Rank_with_ann [] 0 (bodyOf Tryz.f239) = some (impl_Rank_with_c, 0) := by kernel_rfl
def impl_Rank_with_rv : List (Nat × Option (Nat × Bool)) := [(4, none), (5, none)]
def impl_Rank_with_pre (fuel : Nat) (x0 : LP) (x1 : Int) (x2 : Int) : Option (((LP × (Int × Unit)) × Unit) × (Bool × Unit)) :=
 Option.bind (impl_RankAdd_fn fuel ((x0, x1, ()), (x2, ()), ())) fun y_1 =>
 some ((((y_1.1.1, y_1.1.2.1, ()), ()), y_1.2.1.1, ()))
def impl_Rank_with_fn (fuel : Nat) (x : ((LP × (Int × Unit)) × (Int × Unit))) : Option (((LP × (Int × Unit)) × Unit) × (Bool × Unit)) := impl_Rank_with_pre fuel x.1.1 x.1.2.1 x.2.1
theorem impl_Rank_with_run (fuel : Nat) (x : Sh.T impl_Rank_with_ps) : run (impl_Rank_with_T fuel) 0 fuel impl_Rank_with_c (env0 (svS impl_Rank_with_ps x) 0) [] (endG impl_Rank_with_rv impl_Rank_with_rs) = impl_Rank_with_fn fuel x := by kernel_rfl
def impl_Rank_with_tf (fuel : Nat) : TG := ⟨impl_Rank_with_ps, impl_Rank_with_rs, false, impl_Rank_with_fn fuel⟩
theorem impl_Rank_with_spec (fuel : Nat) : FnSpecG Tryz.prog 239 (impl_Rank_with_tf fuel) :=
  fn_specG (T := impl_Rank_with_T fuel) (c := bodyOf Tryz.f239) (fn := Tryz.f239) (TabOK.of (entCons (impl_RankAdd_ok fuel) entNil) (methNil)) mixed (by kernel_rfl) (by kernel_rfl) impl_Rank_with_l (by kernel_rfl) (Nat.le_of_ble_eq_true (by kernel_rfl)) (rv := impl_Rank_with_rv) (by kernel_rfl) (fun x y h => (impl_Rank_with_run fuel x).trans h)
theorem impl_Rank_with_ok (fuel : Nat) : EntryOK Tryz.prog 239 (impl_Rank_with_tf fuel).te := EntryOK.tg rfl (impl_Rank_with_spec fuel) (isFn (fn := Tryz.f239) (by kernel_rfl) (by kernel_rfl) (by kernel_rfl))
def impl_Sum_counted_T (fuel : Nat) : Tab := Tab.of [(82, (impl_Sum_ways_tf fuel).te), (104, (impl_sumFrom_tf fuel).te), (233, (impl_Rough_with_tf fuel).te), (235, (impl_Few_with_tf fuel).te), (237, (impl_Top_with_tf fuel).te), (239, (impl_Rank_with_tf fuel).te)] [(27, "loop.example/inkling/impl.with", 233), (29, "loop.example/inkling/impl.with", 235), (32, "loop.example/inkling/impl.with", 237), (35, "loop.example/inkling/impl.with", 239)]
abbrev impl_Sum_counted_ps : List Pm := [{ cs := [(Kd.list (Kd.list I6), false), (Kd.list I6, false), (Kd.list KP, false), (I6, false), (I6, false), (Kd.list KP, false), (I6, false)], ag := true }, { cs := [(I6, false)], ag := false }]
abbrev impl_Sum_counted_rs : List Pm := [{ cs := [(Kd.list (Kd.list I6), false), (Kd.list I6, false), (Kd.list KP, false), (I6, false), (I6, false), (Kd.list KP, false), (I6, false)], ag := true }, { cs := [(Kd.bool, false)], ag := false }]
def impl_Sum_counted_ann : List Norm := [{ live := [14, 13, 1, 4, 6], fix := [] }]
noncomputable def impl_Sum_counted_c : C := irOf Tryz.prog Tryz.f80 [] impl_Sum_counted_ann []
theorem impl_Sum_counted_l : lightC Tryz.prog [] Tryz.f80.ntmps impl_Sum_counted_ann [] 0 (bodyOf Tryz.f80) = some (impl_Sum_counted_c, 1) := by kernel_rfl
def impl_Sum_counted_rv : List (Nat × Option (Nat × Bool)) := [(4, some (7, true)), (5, none)]
def impl_Sum_counted_pre (fuel : Nat) (x0 : List (List Int)) (x1 : List Int) (x2 : LP) (x3 : Int) (x4 : Int) (x5 : LP) (x6 : Int) (x7 : Int) : Option (SumY × ((Bool × Unit) × Unit)) :=
 Option.bind (impl_Sum_ways_fn fuel ((x0, x1, x2, x3, x4, x5, x6, ()), ())) fun y_1 =>
 Option.bind (impl_Rough_with_fn fuel ((y_1.1.1.1.1, ()), x7, ())) fun y_2 =>
  cond (!y_2.2.1)
   (some ((([], [], [], (0 : Int), (0 : Int), [], (0 : Int), ()), (false, ()), ())))
   (Option.bind (impl_Few_with_fn fuel ((y_1.1.2.1.1.1, ()), x7, ())) fun y_4 =>
    cond (!y_4.2.1)
     (some ((([], [], [], (0 : Int), (0 : Int), [], (0 : Int), ()), (false, ()), ())))
     (Option.bind (impl_Top_with_fn fuel ((y_1.1.2.2.1.1.1, y_1.1.2.2.1.1.2.1, y_1.1.2.2.1.1.2.2.1, ()), x7, ())) fun y_6 =>
      cond (!y_6.2.1)
       (some ((([], [], [], (0 : Int), (0 : Int), [], (0 : Int), ()), (false, ()), ())))
       (Option.bind (impl_Rank_with_fn fuel ((y_1.1.2.2.2.1.1.1, y_1.1.2.2.2.1.1.2.1, ()), x7, ())) fun y_8 =>
        cond (!y_8.2.1)
         (some ((([], [], [], (0 : Int), (0 : Int), [], (0 : Int), ()), (false, ()), ())))
         (Option.bind (impl_sumFrom_fn fuel ((((y_2.1.1.1, ()), ()), ((y_4.1.1.1, ()), ()), ((y_6.1.1.1, y_6.1.1.2.1, y_6.1.1.2.2.1, ()), ()), ((y_8.1.1.1, y_8.1.1.2.1, ()), ()), ()), ())) fun y_10 =>
          some (((y_10.1.1, y_10.1.2.1, y_10.1.2.2.1, y_10.1.2.2.2.1, y_10.1.2.2.2.2.1, y_10.1.2.2.2.2.2.1, y_10.1.2.2.2.2.2.2.1, ()), (true, ()), ()))))))
def impl_Sum_counted_fn (fuel : Nat) (x : (SumY × ((Int × Unit) × Unit))) : Option (SumY × ((Bool × Unit) × Unit)) := impl_Sum_counted_pre fuel x.1.1 x.1.2.1 x.1.2.2.1 x.1.2.2.2.1 x.1.2.2.2.2.1 x.1.2.2.2.2.2.1 x.1.2.2.2.2.2.2.1 x.2.1.1
theorem impl_Sum_counted_run (fuel : Nat) (x : PsT impl_Sum_counted_ps) : run (impl_Sum_counted_T fuel) 0 (fuel + 6) impl_Sum_counted_c (env0 (svPs impl_Sum_counted_ps x) 0) [] (endF impl_Sum_counted_rv impl_Sum_counted_rs) = impl_Sum_counted_fn fuel x := by kernel_rfl
def impl_Sum_counted_tf (fuel : Nat) : TF := ⟨impl_Sum_counted_ps, impl_Sum_counted_rs, false, impl_Sum_counted_fn fuel⟩
theorem impl_Sum_counted_spec (fuel : Nat) : FnSpec Tryz.prog 80 (impl_Sum_counted_tf fuel) :=
  fn_spec (T := impl_Sum_counted_T fuel) (c := bodyOf Tryz.f80) (fn := Tryz.f80) (TabOK.of (entCons (impl_Sum_ways_ok fuel) (entCons (impl_sumFrom_ok fuel) (entCons (impl_Rough_with_ok fuel) (entCons (impl_Few_with_ok fuel) (entCons (impl_Top_with_ok fuel) (entCons (impl_Rank_with_ok fuel) entNil)))))) (methCons (fun v args w => by kernel_rfl) (methCons (fun v args w => by kernel_rfl) (methCons (fun v args w => by kernel_rfl) (methCons (fun v args w => by kernel_rfl) (methNil)))))) mixed (by kernel_rfl) (by kernel_rfl) impl_Sum_counted_l (by kernel_rfl) (Nat.le_of_ble_eq_true (by kernel_rfl)) (rv := impl_Sum_counted_rv) (by kernel_rfl) (impl_Sum_counted_run fuel)
theorem impl_Sum_counted_ok (fuel : Nat) : EntryOK Tryz.prog 80 (impl_Sum_counted_tf fuel).te := EntryOK.tf rfl (impl_Sum_counted_spec fuel) (isFn (fn := Tryz.f80) (by kernel_rfl) (by kernel_rfl) (by kernel_rfl))
abbrev impl_SumOf_R := Option (SumY × ((Bool × Unit) × Unit))
def impl_SumOf_T (fuel : Nat) : Tab := Tab.of [(36, (impl_SumNew_tf fuel).te), (80, (impl_Sum_counted_tf fuel).te)] []
abbrev impl_SumOf_ps : List Pm := [{ cs := [(Kd.list I6, false)], ag := false }]
abbrev impl_SumOf_rs : List Pm := [{ cs := [(Kd.list (Kd.list I6), false), (Kd.list I6, false), (Kd.list KP, false), (I6, false), (I6, false), (Kd.list KP, false), (I6, false)], ag := true }, { cs := [(Kd.bool, false)], ag := false }]
def impl_SumOf_ann : List Norm := [{ live := [12, 11, 10, 4, 2], fix := [] }]
noncomputable def impl_SumOf_c : C := irOf Tryz.prog Tryz.f30 [9, 19] impl_SumOf_ann []
theorem impl_SumOf_l : lightC Tryz.prog [9, 19] Tryz.f30.ntmps impl_SumOf_ann [] 0 (bodyOf Tryz.f30) = some (impl_SumOf_c, 1) := by kernel_rfl
def impl_SumOf_rv : List (Nat × Option (Nat × Bool)) := [(2, some (7, true)), (3, none)]
abbrev impl_SumOf_V0 := (Int) × (Int) × (List Int) × (List (List Int)) × (List Int) × LP × (Int) × (Int) × LP × (Int) × (Int) × (Int) × (Int)
def impl_SumOf_enc0 (v : impl_SumOf_V0) : Env × Heap := ([(12, SV.int .i64 v.1), (11, SV.int .i64 v.2.1), (10, SV.es I6 v.2.2.1), (4, SV.ptr 0 0), (2, SV.ptr 1 0)], [Blk.cells [SV.es (Kd.list I6) v.2.2.2.1, SV.es I6 v.2.2.2.2.1, SV.es KP v.2.2.2.2.2.1, SV.int .i64 v.2.2.2.2.2.2.1, SV.int .i64 v.2.2.2.2.2.2.2.1, SV.es KP v.2.2.2.2.2.2.2.2.1, SV.int .i64 v.2.2.2.2.2.2.2.2.2.1] 0 7, Blk.cells [SV.nils, SV.nils, SV.nils, SV.int .i64 v.2.2.2.2.2.2.2.2.2.2.1, SV.int .i64 v.2.2.2.2.2.2.2.2.2.2.2.1, SV.nils, SV.int .i64 v.2.2.2.2.2.2.2.2.2.2.2.2] 0 7])
def impl_SumOf_step0 (fuel : Nat) (g0 : impl_SumOf_V0 → impl_SumOf_R) (v : impl_SumOf_V0) : impl_SumOf_R :=
 cond (decide (v.1 < v.2.1))
 (tst (decide (0 ≤ v.1)) <|
  tst (decide (v.1 < (zz (List.length v.2.2.1)))) <|
  Option.bind (impl_Sum_counted_fn fuel ((v.2.2.2.1, v.2.2.2.2.1, v.2.2.2.2.2.1, v.2.2.2.2.2.2.1, v.2.2.2.2.2.2.2.1, v.2.2.2.2.2.2.2.2.1, v.2.2.2.2.2.2.2.2.2.1, ()), (List.getD v.2.2.1 (Int.toNat v.1) 0, ()), ())) fun y_2 =>
  cond (!y_2.2.1.1)
   (some ((([], [], [], (0 : Int), (0 : Int), [], (0 : Int), ()), (false, ()), ())))
   (g0 (w64 (v.1 + (1 : Int)), v.2.1, v.2.2.1, y_2.1.1, y_2.1.2.1, y_2.1.2.2.1, y_2.1.2.2.2.1, y_2.1.2.2.2.2.1, y_2.1.2.2.2.2.2.1, y_2.1.2.2.2.2.2.2.1, v.2.2.2.2.2.2.2.2.2.2.1, v.2.2.2.2.2.2.2.2.2.2.2.1, v.2.2.2.2.2.2.2.2.2.2.2.2)))
 (some (((v.2.2.2.1, v.2.2.2.2.1, v.2.2.2.2.2.1, v.2.2.2.2.2.2.1, v.2.2.2.2.2.2.2.1, v.2.2.2.2.2.2.2.2.1, v.2.2.2.2.2.2.2.2.2.1, ()), (true, ()), ())))
def impl_SumOf_st0 (fuel : Nat) (g0 : impl_SumOf_V0 → impl_SumOf_R) : impl_SumOf_V0 → impl_SumOf_R := impl_SumOf_step0 fuel g0
theorem impl_SumOf_lp0 (fuel : Nat) (G) : impl_SumOf_c.lp (impl_SumOf_T fuel) 0 fuel G (endF impl_SumOf_rv impl_SumOf_rs) 0 impl_SumOf_enc0 = iter (impl_SumOf_st0 fuel) fuel := C.lp_iter fun g v => by kernel_rfl
def impl_SumOf_pre (fuel : Nat) (X0 : impl_SumOf_V0 → impl_SumOf_R) (x0 : List Int) : impl_SumOf_R :=
 Option.bind (impl_SumNew_fn fuel ()) fun y_1 =>
 X0 ((0 : Int), (zz (List.length x0)), x0, y_1.1.1, y_1.1.2.1, y_1.1.2.2.1, y_1.1.2.2.2.1, y_1.1.2.2.2.2.1, y_1.1.2.2.2.2.2.1, y_1.1.2.2.2.2.2.2.1, (0 : Int), (0 : Int), (0 : Int))
def impl_SumOf_fn (fuel : Nat) (x : (((List Int) × Unit) × Unit)) : impl_SumOf_R := impl_SumOf_pre fuel (iter (impl_SumOf_st0 fuel) fuel) x.1.1
theorem impl_SumOf_run (fuel : Nat) (x : PsT impl_SumOf_ps) : run (impl_SumOf_T fuel) 0 fuel impl_SumOf_c (env0 (svPs impl_SumOf_ps x) 0) [] (endF impl_SumOf_rv impl_SumOf_rs) = impl_SumOf_fn fuel x :=
  (show run (impl_SumOf_T fuel) 0 fuel impl_SumOf_c (env0 (svPs impl_SumOf_ps x) 0) [] (endF impl_SumOf_rv impl_SumOf_rs) = impl_SumOf_pre fuel (impl_SumOf_c.lp (impl_SumOf_T fuel) 0 fuel (fun _ _ _ => none) (endF impl_SumOf_rv impl_SumOf_rs) 0 impl_SumOf_enc0) x.1.1 by kernel_rfl).trans (by rw [impl_SumOf_lp0]; rfl)
def impl_SumOf_tf (fuel : Nat) : TF := ⟨impl_SumOf_ps, impl_SumOf_rs, false, impl_SumOf_fn fuel⟩
theorem impl_SumOf_spec (fuel : Nat) : FnSpec Tryz.prog 30 (impl_SumOf_tf fuel) :=
  fn_spec (T := impl_SumOf_T fuel) (c := bodyOf Tryz.f30) (fn := Tryz.f30) (TabOK.of (entCons (impl_SumNew_ok fuel) (entCons (impl_Sum_counted_ok fuel) entNil)) (methNil)) mixed (by kernel_rfl) (by kernel_rfl) impl_SumOf_l (by kernel_rfl) (Nat.le_of_ble_eq_true (by kernel_rfl)) (rv := impl_SumOf_rv) (by kernel_rfl) (impl_SumOf_run fuel)
theorem impl_SumOf_ok (fuel : Nat) : EntryOK Tryz.prog 30 (impl_SumOf_tf fuel).te := EntryOK.tf rfl (impl_SumOf_spec fuel) (isFn (fn := Tryz.f30) (by kernel_rfl) (by kernel_rfl) (by kernel_rfl))
end Go.Proofs.YtdgdoeknpakmlaaGreat.Den
namespace Go.Proofs.YtdgdoeknpakmlaaGreat.Den
open Go Go.RowKit
set_option linter.unusedVariables false
set_option linter.unusedSimpArgs false
def laws_lkInts_T (fuel : Nat) : Tab := Tab.of [] []
abbrev laws_lkInts_ps : List Pm := [{ cs := [(Kd.list I6, false)], ag := false }, { cs := [(Kd.list I6, false)], ag := false }]
abbrev laws_lkInts_rs : List Pm := [{ cs := [(Kd.bool, false)], ag := false }]
def laws_lkInts_ann : List Norm := [{ live := [5, 0, 1], fix := [] }]
noncomputable def laws_lkInts_c : C := irOf Tryz.prog Tryz.f33 [] laws_lkInts_ann []
theorem laws_lkInts_l : lightC Tryz.prog [] Tryz.f33.ntmps laws_lkInts_ann [] 0 (bodyOf Tryz.f33) = some (laws_lkInts_c, 1) := by kernel_rfl
def laws_lkInts_rv : List (Nat × Option (Nat × Bool)) := [(4, none)]
abbrev laws_lkInts_V0 := (Int) × (List Int) × (List Int)
def laws_lkInts_enc0 (v : laws_lkInts_V0) : Env × Heap := ([(5, SV.int .i64 v.1), (0, SV.es I6 v.2.1), (1, SV.es I6 v.2.2)], [])
def laws_lkInts_step0 (fuel : Nat) (g0 : laws_lkInts_V0 → Option ((Bool × Unit) × Unit)) (v : laws_lkInts_V0) : Option ((Bool × Unit) × Unit) :=
 cond (decide (v.1 < (zz (List.length v.2.1))))
 (tst (decide (0 ≤ v.1)) <|
  tst (decide (v.1 < (zz (List.length v.2.1)))) <|
  tst (decide (0 ≤ v.1)) <|
  tst (decide (v.1 < (zz (List.length v.2.2)))) <|
  cond (List.getD v.2.1 (Int.toNat v.1) 0 != List.getD v.2.2 (Int.toNat v.1) 0)
  (some (((false, ()), ())))
  (g0 (w64 (v.1 + (1 : Int)), v.2.1, v.2.2)))
 (some (((true, ()), ())))
def laws_lkInts_st0 (fuel : Nat) (g0 : laws_lkInts_V0 → Option ((Bool × Unit) × Unit)) : laws_lkInts_V0 → Option ((Bool × Unit) × Unit) := laws_lkInts_step0 fuel g0
theorem laws_lkInts_lp0 (fuel : Nat) (G) : laws_lkInts_c.lp (laws_lkInts_T fuel) 0 fuel G (endF laws_lkInts_rv laws_lkInts_rs) 0 laws_lkInts_enc0 = iter (laws_lkInts_st0 fuel) fuel := C.lp_iter fun g v => by kernel_rfl
def laws_lkInts_pre (fuel : Nat) (X0 : laws_lkInts_V0 → Option ((Bool × Unit) × Unit)) (x0 : List Int) (x1 : List Int) : Option ((Bool × Unit) × Unit) :=
 cond ((zz (List.length x0)) != (zz (List.length x1)))
 (some (((false, ()), ())))
 (X0 ((0 : Int), x0, x1))
def laws_lkInts_fn (fuel : Nat) (x : (((List Int) × Unit) × (((List Int) × Unit) × Unit))) : Option ((Bool × Unit) × Unit) := laws_lkInts_pre fuel (iter (laws_lkInts_st0 fuel) fuel) x.1.1 x.2.1.1
theorem laws_lkInts_run (fuel : Nat) (x : PsT laws_lkInts_ps) : run (laws_lkInts_T fuel) 0 fuel laws_lkInts_c (env0 (svPs laws_lkInts_ps x) 0) [] (endF laws_lkInts_rv laws_lkInts_rs) = laws_lkInts_fn fuel x :=
  (show run (laws_lkInts_T fuel) 0 fuel laws_lkInts_c (env0 (svPs laws_lkInts_ps x) 0) [] (endF laws_lkInts_rv laws_lkInts_rs) = laws_lkInts_pre fuel (laws_lkInts_c.lp (laws_lkInts_T fuel) 0 fuel (fun _ _ _ => none) (endF laws_lkInts_rv laws_lkInts_rs) 0 laws_lkInts_enc0) x.1.1 x.2.1.1 by kernel_rfl).trans (by rw [laws_lkInts_lp0]; rfl)
def laws_lkInts_tf (fuel : Nat) : TF := ⟨laws_lkInts_ps, laws_lkInts_rs, true, laws_lkInts_fn fuel⟩
theorem laws_lkInts_spec (fuel : Nat) : FnSpec Tryz.prog 33 (laws_lkInts_tf fuel) :=
  fn_spec (T := laws_lkInts_T fuel) (c := bodyOf Tryz.f33) (fn := Tryz.f33) (TabOK.of (entNil) (methNil)) mixed (by kernel_rfl) (by kernel_rfl) laws_lkInts_l (by kernel_rfl) (Nat.le_of_ble_eq_true (by kernel_rfl)) (rv := laws_lkInts_rv) (by kernel_rfl) (laws_lkInts_run fuel)
theorem laws_lkInts_ok (fuel : Nat) : EntryOK Tryz.prog 33 (laws_lkInts_tf fuel).te := EntryOK.tf rfl (laws_lkInts_spec fuel) (isFn (fn := Tryz.f33) (by kernel_rfl) (by kernel_rfl) (by kernel_rfl))
def laws_lkRough_T (fuel : Nat) : Tab := Tab.of [(33, (laws_lkInts_tf fuel).te)] []
abbrev laws_lkRough_ps : List Pm := [{ cs := [(Kd.list (Kd.list I6), false)], ag := true }, { cs := [(Kd.list (Kd.list I6), false)], ag := true }]
abbrev laws_lkRough_rs : List Pm := [{ cs := [(Kd.bool, false)], ag := false }]
def laws_lkRough_ann : List Norm := [{ live := [5, 2, 3], fix := [] }]
noncomputable def laws_lkRough_c : C := irOf Tryz.prog Tryz.f32 [] laws_lkRough_ann []
theorem laws_lkRough_l : lightC Tryz.prog [] Tryz.f32.ntmps laws_lkRough_ann [] 0 (bodyOf Tryz.f32) = some (laws_lkRough_c, 1) := by kernel_rfl
def laws_lkRough_rv : List (Nat × Option (Nat × Bool)) := [(4, none)]
abbrev laws_lkRough_V0 := (Int) × (List (List Int)) × (List (List Int))
def laws_lkRough_enc0 (v : laws_lkRough_V0) : Env × Heap := ([(5, SV.int .i64 v.1), (2, SV.ptr 0 0), (3, SV.ptr 1 0)], [Blk.cells [SV.es (Kd.list I6) v.2.1] 0 1, Blk.cells [SV.es (Kd.list I6) v.2.2] 0 1])
def laws_lkRough_step0 (fuel : Nat) (g0 : laws_lkRough_V0 → Option ((Bool × Unit) × Unit)) (v : laws_lkRough_V0) : Option ((Bool × Unit) × Unit) :=
 cond (decide (v.1 < (zz (List.length v.2.1))))
 (tst (decide (0 ≤ v.1)) <|
  tst (decide (v.1 < (zz (List.length v.2.1)))) <|
  tst (decide (0 ≤ v.1)) <|
  tst (decide (v.1 < (zz (List.length v.2.2)))) <|
  Option.bind (laws_lkInts_fn fuel ((List.getD v.2.1 (Int.toNat v.1) [], ()), (List.getD v.2.2 (Int.toNat v.1) [], ()), ())) fun y_2 =>
  cond (!y_2.1.1)
   (some (((false, ()), ())))
   (g0 (w64 (v.1 + (1 : Int)), v.2.1, v.2.2)))
 (some (((true, ()), ())))
def laws_lkRough_st0 (fuel : Nat) (g0 : laws_lkRough_V0 → Option ((Bool × Unit) × Unit)) : laws_lkRough_V0 → Option ((Bool × Unit) × Unit) := laws_lkRough_step0 fuel g0
theorem laws_lkRough_lp0 (fuel : Nat) (G) : laws_lkRough_c.lp (laws_lkRough_T fuel) 0 fuel G (endF laws_lkRough_rv laws_lkRough_rs) 0 laws_lkRough_enc0 = iter (laws_lkRough_st0 fuel) fuel := C.lp_iter fun g v => by kernel_rfl
def laws_lkRough_pre (fuel : Nat) (X0 : laws_lkRough_V0 → Option ((Bool × Unit) × Unit)) (x0 : List (List Int)) (x1 : List (List Int)) : Option ((Bool × Unit) × Unit) :=
 cond ((zz (List.length x0)) != (zz (List.length x1)))
 (some (((false, ()), ())))
 (X0 ((0 : Int), x0, x1))
def laws_lkRough_fn (fuel : Nat) (x : (((List (List Int)) × Unit) × (((List (List Int)) × Unit) × Unit))) : Option ((Bool × Unit) × Unit) := laws_lkRough_pre fuel (iter (laws_lkRough_st0 fuel) fuel) x.1.1 x.2.1.1
theorem laws_lkRough_run (fuel : Nat) (x : PsT laws_lkRough_ps) : run (laws_lkRough_T fuel) 0 fuel laws_lkRough_c (env0 (svPs laws_lkRough_ps x) 0) [] (endF laws_lkRough_rv laws_lkRough_rs) = laws_lkRough_fn fuel x :=
  (show run (laws_lkRough_T fuel) 0 fuel laws_lkRough_c (env0 (svPs laws_lkRough_ps x) 0) [] (endF laws_lkRough_rv laws_lkRough_rs) = laws_lkRough_pre fuel (laws_lkRough_c.lp (laws_lkRough_T fuel) 0 fuel (fun _ _ _ => none) (endF laws_lkRough_rv laws_lkRough_rs) 0 laws_lkRough_enc0) x.1.1 x.2.1.1 by kernel_rfl).trans (by rw [laws_lkRough_lp0]; rfl)
def laws_lkRough_tf (fuel : Nat) : TF := ⟨laws_lkRough_ps, laws_lkRough_rs, true, laws_lkRough_fn fuel⟩
theorem laws_lkRough_spec (fuel : Nat) : FnSpec Tryz.prog 32 (laws_lkRough_tf fuel) :=
  fn_spec (T := laws_lkRough_T fuel) (c := bodyOf Tryz.f32) (fn := Tryz.f32) (TabOK.of (entCons (laws_lkInts_ok fuel) entNil) (methNil)) mixed (by kernel_rfl) (by kernel_rfl) laws_lkRough_l (by kernel_rfl) (Nat.le_of_ble_eq_true (by kernel_rfl)) (rv := laws_lkRough_rv) (by kernel_rfl) (laws_lkRough_run fuel)
theorem laws_lkRough_ok (fuel : Nat) : EntryOK Tryz.prog 32 (laws_lkRough_tf fuel).te := EntryOK.tf rfl (laws_lkRough_spec fuel) (isFn (fn := Tryz.f32) (by kernel_rfl) (by kernel_rfl) (by kernel_rfl))
def laws_lkTop_T (fuel : Nat) : Tab := Tab.of [] []
abbrev laws_lkTop_ps : List Pm := [{ cs := [(Kd.list KP, false), (I6, false), (I6, false)], ag := true }, { cs := [(Kd.list KP, false), (I6, false), (I6, false)], ag := true }]
abbrev laws_lkTop_rs : List Pm := [{ cs := [(Kd.bool, false)], ag := false }]
def laws_lkTop_ann : List Norm := [{ live := [5, 2, 3], fix := [] }]
noncomputable def laws_lkTop_c : C := irOf Tryz.prog Tryz.f58 [] laws_lkTop_ann []
theorem laws_lkTop_l : lightC Tryz.prog [] Tryz.f58.ntmps laws_lkTop_ann [] 0 (bodyOf Tryz.f58) = some (laws_lkTop_c, 1) := by kernel_rfl
def laws_lkTop_rv : List (Nat × Option (Nat × Bool)) := [(4, none)]
abbrev laws_lkTop_V0 := (Int) × LP × (Int) × (Int) × LP × (Int) × (Int)
def laws_lkTop_enc0 (v : laws_lkTop_V0) : Env × Heap := ([(5, SV.int .i64 v.1), (2, SV.ptr 0 0), (3, SV.ptr 1 0)], [Blk.cells [SV.es KP v.2.1, SV.int .i64 v.2.2.1, SV.int .i64 v.2.2.2.1] 0 3, Blk.cells [SV.es KP v.2.2.2.2.1, SV.int .i64 v.2.2.2.2.2.1, SV.int .i64 v.2.2.2.2.2.2] 0 3])
def laws_lkTop_step0 (fuel : Nat) (g0 : laws_lkTop_V0 → Option ((Bool × Unit) × Unit)) (v : laws_lkTop_V0) : Option ((Bool × Unit) × Unit) :=
 cond (decide (v.1 < (zz (List.length v.2.1))))
 (tst (decide (0 ≤ v.1)) <|
  tst (decide (v.1 < (zz (List.length v.2.1)))) <|
  tst (decide (0 ≤ v.1)) <|
  tst (decide (v.1 < (zz (List.length v.2.2.2.2.1)))) <|
  cond (!((List.getD v.2.1 (Int.toNat v.1) (0, (0, ()))).1 == (List.getD v.2.2.2.2.1 (Int.toNat v.1) (0, (0, ()))).1 && ((List.getD v.2.1 (Int.toNat v.1) (0, (0, ()))).2.1 == (List.getD v.2.2.2.2.1 (Int.toNat v.1) (0, (0, ()))).2.1 && true)))
  (some (((false, ()), ())))
  (g0 (w64 (v.1 + (1 : Int)), v.2.1, v.2.2.1, v.2.2.2.1, v.2.2.2.2.1, v.2.2.2.2.2.1, v.2.2.2.2.2.2)))
 (some (((true, ()), ())))
def laws_lkTop_st0 (fuel : Nat) (g0 : laws_lkTop_V0 → Option ((Bool × Unit) × Unit)) : laws_lkTop_V0 → Option ((Bool × Unit) × Unit) := laws_lkTop_step0 fuel g0
theorem laws_lkTop_lp0 (fuel : Nat) (G) : laws_lkTop_c.lp (laws_lkTop_T fuel) 0 fuel G (endF laws_lkTop_rv laws_lkTop_rs) 0 laws_lkTop_enc0 = iter (laws_lkTop_st0 fuel) fuel := C.lp_iter fun g v => by kernel_rfl
def laws_lkTop_pre (fuel : Nat) (X0 : laws_lkTop_V0 → Option ((Bool × Unit) × Unit)) (x0 : LP) (x1 : Int) (x2 : Int) (x3 : LP) (x4 : Int) (x5 : Int) : Option ((Bool × Unit) × Unit) :=
 cond (x1 != x4)
 (some (((false, ()), ())))
 (cond (x2 != x5)
  (some (((false, ()), ())))
  (cond ((zz (List.length x0)) != (zz (List.length x3)))
   (some (((false, ()), ())))
   (X0 ((0 : Int), x0, x1, x2, x3, x4, x5))))
def laws_lkTop_fn (fuel : Nat) (x : ((LP × (Int × (Int × Unit))) × ((LP × (Int × (Int × Unit))) × Unit))) : Option ((Bool × Unit) × Unit) := laws_lkTop_pre fuel (iter (laws_lkTop_st0 fuel) fuel) x.1.1 x.1.2.1 x.1.2.2.1 x.2.1.1 x.2.1.2.1 x.2.1.2.2.1
theorem laws_lkTop_run (fuel : Nat) (x : PsT laws_lkTop_ps) : run (laws_lkTop_T fuel) 0 fuel laws_lkTop_c (env0 (svPs laws_lkTop_ps x) 0) [] (endF laws_lkTop_rv laws_lkTop_rs) = laws_lkTop_fn fuel x :=
  (show run (laws_lkTop_T fuel) 0 fuel laws_lkTop_c (env0 (svPs laws_lkTop_ps x) 0) [] (endF laws_lkTop_rv laws_lkTop_rs) = laws_lkTop_pre fuel (laws_lkTop_c.lp (laws_lkTop_T fuel) 0 fuel (fun _ _ _ => none) (endF laws_lkTop_rv laws_lkTop_rs) 0 laws_lkTop_enc0) x.1.1 x.1.2.1 x.1.2.2.1 x.2.1.1 x.2.1.2.1 x.2.1.2.2.1 by kernel_rfl).trans (by rw [laws_lkTop_lp0]; rfl)
def laws_lkTop_tf (fuel : Nat) : TF := ⟨laws_lkTop_ps, laws_lkTop_rs, true, laws_lkTop_fn fuel⟩
theorem laws_lkTop_spec (fuel : Nat) : FnSpec Tryz.prog 58 (laws_lkTop_tf fuel) :=
  fn_spec (T := laws_lkTop_T fuel) (c := bodyOf Tryz.f58) (fn := Tryz.f58) (TabOK.of (entNil) (methNil)) mixed (by kernel_rfl) (by kernel_rfl) laws_lkTop_l (by kernel_rfl) (Nat.le_of_ble_eq_true (by kernel_rfl)) (rv := laws_lkTop_rv) (by kernel_rfl) (laws_lkTop_run fuel)
theorem laws_lkTop_ok (fuel : Nat) : EntryOK Tryz.prog 58 (laws_lkTop_tf fuel).te := EntryOK.tf rfl (laws_lkTop_spec fuel) (isFn (fn := Tryz.f58) (by kernel_rfl) (by kernel_rfl) (by kernel_rfl))
def laws_lkRank_T (fuel : Nat) : Tab := Tab.of [] []
abbrev laws_lkRank_ps : List Pm := [{ cs := [(Kd.list KP, false), (I6, false)], ag := true }, { cs := [(Kd.list KP, false), (I6, false)], ag := true }]
abbrev laws_lkRank_rs : List Pm := [{ cs := [(Kd.bool, false)], ag := false }]
def laws_lkRank_ann : List Norm := [{ live := [5, 2, 3], fix := [] }]
noncomputable def laws_lkRank_c : C := irOf Tryz.prog Tryz.f81 [] laws_lkRank_ann []
theorem laws_lkRank_l : lightC Tryz.prog [] Tryz.f81.ntmps laws_lkRank_ann [] 0 (bodyOf Tryz.f81) = some (laws_lkRank_c, 1) := by kernel_rfl
def laws_lkRank_rv : List (Nat × Option (Nat × Bool)) := [(4, none)]
abbrev laws_lkRank_V0 := (Int) × LP × (Int) × LP × (Int)
def laws_lkRank_enc0 (v : laws_lkRank_V0) : Env × Heap := ([(5, SV.int .i64 v.1), (2, SV.ptr 0 0), (3, SV.ptr 1 0)], [Blk.cells [SV.es KP v.2.1, SV.int .i64 v.2.2.1] 0 2, Blk.cells [SV.es KP v.2.2.2.1, SV.int .i64 v.2.2.2.2] 0 2])
def laws_lkRank_step0 (fuel : Nat) (g0 : laws_lkRank_V0 → Option ((Bool × Unit) × Unit)) (v : laws_lkRank_V0) : Option ((Bool × Unit) × Unit) :=
 cond (decide (v.1 < (zz (List.length v.2.1))))
 (tst (decide (0 ≤ v.1)) <|
  tst (decide (v.1 < (zz (List.length v.2.1)))) <|
  tst (decide (0 ≤ v.1)) <|
  tst (decide (v.1 < (zz (List.length v.2.2.2.1)))) <|
  cond (!((List.getD v.2.1 (Int.toNat v.1) (0, (0, ()))).1 == (List.getD v.2.2.2.1 (Int.toNat v.1) (0, (0, ()))).1 && ((List.getD v.2.1 (Int.toNat v.1) (0, (0, ()))).2.1 == (List.getD v.2.2.2.1 (Int.toNat v.1) (0, (0, ()))).2.1 && true)))
  (some (((false, ()), ())))
  (g0 (w64 (v.1 + (1 : Int)), v.2.1, v.2.2.1, v.2.2.2.1, v.2.2.2.2)))
 (some (((true, ()), ())))
def laws_lkRank_st0 (fuel : Nat) (g0 : laws_lkRank_V0 → Option ((Bool × Unit) × Unit)) : laws_lkRank_V0 → Option ((Bool × Unit) × Unit) := laws_lkRank_step0 fuel g0
theorem laws_lkRank_lp0 (fuel : Nat) (G) : laws_lkRank_c.lp (laws_lkRank_T fuel) 0 fuel G (endF laws_lkRank_rv laws_lkRank_rs) 0 laws_lkRank_enc0 = iter (laws_lkRank_st0 fuel) fuel := C.lp_iter fun g v => by kernel_rfl
def laws_lkRank_pre (fuel : Nat) (X0 : laws_lkRank_V0 → Option ((Bool × Unit) × Unit)) (x0 : LP) (x1 : Int) (x2 : LP) (x3 : Int) : Option ((Bool × Unit) × Unit) :=
 cond (x1 != x3)
 (some (((false, ()), ())))
 (cond ((zz (List.length x0)) != (zz (List.length x2)))
  (some (((false, ()), ())))
  (X0 ((0 : Int), x0, x1, x2, x3)))
def laws_lkRank_fn (fuel : Nat) (x : ((LP × (Int × Unit)) × ((LP × (Int × Unit)) × Unit))) : Option ((Bool × Unit) × Unit) := laws_lkRank_pre fuel (iter (laws_lkRank_st0 fuel) fuel) x.1.1 x.1.2.1 x.2.1.1 x.2.1.2.1
theorem laws_lkRank_run (fuel : Nat) (x : PsT laws_lkRank_ps) : run (laws_lkRank_T fuel) 0 fuel laws_lkRank_c (env0 (svPs laws_lkRank_ps x) 0) [] (endF laws_lkRank_rv laws_lkRank_rs) = laws_lkRank_fn fuel x :=
  (show run (laws_lkRank_T fuel) 0 fuel laws_lkRank_c (env0 (svPs laws_lkRank_ps x) 0) [] (endF laws_lkRank_rv laws_lkRank_rs) = laws_lkRank_pre fuel (laws_lkRank_c.lp (laws_lkRank_T fuel) 0 fuel (fun _ _ _ => none) (endF laws_lkRank_rv laws_lkRank_rs) 0 laws_lkRank_enc0) x.1.1 x.1.2.1 x.2.1.1 x.2.1.2.1 by kernel_rfl).trans (by rw [laws_lkRank_lp0]; rfl)
def laws_lkRank_tf (fuel : Nat) : TF := ⟨laws_lkRank_ps, laws_lkRank_rs, true, laws_lkRank_fn fuel⟩
theorem laws_lkRank_spec (fuel : Nat) : FnSpec Tryz.prog 81 (laws_lkRank_tf fuel) :=
  fn_spec (T := laws_lkRank_T fuel) (c := bodyOf Tryz.f81) (fn := Tryz.f81) (TabOK.of (entNil) (methNil)) mixed (by kernel_rfl) (by kernel_rfl) laws_lkRank_l (by kernel_rfl) (Nat.le_of_ble_eq_true (by kernel_rfl)) (rv := laws_lkRank_rv) (by kernel_rfl) (laws_lkRank_run fuel)
theorem laws_lkRank_ok (fuel : Nat) : EntryOK Tryz.prog 81 (laws_lkRank_tf fuel).te := EntryOK.tf rfl (laws_lkRank_spec fuel) (isFn (fn := Tryz.f81) (by kernel_rfl) (by kernel_rfl) (by kernel_rfl))
def laws_lkSum_T (fuel : Nat) : Tab := Tab.of [(32, (laws_lkRough_tf fuel).te), (33, (laws_lkInts_tf fuel).te), (58, (laws_lkTop_tf fuel).te), (81, (laws_lkRank_tf fuel).te)] []
abbrev laws_lkSum_ps : List Pm := [{ cs := [(Kd.list (Kd.list I6), false), (Kd.list I6, false), (Kd.list KP, false), (I6, false), (I6, false), (Kd.list KP, false), (I6, false)], ag := true }, { cs := [(Kd.list (Kd.list I6), false), (Kd.list I6, false), (Kd.list KP, false), (I6, false), (I6, false), (Kd.list KP, false), (I6, false)], ag := true }]
abbrev laws_lkSum_rs : List Pm := [{ cs := [(Kd.bool, false)], ag := false }]
def laws_lkSum_ann : List Norm := []
noncomputable def laws_lkSum_c : C := irOf Tryz.prog Tryz.f31 [] laws_lkSum_ann []
theorem laws_lkSum_l : lightC Tryz.prog [] Tryz.f31.ntmps laws_lkSum_ann [] 0 (bodyOf Tryz.f31) = some (laws_lkSum_c, 0) := by kernel_rfl
def laws_lkSum_rv : List (Nat × Option (Nat × Bool)) := [(4, none)]
def laws_lkSum_pre (fuel : Nat) (x0 : List (List Int)) (x1 : List Int) (x2 : LP) (x3 : Int) (x4 : Int) (x5 : LP) (x6 : Int) (x7 : List (List Int)) (x8 : List Int) (x9 : LP) (x10 : Int) (x11 : Int) (x12 : LP) (x13 : Int) : Option ((Bool × Unit) × Unit) :=
 Option.bind (laws_lkRough_fn fuel ((x0, ()), (x7, ()), ())) fun y_1 =>
 cond (y_1.1.1)
  (Option.bind (laws_lkInts_fn fuel ((x1, ()), (x8, ()), ())) fun y_3 =>
   cond (y_3.1.1)
    (Option.bind (laws_lkTop_fn fuel ((x2, x3, x4, ()), (x9, x10, x11, ()), ())) fun y_5 =>
     cond (y_5.1.1)
      (Option.bind (laws_lkRank_fn fuel ((x5, x6, ()), (x12, x13, ()), ())) fun y_7 =>
       some (((y_7.1.1, ()), ())))
      (some (((false, ()), ()))))
    (some (((false, ()), ()))))
  (some (((false, ()), ())))
def laws_lkSum_fn (fuel : Nat) (x : (SumY × (SumY × Unit))) : Option ((Bool × Unit) × Unit) := laws_lkSum_pre fuel x.1.1 x.1.2.1 x.1.2.2.1 x.1.2.2.2.1 x.1.2.2.2.2.1 x.1.2.2.2.2.2.1 x.1.2.2.2.2.2.2.1 x.2.1.1 x.2.1.2.1 x.2.1.2.2.1 x.2.1.2.2.2.1 x.2.1.2.2.2.2.1 x.2.1.2.2.2.2.2.1 x.2.1.2.2.2.2.2.2.1
theorem laws_lkSum_run (fuel : Nat) (x : PsT laws_lkSum_ps) : run (laws_lkSum_T fuel) 0 fuel laws_lkSum_c (env0 (svPs laws_lkSum_ps x) 0) [] (endF laws_lkSum_rv laws_lkSum_rs) = laws_lkSum_fn fuel x := by kernel_rfl
def laws_lkSum_tf (fuel : Nat) : TF := ⟨laws_lkSum_ps, laws_lkSum_rs, true, laws_lkSum_fn fuel⟩
theorem laws_lkSum_spec (fuel : Nat) : FnSpec Tryz.prog 31 (laws_lkSum_tf fuel) :=
  fn_spec (T := laws_lkSum_T fuel) (c := bodyOf Tryz.f31) (fn := Tryz.f31) (TabOK.of (entCons (laws_lkRough_ok fuel) (entCons (laws_lkInts_ok fuel) (entCons (laws_lkTop_ok fuel) (entCons (laws_lkRank_ok fuel) entNil)))) (methNil)) mixed (by kernel_rfl) (by kernel_rfl) laws_lkSum_l (by kernel_rfl) (Nat.le_of_ble_eq_true (by kernel_rfl)) (rv := laws_lkSum_rv) (by kernel_rfl) (laws_lkSum_run fuel)
theorem laws_lkSum_ok (fuel : Nat) : EntryOK Tryz.prog 31 (laws_lkSum_tf fuel).te := EntryOK.tf rfl (laws_lkSum_spec fuel) (isFn (fn := Tryz.f31) (by kernel_rfl) (by kernel_rfl) (by kernel_rfl))
def impl_Rough_inForm_T (fuel : Nat) : Tab := Tab.of [(89, (impl_RoughOk_tf fuel).te)] []
abbrev impl_Rough_inForm_ps : List Pm := [{ cs := [(Kd.list (Kd.list I6), false)], ag := true }]
abbrev impl_Rough_inForm_rs : List Pm := [{ cs := [(Kd.bool, false)], ag := false }]
def impl_Rough_inForm_ann : List Norm := []
noncomputable def impl_Rough_inForm_c : C := irOf Tryz.prog Tryz.f232 [] impl_Rough_inForm_ann []
theorem impl_Rough_inForm_l : lightC Tryz.prog [] Tryz.f232.ntmps impl_Rough_inForm_ann [] 0 (bodyOf Tryz.f232) = some (impl_Rough_inForm_c, 0) := by kernel_rfl
def impl_Rough_inForm_rv : List (Nat × Option (Nat × Bool)) := [(2, none)]
def impl_Rough_inForm_pre (fuel : Nat) (x0 : List (List Int)) : Option ((Bool × Unit) × Unit) :=
 Option.bind (impl_RoughOk_fn fuel ((x0, ()), ())) fun y_1 =>
 some (((y_1.1.1, ()), ()))
def impl_Rough_inForm_fn (fuel : Nat) (x : (((List (List Int)) × Unit) × Unit)) : Option ((Bool × Unit) × Unit) := impl_Rough_inForm_pre fuel x.1.1
theorem impl_Rough_inForm_run (fuel : Nat) (x : PsT impl_Rough_inForm_ps) : run (impl_Rough_inForm_T fuel) 0 fuel impl_Rough_inForm_c (env0 (svPs impl_Rough_inForm_ps x) 0) [] (endF impl_Rough_inForm_rv impl_Rough_inForm_rs) = impl_Rough_inForm_fn fuel x := by kernel_rfl
def impl_Rough_inForm_tf (fuel : Nat) : TF := ⟨impl_Rough_inForm_ps, impl_Rough_inForm_rs, true, impl_Rough_inForm_fn fuel⟩
theorem impl_Rough_inForm_spec (fuel : Nat) : FnSpec Tryz.prog 232 (impl_Rough_inForm_tf fuel) :=
  fn_spec (T := impl_Rough_inForm_T fuel) (c := bodyOf Tryz.f232) (fn := Tryz.f232) (TabOK.of (entCons (impl_RoughOk_ok fuel) entNil) (methNil)) mixed (by kernel_rfl) (by kernel_rfl) impl_Rough_inForm_l (by kernel_rfl) (Nat.le_of_ble_eq_true (by kernel_rfl)) (rv := impl_Rough_inForm_rv) (by kernel_rfl) (impl_Rough_inForm_run fuel)
theorem impl_Rough_inForm_ok (fuel : Nat) : EntryOK Tryz.prog 232 (impl_Rough_inForm_tf fuel).te := EntryOK.tf rfl (impl_Rough_inForm_spec fuel) (isFn (fn := Tryz.f232) (by kernel_rfl) (by kernel_rfl) (by kernel_rfl))
def impl_Few_inForm_T (fuel : Nat) : Tab := Tab.of [(84, (impl_FewOk_tf fuel).te)] []
abbrev impl_Few_inForm_ps : List Pm := [{ cs := [(Kd.list I6, false)], ag := true }]
abbrev impl_Few_inForm_rs : List Pm := [{ cs := [(Kd.bool, false)], ag := false }]
def impl_Few_inForm_ann : List Norm := []
noncomputable def impl_Few_inForm_c : C := irOf Tryz.prog Tryz.f234 [] impl_Few_inForm_ann []
theorem impl_Few_inForm_l : lightC Tryz.prog [] Tryz.f234.ntmps impl_Few_inForm_ann [] 0 (bodyOf Tryz.f234) = some (impl_Few_inForm_c, 0) := by kernel_rfl
def impl_Few_inForm_rv : List (Nat × Option (Nat × Bool)) := [(2, none)]
def impl_Few_inForm_pre (fuel : Nat) (x0 : List Int) : Option ((Bool × Unit) × Unit) :=
 Option.bind (impl_FewOk_fn fuel ((x0, ()), ())) fun y_1 =>
 some (((y_1.1.1, ()), ()))
def impl_Few_inForm_fn (fuel : Nat) (x : (((List Int) × Unit) × Unit)) : Option ((Bool × Unit) × Unit) := impl_Few_inForm_pre fuel x.1.1
theorem impl_Few_inForm_run (fuel : Nat) (x : PsT impl_Few_inForm_ps) : run (impl_Few_inForm_T fuel) 0 fuel impl_Few_inForm_c (env0 (svPs impl_Few_inForm_ps x) 0) [] (endF impl_Few_inForm_rv impl_Few_inForm_rs) = impl_Few_inForm_fn fuel x := by kernel_rfl
def impl_Few_inForm_tf (fuel : Nat) : TF := ⟨impl_Few_inForm_ps, impl_Few_inForm_rs, true, impl_Few_inForm_fn fuel⟩
theorem impl_Few_inForm_spec (fuel : Nat) : FnSpec Tryz.prog 234 (impl_Few_inForm_tf fuel) :=
  fn_spec (T := impl_Few_inForm_T fuel) (c := bodyOf Tryz.f234) (fn := Tryz.f234) (TabOK.of (entCons (impl_FewOk_ok fuel) entNil) (methNil)) mixed (by kernel_rfl) (by kernel_rfl) impl_Few_inForm_l (by kernel_rfl) (Nat.le_of_ble_eq_true (by kernel_rfl)) (rv := impl_Few_inForm_rv) (by kernel_rfl) (impl_Few_inForm_run fuel)
theorem impl_Few_inForm_ok (fuel : Nat) : EntryOK Tryz.prog 234 (impl_Few_inForm_tf fuel).te := EntryOK.tf rfl (impl_Few_inForm_spec fuel) (isFn (fn := Tryz.f234) (by kernel_rfl) (by kernel_rfl) (by kernel_rfl))
def impl_Top_inForm_T (fuel : Nat) : Tab := Tab.of [(85, (impl_TopOk_tf fuel).te)] []
abbrev impl_Top_inForm_ps : List Pm := [{ cs := [(Kd.list KP, false), (I6, false), (I6, false)], ag := true }]
abbrev impl_Top_inForm_rs : List Pm := [{ cs := [(Kd.bool, false)], ag := false }]
def impl_Top_inForm_ann : List Norm := []
noncomputable def impl_Top_inForm_c : C := irOf Tryz.prog Tryz.f236 [] impl_Top_inForm_ann []
theorem impl_Top_inForm_l : lightC Tryz.prog [] Tryz.f236.ntmps impl_Top_inForm_ann [] 0 (bodyOf Tryz.f236) = some (impl_Top_inForm_c, 0) := by kernel_rfl
def impl_Top_inForm_rv : List (Nat × Option (Nat × Bool)) := [(2, none)]
def impl_Top_inForm_pre (fuel : Nat) (x0 : LP) (x1 : Int) (x2 : Int) : Option ((Bool × Unit) × Unit) :=
 Option.bind (impl_TopOk_fn fuel ((x0, x1, x2, ()), ())) fun y_1 =>
 some (((y_1.1.1, ()), ()))
def impl_Top_inForm_fn (fuel : Nat) (x : ((LP × (Int × (Int × Unit))) × Unit)) : Option ((Bool × Unit) × Unit) := impl_Top_inForm_pre fuel x.1.1 x.1.2.1 x.1.2.2.1
theorem impl_Top_inForm_run (fuel : Nat) (x : PsT impl_Top_inForm_ps) : run (impl_Top_inForm_T fuel) 0 fuel impl_Top_inForm_c (env0 (svPs impl_Top_inForm_ps x) 0) [] (endF impl_Top_inForm_rv impl_Top_inForm_rs) = impl_Top_inForm_fn fuel x := by kernel_rfl
def impl_Top_inForm_tf (fuel : Nat) : TF := ⟨impl_Top_inForm_ps, impl_Top_inForm_rs, true, impl_Top_inForm_fn fuel⟩
theorem impl_Top_inForm_spec (fuel : Nat) : FnSpec Tryz.prog 236 (impl_Top_inForm_tf fuel) :=
  fn_spec (T := impl_Top_inForm_T fuel) (c := bodyOf Tryz.f236) (fn := Tryz.f236) (TabOK.of (entCons (impl_TopOk_ok fuel) entNil) (methNil)) mixed (by kernel_rfl) (by kernel_rfl) impl_Top_inForm_l (by kernel_rfl) (Nat.le_of_ble_eq_true (by kernel_rfl)) (rv := impl_Top_inForm_rv) (by kernel_rfl) (impl_Top_inForm_run fuel)
theorem impl_Top_inForm_ok (fuel : Nat) : EntryOK Tryz.prog 236 (impl_Top_inForm_tf fuel).te := EntryOK.tf rfl (impl_Top_inForm_spec fuel) (isFn (fn := Tryz.f236) (by kernel_rfl) (by kernel_rfl) (by kernel_rfl))
def impl_Rank_inForm_T (fuel : Nat) : Tab := Tab.of [(94, (impl_RankOk_tf fuel).te)] []
abbrev impl_Rank_inForm_ps : List Pm := [{ cs := [(Kd.list KP, false), (I6, false)], ag := true }]
abbrev impl_Rank_inForm_rs : List Pm := [{ cs := [(Kd.bool, false)], ag := false }]
def impl_Rank_inForm_ann : List Norm := []
noncomputable def impl_Rank_inForm_c : C := irOf Tryz.prog Tryz.f238 [] impl_Rank_inForm_ann []
theorem impl_Rank_inForm_l : lightC Tryz.prog [] Tryz.f238.ntmps impl_Rank_inForm_ann [] 0 (bodyOf Tryz.f238) = some (impl_Rank_inForm_c, 0) := by kernel_rfl
def impl_Rank_inForm_rv : List (Nat × Option (Nat × Bool)) := [(2, none)]
def impl_Rank_inForm_pre (fuel : Nat) (x0 : LP) (x1 : Int) : Option ((Bool × Unit) × Unit) :=
 Option.bind (impl_RankOk_fn fuel ((x0, x1, ()), ())) fun y_1 =>
 some (((y_1.1.1, ()), ()))
def impl_Rank_inForm_fn (fuel : Nat) (x : ((LP × (Int × Unit)) × Unit)) : Option ((Bool × Unit) × Unit) := impl_Rank_inForm_pre fuel x.1.1 x.1.2.1
theorem impl_Rank_inForm_run (fuel : Nat) (x : PsT impl_Rank_inForm_ps) : run (impl_Rank_inForm_T fuel) 0 fuel impl_Rank_inForm_c (env0 (svPs impl_Rank_inForm_ps x) 0) [] (endF impl_Rank_inForm_rv impl_Rank_inForm_rs) = impl_Rank_inForm_fn fuel x := by kernel_rfl
def impl_Rank_inForm_tf (fuel : Nat) : TF := ⟨impl_Rank_inForm_ps, impl_Rank_inForm_rs, true, impl_Rank_inForm_fn fuel⟩
theorem impl_Rank_inForm_spec (fuel : Nat) : FnSpec Tryz.prog 238 (impl_Rank_inForm_tf fuel) :=
  fn_spec (T := impl_Rank_inForm_T fuel) (c := bodyOf Tryz.f238) (fn := Tryz.f238) (TabOK.of (entCons (impl_RankOk_ok fuel) entNil) (methNil)) mixed (by kernel_rfl) (by kernel_rfl) impl_Rank_inForm_l (by kernel_rfl) (Nat.le_of_ble_eq_true (by kernel_rfl)) (rv := impl_Rank_inForm_rv) (by kernel_rfl) (impl_Rank_inForm_run fuel)
theorem impl_Rank_inForm_ok (fuel : Nat) : EntryOK Tryz.prog 238 (impl_Rank_inForm_tf fuel).te := EntryOK.tf rfl (impl_Rank_inForm_spec fuel) (isFn (fn := Tryz.f238) (by kernel_rfl) (by kernel_rfl) (by kernel_rfl))
def impl_SumOk_T (fuel : Nat) : Tab := Tab.of [(47, (impl_RoughAll_tf fuel).te), (82, (impl_Sum_ways_tf fuel).te), (232, (impl_Rough_inForm_tf fuel).te), (234, (impl_Few_inForm_tf fuel).te), (236, (impl_Top_inForm_tf fuel).te), (238, (impl_Rank_inForm_tf fuel).te)] [(27, "loop.example/inkling/impl.inForm", 232), (29, "loop.example/inkling/impl.inForm", 234), (32, "loop.example/inkling/impl.inForm", 236), (35, "loop.example/inkling/impl.inForm", 238)]
abbrev impl_SumOk_ps : List Pm := [{ cs := [(Kd.list (Kd.list I6), false), (Kd.list I6, false), (Kd.list KP, false), (I6, false), (I6, false), (Kd.list KP, false), (I6, false)], ag := true }]
abbrev impl_SumOk_rs : List Pm := [{ cs := [(Kd.bool, false)], ag := false }]
def impl_SumOk_ann : List Norm := [{ live := [8, 7, 1], fix := [] }]
noncomputable def impl_SumOk_c : C := irOf Tryz.prog Tryz.f34 [] impl_SumOk_ann []
theorem impl_SumOk_l : lightC Tryz.prog [] Tryz.f34.ntmps impl_SumOk_ann [] 0 (bodyOf Tryz.f34) = some (impl_SumOk_c, 1) := by kernel_rfl
def impl_SumOk_rv : List (Nat × Option (Nat × Bool)) := [(2, none)]
def impl_SumOk_pre (fuel : Nat) (x0 : List (List Int)) (x1 : List Int) (x2 : LP) (x3 : Int) (x4 : Int) (x5 : LP) (x6 : Int) : Option ((Bool × Unit) × Unit) :=
 Option.bind (impl_Sum_ways_fn fuel ((x0, x1, x2, x3, x4, x5, x6, ()), ())) fun y_1 =>
 Option.bind (impl_Rough_inForm_fn fuel ((y_1.1.1.1.1, ()), ())) fun y_2 =>
  cond (!y_2.1.1)
   (some (((false, ()), ())))
   (Option.bind (impl_Few_inForm_fn fuel ((y_1.1.2.1.1.1, ()), ())) fun y_4 =>
    cond (!y_4.1.1)
     (some (((false, ()), ())))
     (Option.bind (impl_Top_inForm_fn fuel ((y_1.1.2.2.1.1.1, y_1.1.2.2.1.1.2.1, y_1.1.2.2.1.1.2.2.1, ()), ())) fun y_6 =>
      cond (!y_6.1.1)
       (some (((false, ()), ())))
       (Option.bind (impl_Rank_inForm_fn fuel ((y_1.1.2.2.2.1.1.1, y_1.1.2.2.2.1.1.2.1, ()), ())) fun y_8 =>
        cond (!y_8.1.1)
         (some (((false, ()), ())))
         (Option.bind (impl_RoughAll_fn fuel ((x0, ()), ())) fun y_10 =>
          cond (x4 == y_10.1.1)
           (cond (x6 == y_10.1.1)
            (some (((decide ((zz (List.length x1)) > (0 : Int)) == decide (y_10.1.1 > (0 : Int)), ()), ())))
            (some (((false, ()), ()))))
           (some (((false, ()), ())))))))
def impl_SumOk_fn (fuel : Nat) (x : (SumY × Unit)) : Option ((Bool × Unit) × Unit) := impl_SumOk_pre fuel x.1.1 x.1.2.1 x.1.2.2.1 x.1.2.2.2.1 x.1.2.2.2.2.1 x.1.2.2.2.2.2.1 x.1.2.2.2.2.2.2.1
theorem impl_SumOk_run (fuel : Nat) (x : PsT impl_SumOk_ps) : run (impl_SumOk_T fuel) 0 (fuel + 6) impl_SumOk_c (env0 (svPs impl_SumOk_ps x) 0) [] (endF impl_SumOk_rv impl_SumOk_rs) = impl_SumOk_fn fuel x := by kernel_rfl
def impl_SumOk_tf (fuel : Nat) : TF := ⟨impl_SumOk_ps, impl_SumOk_rs, true, impl_SumOk_fn fuel⟩
theorem impl_SumOk_spec (fuel : Nat) : FnSpec Tryz.prog 34 (impl_SumOk_tf fuel) :=
  fn_spec (T := impl_SumOk_T fuel) (c := bodyOf Tryz.f34) (fn := Tryz.f34) (TabOK.of (entCons (impl_RoughAll_ok fuel) (entCons (impl_Sum_ways_ok fuel) (entCons (impl_Rough_inForm_ok fuel) (entCons (impl_Few_inForm_ok fuel) (entCons (impl_Top_inForm_ok fuel) (entCons (impl_Rank_inForm_ok fuel) entNil)))))) (methCons (fun v args w => by kernel_rfl) (methCons (fun v args w => by kernel_rfl) (methCons (fun v args w => by kernel_rfl) (methCons (fun v args w => by kernel_rfl) (methNil)))))) mixed (by kernel_rfl) (by kernel_rfl) impl_SumOk_l (by kernel_rfl) (Nat.le_of_ble_eq_true (by kernel_rfl)) (rv := impl_SumOk_rv) (by kernel_rfl) (impl_SumOk_run fuel)
theorem impl_SumOk_ok (fuel : Nat) : EntryOK Tryz.prog 34 (impl_SumOk_tf fuel).te := EntryOK.tf rfl (impl_SumOk_spec fuel) (isFn (fn := Tryz.f34) (by kernel_rfl) (by kernel_rfl) (by kernel_rfl))
def laws_lkTimes_T (fuel : Nat) : Tab := Tab.of [] []
abbrev laws_lkTimes_ps : List Pm := [{ cs := [(Kd.list I6, false)], ag := false }, { cs := [(I6, false)], ag := false }]
abbrev laws_lkTimes_rs : List Pm := [{ cs := [(I6, false)], ag := false }]
def laws_lkTimes_ann : List Norm := [{ live := [6, 0, 1, 5], fix := [] }]
noncomputable def laws_lkTimes_c : C := irOf Tryz.prog Tryz.f41 [] laws_lkTimes_ann []
theorem laws_lkTimes_l : lightC Tryz.prog [] Tryz.f41.ntmps laws_lkTimes_ann [] 0 (bodyOf Tryz.f41) = some (laws_lkTimes_c, 1) := by kernel_rfl
def laws_lkTimes_rv : List (Nat × Option (Nat × Bool)) := [(4, none)]
abbrev laws_lkTimes_V0 := (Int) × (List Int) × (Int) × (Int)
def laws_lkTimes_enc0 (v : laws_lkTimes_V0) : Env × Heap := ([(6, SV.int .i64 v.1), (0, SV.es I6 v.2.1), (1, SV.int .i64 v.2.2.1), (5, SV.int .i64 v.2.2.2)], [])
def laws_lkTimes_step0 (fuel : Nat) (g0 : laws_lkTimes_V0 → Option ((Int × Unit) × Unit)) (v : laws_lkTimes_V0) : Option ((Int × Unit) × Unit) :=
 cond (decide (v.1 < (zz (List.length v.2.1))))
 (tst (decide (0 ≤ v.1)) <|
  tst (decide (v.1 < (zz (List.length v.2.1)))) <|
  cond (List.getD v.2.1 (Int.toNat v.1) 0 == v.2.2.1)
  (g0 (w64 (v.1 + (1 : Int)), v.2.1, v.2.2.1, w64 (v.2.2.2 + (1 : Int))))
  (g0 (w64 (v.1 + (1 : Int)), v.2.1, v.2.2.1, v.2.2.2)))
 (some (((v.2.2.2, ()), ())))
def laws_lkTimes_st0 (fuel : Nat) (g0 : laws_lkTimes_V0 → Option ((Int × Unit) × Unit)) : laws_lkTimes_V0 → Option ((Int × Unit) × Unit) := laws_lkTimes_step0 fuel g0
theorem laws_lkTimes_lp0 (fuel : Nat) (G) : laws_lkTimes_c.lp (laws_lkTimes_T fuel) 0 fuel G (endF laws_lkTimes_rv laws_lkTimes_rs) 0 laws_lkTimes_enc0 = iter (laws_lkTimes_st0 fuel) fuel := C.lp_iter fun g v => by kernel_rfl
def laws_lkTimes_pre (fuel : Nat) (X0 : laws_lkTimes_V0 → Option ((Int × Unit) × Unit)) (x0 : List Int) (x1 : Int) : Option ((Int × Unit) × Unit) :=
 X0 ((0 : Int), x0, x1, (0 : Int))
def laws_lkTimes_fn (fuel : Nat) (x : (((List Int) × Unit) × ((Int × Unit) × Unit))) : Option ((Int × Unit) × Unit) := laws_lkTimes_pre fuel (iter (laws_lkTimes_st0 fuel) fuel) x.1.1 x.2.1.1
theorem laws_lkTimes_run (fuel : Nat) (x : PsT laws_lkTimes_ps) : run (laws_lkTimes_T fuel) 0 fuel laws_lkTimes_c (env0 (svPs laws_lkTimes_ps x) 0) [] (endF laws_lkTimes_rv laws_lkTimes_rs) = laws_lkTimes_fn fuel x :=
  (show run (laws_lkTimes_T fuel) 0 fuel laws_lkTimes_c (env0 (svPs laws_lkTimes_ps x) 0) [] (endF laws_lkTimes_rv laws_lkTimes_rs) = laws_lkTimes_pre fuel (laws_lkTimes_c.lp (laws_lkTimes_T fuel) 0 fuel (fun _ _ _ => none) (endF laws_lkTimes_rv laws_lkTimes_rs) 0 laws_lkTimes_enc0) x.1.1 x.2.1.1 by kernel_rfl).trans (by rw [laws_lkTimes_lp0]; rfl)
def laws_lkTimes_tf (fuel : Nat) : TF := ⟨laws_lkTimes_ps, laws_lkTimes_rs, true, laws_lkTimes_fn fuel⟩
theorem laws_lkTimes_spec (fuel : Nat) : FnSpec Tryz.prog 41 (laws_lkTimes_tf fuel) :=
  fn_spec (T := laws_lkTimes_T fuel) (c := bodyOf Tryz.f41) (fn := Tryz.f41) (TabOK.of (entNil) (methNil)) mixed (by kernel_rfl) (by kernel_rfl) laws_lkTimes_l (by kernel_rfl) (Nat.le_of_ble_eq_true (by kernel_rfl)) (rv := laws_lkTimes_rv) (by kernel_rfl) (laws_lkTimes_run fuel)
theorem laws_lkTimes_ok (fuel : Nat) : EntryOK Tryz.prog 41 (laws_lkTimes_tf fuel).te := EntryOK.tf rfl (laws_lkTimes_spec fuel) (isFn (fn := Tryz.f41) (by kernel_rfl) (by kernel_rfl) (by kernel_rfl))
end Go.Proofs.YtdgdoeknpakmlaaGreat.Den
namespace Go.Proofs.YtdgdoeknpakmlaaGreat.Den
open Go Go.RowKit
set_option linter.unusedVariables false
set_option linter.unusedSimpArgs false
abbrev impl_TopGet_R := Option ((Int × Unit) × ((Int × Unit) × Unit))
def impl_TopGet_T (fuel : Nat) : Tab := Tab.of [(85, (impl_TopOk_tf fuel).te), (86, (impl_isThing_tf fuel).te)] []
abbrev impl_TopGet_ps : List Pm := [{ cs := [(Kd.list KP, false), (I6, false), (I6, false)], ag := true }, { cs := [(I6, false)], ag := false }]
abbrev impl_TopGet_rs : List Pm := [{ cs := [(I6, false)], ag := false }, { cs := [(I6, false)], ag := false }]
def impl_TopGet_ann : List Norm := [{ live := [19, 18, 17, 1, 2], fix := [] }]
noncomputable def impl_TopGet_c : C := irOf Tryz.prog Tryz.f40 [] impl_TopGet_ann []
theorem impl_TopGet_l : lightC Tryz.prog [] Tryz.f40.ntmps impl_TopGet_ann [] 0 (bodyOf Tryz.f40) = some (impl_TopGet_c, 1) := by kernel_rfl
def impl_TopGet_rv : List (Nat × Option (Nat × Bool)) := [(4, none), (5, none)]
abbrev impl_TopGet_V0 := (Int) × (Int) × LP × (Int) × LP × (Int) × (Int)
def impl_TopGet_enc0 (v : impl_TopGet_V0) : Env × Heap := ([(19, SV.int .i64 v.1), (18, SV.int .i64 v.2.1), (17, SV.es KP v.2.2.1), (1, SV.int .i64 v.2.2.2.1), (2, SV.ptr 0 0)], [Blk.cells [SV.es KP v.2.2.2.2.1, SV.int .i64 v.2.2.2.2.2.1, SV.int .i64 v.2.2.2.2.2.2] 0 3])
def impl_TopGet_step0 (fuel : Nat) (g0 : impl_TopGet_V0 → impl_TopGet_R) (v : impl_TopGet_V0) : impl_TopGet_R :=
 cond (decide (v.1 < v.2.1))
 (tst (decide (0 ≤ v.1)) <|
  tst (decide (v.1 < (zz (List.length v.2.2.1)))) <|
  cond ((List.getD v.2.2.1 (Int.toNat v.1) (0, (0, ()))).1 == v.2.2.2.1)
  (some ((((List.getD v.2.2.1 (Int.toNat v.1) (0, (0, ()))).2.1, ()), (w64 ((List.getD v.2.2.1 (Int.toNat v.1) (0, (0, ()))).2.1 + v.2.2.2.2.2.1), ()), ())))
  (g0 (w64 (v.1 + (1 : Int)), v.2.1, v.2.2.1, v.2.2.2.1, v.2.2.2.2.1, v.2.2.2.2.2.1, v.2.2.2.2.2.2)))
 (some ((((0 : Int), ()), (v.2.2.2.2.2.1, ()), ())))
def impl_TopGet_st0 (fuel : Nat) (g0 : impl_TopGet_V0 → impl_TopGet_R) : impl_TopGet_V0 → impl_TopGet_R := impl_TopGet_step0 fuel g0
theorem impl_TopGet_lp0 (fuel : Nat) (G) : impl_TopGet_c.lp (impl_TopGet_T fuel) 0 fuel G (endF impl_TopGet_rv impl_TopGet_rs) 0 impl_TopGet_enc0 = iter (impl_TopGet_st0 fuel) fuel := C.lp_iter fun g v => by kernel_rfl
def impl_TopGet_pre (fuel : Nat) (X0 : impl_TopGet_V0 → impl_TopGet_R) (x0 : LP) (x1 : Int) (x2 : Int) (x3 : Int) : impl_TopGet_R :=
 Option.bind (impl_TopOk_fn fuel ((x0, x1, x2, ()), ())) fun y_1 =>
 cond (!y_1.1.1)
  (some ((((-1 : Int), ()), ((-1 : Int), ()), ())))
  (Option.bind (impl_isThing_fn fuel ((x3, ()), ())) fun y_3 =>
   cond (!y_3.1.1)
    (some ((((-1 : Int), ()), ((-1 : Int), ()), ())))
    (X0 ((0 : Int), (zz (List.length x0)), x0, x3, x0, x1, x2)))
def impl_TopGet_fn (fuel : Nat) (x : ((LP × (Int × (Int × Unit))) × ((Int × Unit) × Unit))) : impl_TopGet_R := impl_TopGet_pre fuel (iter (impl_TopGet_st0 fuel) fuel) x.1.1 x.1.2.1 x.1.2.2.1 x.2.1.1
theorem impl_TopGet_run (fuel : Nat) (x : PsT impl_TopGet_ps) : run (impl_TopGet_T fuel) 0 fuel impl_TopGet_c (env0 (svPs impl_TopGet_ps x) 0) [] (endF impl_TopGet_rv impl_TopGet_rs) = impl_TopGet_fn fuel x :=
  (show run (impl_TopGet_T fuel) 0 fuel impl_TopGet_c (env0 (svPs impl_TopGet_ps x) 0) [] (endF impl_TopGet_rv impl_TopGet_rs) = impl_TopGet_pre fuel (impl_TopGet_c.lp (impl_TopGet_T fuel) 0 fuel (fun _ _ _ => none) (endF impl_TopGet_rv impl_TopGet_rs) 0 impl_TopGet_enc0) x.1.1 x.1.2.1 x.1.2.2.1 x.2.1.1 by kernel_rfl).trans (by rw [impl_TopGet_lp0]; rfl)
def impl_TopGet_tf (fuel : Nat) : TF := ⟨impl_TopGet_ps, impl_TopGet_rs, true, impl_TopGet_fn fuel⟩
theorem impl_TopGet_spec (fuel : Nat) : FnSpec Tryz.prog 40 (impl_TopGet_tf fuel) :=
  fn_spec (T := impl_TopGet_T fuel) (c := bodyOf Tryz.f40) (fn := Tryz.f40) (TabOK.of (entCons (impl_TopOk_ok fuel) (entCons (impl_isThing_ok fuel) entNil)) (methNil)) mixed (by kernel_rfl) (by kernel_rfl) impl_TopGet_l (by kernel_rfl) (Nat.le_of_ble_eq_true (by kernel_rfl)) (rv := impl_TopGet_rv) (by kernel_rfl) (impl_TopGet_run fuel)
theorem impl_TopGet_ok (fuel : Nat) : EntryOK Tryz.prog 40 (impl_TopGet_tf fuel).te := EntryOK.tf rfl (impl_TopGet_spec fuel) (isFn (fn := Tryz.f40) (by kernel_rfl) (by kernel_rfl) (by kernel_rfl))
def impl_RoughGet_T (fuel : Nat) : Tab := Tab.of [(43, (impl_RoughPlace_tf fuel).te), (86, (impl_isThing_tf fuel).te), (89, (impl_RoughOk_tf fuel).te)] []
abbrev impl_RoughGet_ps : List Pm := [{ cs := [(Kd.list (Kd.list I6), false)], ag := true }, { cs := [(I6, false)], ag := false }]
abbrev impl_RoughGet_rs : List Pm := [{ cs := [(I6, false)], ag := false }]
def impl_RoughGet_ann : List Norm := [{ live := [19, 18, 17, 5, 1], fix := [] }]
noncomputable def impl_RoughGet_c : C := irOf Tryz.prog Tryz.f44 [] impl_RoughGet_ann []
theorem impl_RoughGet_l : lightC Tryz.prog [] Tryz.f44.ntmps impl_RoughGet_ann [] 0 (bodyOf Tryz.f44) = some (impl_RoughGet_c, 1) := by kernel_rfl
def impl_RoughGet_rv : List (Nat × Option (Nat × Bool)) := [(4, none)]
abbrev impl_RoughGet_V0 := (Int) × (Int) × (List (List Int)) × (Int) × (Int)
def impl_RoughGet_enc0 (v : impl_RoughGet_V0) : Env × Heap := ([(19, SV.int .i64 v.1), (18, SV.int .i64 v.2.1), (17, SV.es (Kd.list I6) v.2.2.1), (5, SV.int .i64 v.2.2.2.1), (1, SV.int .i64 v.2.2.2.2)], [])
def impl_RoughGet_step0 (fuel : Nat) (g0 : impl_RoughGet_V0 → Option ((Int × Unit) × Unit)) (v : impl_RoughGet_V0) : Option ((Int × Unit) × Unit) :=
 cond (decide (v.1 < v.2.1))
 (tst (decide (0 ≤ v.1)) <|
  tst (decide (v.1 < (zz (List.length v.2.2.1)))) <|
  Option.bind (impl_RoughPlace_fn fuel ((v.1, ()), (v.2.2.2.2, ()), ())) fun y_2 =>
  tst (decide (0 ≤ y_2.1.1)) <|
   tst (decide (y_2.1.1 < (zz (List.length (List.getD v.2.2.1 (Int.toNat v.1) []))))) <|
   g0 (w64 (v.1 + (1 : Int)), v.2.1, v.2.2.1, if List.getD (List.getD v.2.2.1 (Int.toNat v.1) []) (Int.toNat y_2.1.1) 0 < v.2.2.2.1 then List.getD (List.getD v.2.2.1 (Int.toNat v.1) []) (Int.toNat y_2.1.1) 0 else v.2.2.2.1, v.2.2.2.2))
 (some (((v.2.2.2.1, ()), ())))
def impl_RoughGet_st0 (fuel : Nat) (g0 : impl_RoughGet_V0 → Option ((Int × Unit) × Unit)) : impl_RoughGet_V0 → Option ((Int × Unit) × Unit) := impl_RoughGet_step0 fuel g0
theorem impl_RoughGet_lp0 (fuel : Nat) (G) : impl_RoughGet_c.lp (impl_RoughGet_T fuel) 0 fuel G (endF impl_RoughGet_rv impl_RoughGet_rs) 0 impl_RoughGet_enc0 = iter (impl_RoughGet_st0 fuel) fuel := C.lp_iter fun g v => by kernel_rfl
def impl_RoughGet_pre (fuel : Nat) (X0 : impl_RoughGet_V0 → Option ((Int × Unit) × Unit)) (x0 : List (List Int)) (x1 : Int) : Option ((Int × Unit) × Unit) :=
 Option.bind (impl_RoughOk_fn fuel ((x0, ()), ())) fun y_1 =>
 cond (!y_1.1.1)
  (some ((((-1 : Int), ()), ())))
  (Option.bind (impl_isThing_fn fuel ((x1, ()), ())) fun y_3 =>
   cond (!y_3.1.1)
    (some ((((-1 : Int), ()), ())))
    (X0 ((0 : Int), (zz (List.length x0)), x0, (2000 : Int), x1)))
def impl_RoughGet_fn (fuel : Nat) (x : (((List (List Int)) × Unit) × ((Int × Unit) × Unit))) : Option ((Int × Unit) × Unit) := impl_RoughGet_pre fuel (iter (impl_RoughGet_st0 fuel) fuel) x.1.1 x.2.1.1
theorem impl_RoughGet_run (fuel : Nat) (x : PsT impl_RoughGet_ps) : run (impl_RoughGet_T fuel) 0 fuel impl_RoughGet_c (env0 (svPs impl_RoughGet_ps x) 0) [] (endF impl_RoughGet_rv impl_RoughGet_rs) = impl_RoughGet_fn fuel x :=
  (show run (impl_RoughGet_T fuel) 0 fuel impl_RoughGet_c (env0 (svPs impl_RoughGet_ps x) 0) [] (endF impl_RoughGet_rv impl_RoughGet_rs) = impl_RoughGet_pre fuel (impl_RoughGet_c.lp (impl_RoughGet_T fuel) 0 fuel (fun _ _ _ => none) (endF impl_RoughGet_rv impl_RoughGet_rs) 0 impl_RoughGet_enc0) x.1.1 x.2.1.1 by kernel_rfl).trans (by rw [impl_RoughGet_lp0]; rfl)
def impl_RoughGet_tf (fuel : Nat) : TF := ⟨impl_RoughGet_ps, impl_RoughGet_rs, true, impl_RoughGet_fn fuel⟩
theorem impl_RoughGet_spec (fuel : Nat) : FnSpec Tryz.prog 44 (impl_RoughGet_tf fuel) :=
  fn_spec (T := impl_RoughGet_T fuel) (c := bodyOf Tryz.f44) (fn := Tryz.f44) (TabOK.of (entCons (impl_RoughPlace_ok fuel) (entCons (impl_isThing_ok fuel) (entCons (impl_RoughOk_ok fuel) entNil))) (methNil)) mixed (by kernel_rfl) (by kernel_rfl) impl_RoughGet_l (by kernel_rfl) (Nat.le_of_ble_eq_true (by kernel_rfl)) (rv := impl_RoughGet_rv) (by kernel_rfl) (impl_RoughGet_run fuel)
theorem impl_RoughGet_ok (fuel : Nat) : EntryOK Tryz.prog 44 (impl_RoughGet_tf fuel).te := EntryOK.tf rfl (impl_RoughGet_spec fuel) (isFn (fn := Tryz.f44) (by kernel_rfl) (by kernel_rfl) (by kernel_rfl))
abbrev laws_lkFine_R := Option (((List Int) × Unit) × Unit)
def laws_lkFine_T (fuel : Nat) : Tab := Tab.of [] []
abbrev laws_lkFine_ps : List Pm := [{ cs := [(Kd.list I6, false)], ag := false }]
abbrev laws_lkFine_rs : List Pm := [{ cs := [(Kd.list I6, true)], ag := false }]
def laws_lkFine_ann : List Norm := [{ live := [4, 0, 3], fix := [(3, none, I6, true)] }]
noncomputable def laws_lkFine_c : C := irOf Tryz.prog Tryz.f45 [] laws_lkFine_ann []
theorem laws_lkFine_l : lightC Tryz.prog [] Tryz.f45.ntmps laws_lkFine_ann [] 0 (bodyOf Tryz.f45) = some (laws_lkFine_c, 1) := by kernel_rfl
def laws_lkFine_rv : List (Nat × Option (Nat × Bool)) := [(2, none)]
abbrev laws_lkFine_V0 := (Int) × (List Int) × (List Int)
def laws_lkFine_enc0 (v : laws_lkFine_V0) : Env × Heap := ([(4, SV.int .i64 v.1), (0, SV.es I6 v.2.1), (3, SV.own 0)], [Blk.arr I6 v.2.2 0])
def laws_lkFine_step0 (fuel : Nat) (g0 : laws_lkFine_V0 → laws_lkFine_R) (v : laws_lkFine_V0) : laws_lkFine_R :=
 cond (decide (v.1 < (zz (List.length v.2.1))))
 (tst (decide (0 ≤ v.1)) <|
  tst (decide (v.1 < (zz (List.length v.2.1)))) <|
  cond (decide (List.getD v.2.1 (Int.toNat v.1) 0 ≥ (0 : Int)))
  (tst (decide (0 ≤ v.1)) <|
   tst (decide (v.1 < (zz (List.length v.2.1)))) <|
   cond (decide (List.getD v.2.1 (Int.toNat v.1) 0 < (64 : Int)))
   (tst (decide (0 ≤ v.1)) <|
    tst (decide (v.1 < (zz (List.length v.2.1)))) <|
    tst (decide (List.length v.2.2 + 1 < LIM)) <|
    g0 (w64 (v.1 + (1 : Int)), v.2.1, v.2.2 ++ [List.getD v.2.1 (Int.toNat v.1) 0]))
   (g0 (w64 (v.1 + (1 : Int)), v.2.1, v.2.2)))
  (g0 (w64 (v.1 + (1 : Int)), v.2.1, v.2.2)))
 (some (((v.2.2, ()), ())))
def laws_lkFine_st0 (fuel : Nat) (g0 : laws_lkFine_V0 → laws_lkFine_R) : laws_lkFine_V0 → laws_lkFine_R := laws_lkFine_step0 fuel g0
theorem laws_lkFine_lp0 (fuel : Nat) (G) : laws_lkFine_c.lp (laws_lkFine_T fuel) 0 fuel G (endF laws_lkFine_rv laws_lkFine_rs) 0 laws_lkFine_enc0 = iter (laws_lkFine_st0 fuel) fuel := C.lp_iter fun g v => by kernel_rfl
def laws_lkFine_pre (fuel : Nat) (X0 : laws_lkFine_V0 → laws_lkFine_R) (x0 : List Int) : laws_lkFine_R :=
 X0 ((0 : Int), x0, [])
def laws_lkFine_fn (fuel : Nat) (x : (((List Int) × Unit) × Unit)) : laws_lkFine_R := laws_lkFine_pre fuel (iter (laws_lkFine_st0 fuel) fuel) x.1.1
theorem laws_lkFine_run (fuel : Nat) (x : PsT laws_lkFine_ps) : run (laws_lkFine_T fuel) 0 fuel laws_lkFine_c (env0 (svPs laws_lkFine_ps x) 0) [] (endF laws_lkFine_rv laws_lkFine_rs) = laws_lkFine_fn fuel x :=
  (show run (laws_lkFine_T fuel) 0 fuel laws_lkFine_c (env0 (svPs laws_lkFine_ps x) 0) [] (endF laws_lkFine_rv laws_lkFine_rs) = laws_lkFine_pre fuel (laws_lkFine_c.lp (laws_lkFine_T fuel) 0 fuel (fun _ _ _ => none) (endF laws_lkFine_rv laws_lkFine_rs) 0 laws_lkFine_enc0) x.1.1 by kernel_rfl).trans (by rw [laws_lkFine_lp0]; rfl)
def laws_lkFine_tf (fuel : Nat) : TF := ⟨laws_lkFine_ps, laws_lkFine_rs, true, laws_lkFine_fn fuel⟩
theorem laws_lkFine_spec (fuel : Nat) : FnSpec Tryz.prog 45 (laws_lkFine_tf fuel) :=
  fn_spec (T := laws_lkFine_T fuel) (c := bodyOf Tryz.f45) (fn := Tryz.f45) (TabOK.of (entNil) (methNil)) mixed (by kernel_rfl) (by kernel_rfl) laws_lkFine_l (by kernel_rfl) (Nat.le_of_ble_eq_true (by kernel_rfl)) (rv := laws_lkFine_rv) (by kernel_rfl) (laws_lkFine_run fuel)
theorem laws_lkFine_ok (fuel : Nat) : EntryOK Tryz.prog 45 (laws_lkFine_tf fuel).te := EntryOK.tf rfl (laws_lkFine_spec fuel) (isFn (fn := Tryz.f45) (by kernel_rfl) (by kernel_rfl) (by kernel_rfl))
def impl_TopJoin_T (fuel : Nat) : Tab := Tab.of [(85, (impl_TopOk_tf fuel).te), (90, (impl_topSum_tf fuel).te)] []
abbrev impl_TopJoin_ps : List Pm := [{ cs := [(Kd.list KP, false), (I6, false), (I6, false)], ag := true }, { cs := [(Kd.list KP, false), (I6, false), (I6, false)], ag := true }]
abbrev impl_TopJoin_rs : List Pm := [{ cs := [(Kd.list KP, false), (I6, false), (I6, false)], ag := true }, { cs := [(Kd.bool, false)], ag := false }]
def impl_TopJoin_ann : List Norm := []
noncomputable def impl_TopJoin_c : C := irOf Tryz.prog Tryz.f46 [] impl_TopJoin_ann []
theorem impl_TopJoin_l : lightC Tryz.prog [] Tryz.f46.ntmps impl_TopJoin_ann [] 0 (bodyOf Tryz.f46) = some (impl_TopJoin_c, 0) := by kernel_rfl
def impl_TopJoin_rv : List (Nat × Option (Nat × Bool)) := [(4, some (3, true)), (5, none)]
def impl_TopJoin_pre (fuel : Nat) (x0 : LP) (x1 : Int) (x2 : Int) (x3 : LP) (x4 : Int) (x5 : Int) : Option ((LP × (Int × (Int × Unit))) × ((Bool × Unit) × Unit)) :=
 Option.bind (impl_TopOk_fn fuel ((x0, x1, x2, ()), ())) fun y_1 =>
 cond (!y_1.1.1)
  (some ((([], (0 : Int), (0 : Int), ()), (false, ()), ())))
  (Option.bind (impl_TopOk_fn fuel ((x3, x4, x5, ()), ())) fun y_3 =>
   cond (!y_3.1.1)
    (some ((([], (0 : Int), (0 : Int), ()), (false, ()), ())))
    (cond (decide (w64 (x2 + x5) > (2000 : Int)))
     (some ((([], (0 : Int), (0 : Int), ()), (false, ()), ())))
     (Option.bind (impl_topSum_fn fuel ((x0, x1, x2, ()), (x3, x4, x5, ()), ())) fun y_6 =>
      some (((y_6.1.1, y_6.1.2.1, y_6.1.2.2.1, ()), (true, ()), ())))))
def impl_TopJoin_fn (fuel : Nat) (x : ((LP × (Int × (Int × Unit))) × ((LP × (Int × (Int × Unit))) × Unit))) : Option ((LP × (Int × (Int × Unit))) × ((Bool × Unit) × Unit)) := impl_TopJoin_pre fuel x.1.1 x.1.2.1 x.1.2.2.1 x.2.1.1 x.2.1.2.1 x.2.1.2.2.1
theorem impl_TopJoin_run (fuel : Nat) (x : PsT impl_TopJoin_ps) : run (impl_TopJoin_T fuel) 0 fuel impl_TopJoin_c (env0 (svPs impl_TopJoin_ps x) 0) [] (endF impl_TopJoin_rv impl_TopJoin_rs) = impl_TopJoin_fn fuel x := by kernel_rfl
def impl_TopJoin_tf (fuel : Nat) : TF := ⟨impl_TopJoin_ps, impl_TopJoin_rs, false, impl_TopJoin_fn fuel⟩
theorem impl_TopJoin_spec (fuel : Nat) : FnSpec Tryz.prog 46 (impl_TopJoin_tf fuel) :=
  fn_spec (T := impl_TopJoin_T fuel) (c := bodyOf Tryz.f46) (fn := Tryz.f46) (TabOK.of (entCons (impl_TopOk_ok fuel) (entCons (impl_topSum_ok fuel) entNil)) (methNil)) mixed (by kernel_rfl) (by kernel_rfl) impl_TopJoin_l (by kernel_rfl) (Nat.le_of_ble_eq_true (by kernel_rfl)) (rv := impl_TopJoin_rv) (by kernel_rfl) (impl_TopJoin_run fuel)
theorem impl_TopJoin_ok (fuel : Nat) : EntryOK Tryz.prog 46 (impl_TopJoin_tf fuel).te := EntryOK.tf rfl (impl_TopJoin_spec fuel) (isFn (fn := Tryz.f46) (by kernel_rfl) (by kernel_rfl) (by kernel_rfl))
abbrev impl_FewHas_R := Option ((Bool × Unit) × ((Bool × Unit) × Unit))
def impl_FewHas_T (fuel : Nat) : Tab := Tab.of [(84, (impl_FewOk_tf fuel).te), (86, (impl_isThing_tf fuel).te), (93, (impl_FewMark_tf fuel).te)] []
abbrev impl_FewHas_ps : List Pm := [{ cs := [(Kd.list I6, false)], ag := true }, { cs := [(I6, false)], ag := false }]
abbrev impl_FewHas_rs : List Pm := [{ cs := [(Kd.bool, false)], ag := false }, { cs := [(Kd.bool, false)], ag := false }]
def impl_FewHas_ann : List Norm := [{ live := [22, 21, 20, 6, 2], fix := [] }]
noncomputable def impl_FewHas_c : C := irOf Tryz.prog Tryz.f49 [] impl_FewHas_ann []
theorem impl_FewHas_l : lightC Tryz.prog [] Tryz.f49.ntmps impl_FewHas_ann [] 0 (bodyOf Tryz.f49) = some (impl_FewHas_c, 1) := by kernel_rfl
def impl_FewHas_rv : List (Nat × Option (Nat × Bool)) := [(4, none), (5, none)]
abbrev impl_FewHas_V0 := (Int) × (Int) × (List Int) × (Int) × (List Int)
def impl_FewHas_enc0 (v : impl_FewHas_V0) : Env × Heap := ([(22, SV.int .i64 v.1), (21, SV.int .i64 v.2.1), (20, SV.es I6 v.2.2.1), (6, SV.int .i64 v.2.2.2.1), (2, SV.ptr 0 0)], [Blk.cells [SV.es I6 v.2.2.2.2] 0 1])
def impl_FewHas_step0 (fuel : Nat) (g0 : impl_FewHas_V0 → impl_FewHas_R) (v : impl_FewHas_V0) : impl_FewHas_R :=
 cond (decide (v.1 < v.2.1))
 (tst (decide (0 ≤ v.1)) <|
  tst (decide (v.1 < (zz (List.length v.2.2.1)))) <|
  cond (List.getD v.2.2.1 (Int.toNat v.1) 0 == v.2.2.2.1)
  (some (((true, ()), (true, ()), ())))
  (g0 (w64 (v.1 + (1 : Int)), v.2.1, v.2.2.1, v.2.2.2.1, v.2.2.2.2)))
 (cond (decide ((zz (List.length v.2.2.2.2)) < (6 : Int)))
  (some (((false, ()), (true, ()), ())))
  (tst (decide ((5 : Int) < (zz (List.length v.2.2.2.2)))) <|
   some (((false, ()), (decide (v.2.2.2.1 < List.getD v.2.2.2.2 (Int.toNat (5 : Int)) 0), ()), ()))))
def impl_FewHas_st0 (fuel : Nat) (g0 : impl_FewHas_V0 → impl_FewHas_R) : impl_FewHas_V0 → impl_FewHas_R := impl_FewHas_step0 fuel g0
theorem impl_FewHas_lp0 (fuel : Nat) (G) : impl_FewHas_c.lp (impl_FewHas_T fuel) 0 fuel G (endF impl_FewHas_rv impl_FewHas_rs) 0 impl_FewHas_enc0 = iter (impl_FewHas_st0 fuel) fuel := C.lp_iter fun g v => by kernel_rfl
def impl_FewHas_pre (fuel : Nat) (X0 : impl_FewHas_V0 → impl_FewHas_R) (x0 : List Int) (x1 : Int) : impl_FewHas_R :=
 Option.bind (impl_FewOk_fn fuel ((x0, ()), ())) fun y_1 =>
 cond (!y_1.1.1)
  (some (((false, ()), (false, ()), ())))
  (Option.bind (impl_isThing_fn fuel ((x1, ()), ())) fun y_3 =>
   cond (!y_3.1.1)
    (some (((false, ()), (false, ()), ())))
    (Option.bind (impl_FewMark_fn fuel ((x1, ()), ())) fun y_5 =>
     X0 ((0 : Int), (zz (List.length x0)), x0, y_5.1.1, x0)))
def impl_FewHas_fn (fuel : Nat) (x : (((List Int) × Unit) × ((Int × Unit) × Unit))) : impl_FewHas_R := impl_FewHas_pre fuel (iter (impl_FewHas_st0 fuel) fuel) x.1.1 x.2.1.1
theorem impl_FewHas_run (fuel : Nat) (x : PsT impl_FewHas_ps) : run (impl_FewHas_T fuel) 0 fuel impl_FewHas_c (env0 (svPs impl_FewHas_ps x) 0) [] (endF impl_FewHas_rv impl_FewHas_rs) = impl_FewHas_fn fuel x :=
  (show run (impl_FewHas_T fuel) 0 fuel impl_FewHas_c (env0 (svPs impl_FewHas_ps x) 0) [] (endF impl_FewHas_rv impl_FewHas_rs) = impl_FewHas_pre fuel (impl_FewHas_c.lp (impl_FewHas_T fuel) 0 fuel (fun _ _ _ => none) (endF impl_FewHas_rv impl_FewHas_rs) 0 impl_FewHas_enc0) x.1.1 x.2.1.1 by kernel_rfl).trans (by rw [impl_FewHas_lp0]; rfl)
def impl_FewHas_tf (fuel : Nat) : TF := ⟨impl_FewHas_ps, impl_FewHas_rs, true, impl_FewHas_fn fuel⟩
theorem impl_FewHas_spec (fuel : Nat) : FnSpec Tryz.prog 49 (impl_FewHas_tf fuel) :=
  fn_spec (T := impl_FewHas_T fuel) (c := bodyOf Tryz.f49) (fn := Tryz.f49) (TabOK.of (entCons (impl_FewOk_ok fuel) (entCons (impl_isThing_ok fuel) (entCons (impl_FewMark_ok fuel) entNil))) (methNil)) mixed (by kernel_rfl) (by kernel_rfl) impl_FewHas_l (by kernel_rfl) (Nat.le_of_ble_eq_true (by kernel_rfl)) (rv := impl_FewHas_rv) (by kernel_rfl) (impl_FewHas_run fuel)
theorem impl_FewHas_ok (fuel : Nat) : EntryOK Tryz.prog 49 (impl_FewHas_tf fuel).te := EntryOK.tf rfl (impl_FewHas_spec fuel) (isFn (fn := Tryz.f49) (by kernel_rfl) (by kernel_rfl) (by kernel_rfl))
end Go.Proofs.YtdgdoeknpakmlaaGreat.Den
namespace Go.Proofs.YtdgdoeknpakmlaaGreat.Den
open Go Go.RowKit
set_option linter.unusedVariables false
set_option linter.unusedSimpArgs false
inductive spec_RoughJoin_V0 where
  | c0 (v : (List (List Int)) × (List Int) × (List Int) × (List Int))
  | c1 (v : (List (List Int)) × (List Int) × (List Int) × (List Int))
  | c2 (v : (List (List Int)) × (List Int) × (List Int) × (List Int))
  | c3 (v : (List (List Int)) × (List Int) × (List Int) × (List Int))
inductive spec_RoughJoin_V1 where
  | c0 (v : (Int) × (List (List Int)) × (List Int) × (List Int) × (List Int))
  | c1 (v : (Int) × (List (List Int)) × (List Int) × (List Int) × (List Int))
  | c2 (v : (Int) × (List (List Int)) × (List Int) × (List Int) × (List Int))
def impl_RankJoin_T (fuel : Nat) : Tab := Tab.of [(94, (impl_RankOk_tf fuel).te), (105, (impl_rankSum_tf fuel).te)] []
abbrev impl_RankJoin_ps : List Pm := [{ cs := [(Kd.list KP, false), (I6, false)], ag := true }, { cs := [(Kd.list KP, false), (I6, false)], ag := true }]
abbrev impl_RankJoin_rs : List Pm := [{ cs := [(Kd.list KP, true), (I6, false)], ag := true }, { cs := [(Kd.bool, false)], ag := false }]
def impl_RankJoin_ann : List Norm := []
noncomputable def impl_RankJoin_c : C := irOf Tryz.prog Tryz.f56 [] impl_RankJoin_ann []
theorem impl_RankJoin_l : lightC Tryz.prog [] Tryz.f56.ntmps impl_RankJoin_ann [] 0 (bodyOf Tryz.f56) = some (impl_RankJoin_c, 0) := by kernel_rfl
def impl_RankJoin_rv : List (Nat × Option (Nat × Bool)) := [(4, some (2, true)), (5, none)]
def impl_RankJoin_pre (fuel : Nat) (x0 : LP) (x1 : Int) (x2 : LP) (x3 : Int) : Option ((LP × (Int × Unit)) × ((Bool × Unit) × Unit)) :=
 Option.bind (impl_RankOk_fn fuel ((x0, x1, ()), ())) fun y_1 =>
 cond (!y_1.1.1)
  (some ((([], (0 : Int), ()), (false, ()), ())))
  (Option.bind (impl_RankOk_fn fuel ((x2, x3, ()), ())) fun y_3 =>
   cond (!y_3.1.1)
    (some ((([], (0 : Int), ()), (false, ()), ())))
    (cond (decide (w64 (x1 + x3) > (2000 : Int)))
     (some ((([], (0 : Int), ()), (false, ()), ())))
     (Option.bind (impl_rankSum_fn fuel ((x0, x1, ()), (x2, x3, ()), ())) fun y_6 =>
      some (((y_6.1.1, y_6.1.2.1, ()), (true, ()), ())))))
def impl_RankJoin_fn (fuel : Nat) (x : ((LP × (Int × Unit)) × ((LP × (Int × Unit)) × Unit))) : Option ((LP × (Int × Unit)) × ((Bool × Unit) × Unit)) := impl_RankJoin_pre fuel x.1.1 x.1.2.1 x.2.1.1 x.2.1.2.1
theorem impl_RankJoin_run (fuel : Nat) (x : PsT impl_RankJoin_ps) : run (impl_RankJoin_T fuel) 0 fuel impl_RankJoin_c (env0 (svPs impl_RankJoin_ps x) 0) [] (endF impl_RankJoin_rv impl_RankJoin_rs) = impl_RankJoin_fn fuel x := by kernel_rfl
def impl_RankJoin_tf (fuel : Nat) : TF := ⟨impl_RankJoin_ps, impl_RankJoin_rs, true, impl_RankJoin_fn fuel⟩
theorem impl_RankJoin_spec (fuel : Nat) : FnSpec Tryz.prog 56 (impl_RankJoin_tf fuel) :=
  fn_spec (T := impl_RankJoin_T fuel) (c := bodyOf Tryz.f56) (fn := Tryz.f56) (TabOK.of (entCons (impl_RankOk_ok fuel) (entCons (impl_rankSum_ok fuel) entNil)) (methNil)) mixed (by kernel_rfl) (by kernel_rfl) impl_RankJoin_l (by kernel_rfl) (Nat.le_of_ble_eq_true (by kernel_rfl)) (rv := impl_RankJoin_rv) (by kernel_rfl) (impl_RankJoin_run fuel)
theorem impl_RankJoin_ok (fuel : Nat) : EntryOK Tryz.prog 56 (impl_RankJoin_tf fuel).te := EntryOK.tf rfl (impl_RankJoin_spec fuel) (isFn (fn := Tryz.f56) (by kernel_rfl) (by kernel_rfl) (by kernel_rfl))
end Go.Proofs.YtdgdoeknpakmlaaGreat.Den
namespace Go.Proofs.YtdgdoeknpakmlaaGreat.Den
open Go Go.RowKit
set_option linter.unusedVariables false
set_option linter.unusedSimpArgs false
def impl_RoughJoin_T (fuel : Nat) : Tab := Tab.of [(47, (impl_RoughAll_tf fuel).te), (89, (impl_RoughOk_tf fuel).te), (112, (impl_roughSum_tf fuel).te)] []
abbrev impl_RoughJoin_ps : List Pm := [{ cs := [(Kd.list (Kd.list I6), false)], ag := true }, { cs := [(Kd.list (Kd.list I6), false)], ag := true }]
abbrev impl_RoughJoin_rs : List Pm := [{ cs := [(Kd.list (Kd.list I6), false)], ag := true }, { cs := [(Kd.bool, false)], ag := false }]
def impl_RoughJoin_ann : List Norm := []
noncomputable def impl_RoughJoin_c : C := irOf Tryz.prog Tryz.f153 [] impl_RoughJoin_ann []
theorem impl_RoughJoin_l : lightC Tryz.prog [] Tryz.f153.ntmps impl_RoughJoin_ann [] 0 (bodyOf Tryz.f153) = some (impl_RoughJoin_c, 0) := by kernel_rfl
def impl_RoughJoin_rv : List (Nat × Option (Nat × Bool)) := [(4, some (1, true)), (5, none)]
def impl_RoughJoin_pre (fuel : Nat) (x0 : List (List Int)) (x1 : List (List Int)) : Option (((List (List Int)) × Unit) × ((Bool × Unit) × Unit)) :=
 Option.bind (impl_RoughOk_fn fuel ((x0, ()), ())) fun y_1 =>
 cond (!y_1.1.1)
  (some ((([], ()), (false, ()), ())))
  (Option.bind (impl_RoughOk_fn fuel ((x1, ()), ())) fun y_3 =>
   cond (!y_3.1.1)
    (some ((([], ()), (false, ()), ())))
    (Option.bind (impl_RoughAll_fn fuel ((x0, ()), ())) fun y_5 =>
     Option.bind (impl_RoughAll_fn fuel ((x1, ()), ())) fun y_6 =>
      cond (decide (w64 (y_5.1.1 + y_6.1.1) > (2000 : Int)))
       (some ((([], ()), (false, ()), ())))
       (Option.bind (impl_roughSum_fn fuel ((x0, ()), (x1, ()), ())) fun y_8 =>
        some ((([List.getD y_8.1.1 0 [], List.getD y_8.1.1 1 [], List.getD y_8.1.1 2 []], ()), (true, ()), ())))))
def impl_RoughJoin_fn (fuel : Nat) (x : (((List (List Int)) × Unit) × (((List (List Int)) × Unit) × Unit))) : Option (((List (List Int)) × Unit) × ((Bool × Unit) × Unit)) := impl_RoughJoin_pre fuel x.1.1 x.2.1.1
theorem impl_RoughJoin_run (fuel : Nat) (x : PsT impl_RoughJoin_ps) : run (impl_RoughJoin_T fuel) 0 fuel impl_RoughJoin_c (env0 (svPs impl_RoughJoin_ps x) 0) [] (endF impl_RoughJoin_rv impl_RoughJoin_rs) = impl_RoughJoin_fn fuel x := by kernel_rfl
def impl_RoughJoin_tf (fuel : Nat) : TF := ⟨impl_RoughJoin_ps, impl_RoughJoin_rs, false, impl_RoughJoin_fn fuel⟩
theorem impl_RoughJoin_spec (fuel : Nat) : FnSpec Tryz.prog 153 (impl_RoughJoin_tf fuel) :=
  fn_spec (T := impl_RoughJoin_T fuel) (c := bodyOf Tryz.f153) (fn := Tryz.f153) (TabOK.of (entCons (impl_RoughAll_ok fuel) (entCons (impl_RoughOk_ok fuel) (entCons (impl_roughSum_ok fuel) entNil))) (methNil)) mixed (by kernel_rfl) (by kernel_rfl) impl_RoughJoin_l (by kernel_rfl) (Nat.le_of_ble_eq_true (by kernel_rfl)) (rv := impl_RoughJoin_rv) (by kernel_rfl) (impl_RoughJoin_run fuel)
theorem impl_RoughJoin_ok (fuel : Nat) : EntryOK Tryz.prog 153 (impl_RoughJoin_tf fuel).te := EntryOK.tf rfl (impl_RoughJoin_spec fuel) (isFn (fn := Tryz.f153) (by kernel_rfl) (by kernel_rfl) (by kernel_rfl))
def impl_FewJoin_T (fuel : Nat) : Tab := Tab.of [(84, (impl_FewOk_tf fuel).te), (113, (impl_leastOf_tf fuel).te)] []
abbrev impl_FewJoin_ps : List Pm := [{ cs := [(Kd.list I6, false)], ag := true }, { cs := [(Kd.list I6, false)], ag := true }]
abbrev impl_FewJoin_rs : List Pm := [{ cs := [(Kd.list I6, true)], ag := true }, { cs := [(Kd.bool, false)], ag := false }]
def impl_FewJoin_ann : List Norm := []
noncomputable def impl_FewJoin_c : C := irOf Tryz.prog Tryz.f154 [] impl_FewJoin_ann []
theorem impl_FewJoin_l : lightC Tryz.prog [] Tryz.f154.ntmps impl_FewJoin_ann [] 0 (bodyOf Tryz.f154) = some (impl_FewJoin_c, 0) := by kernel_rfl
def impl_FewJoin_rv : List (Nat × Option (Nat × Bool)) := [(4, some (1, true)), (5, none)]
def impl_FewJoin_pre (fuel : Nat) (x0 : List Int) (x1 : List Int) : Option (((List Int) × Unit) × ((Bool × Unit) × Unit)) :=
 Option.bind (impl_FewOk_fn fuel ((x0, ()), ())) fun y_1 =>
 cond (!y_1.1.1)
  (some ((([], ()), (false, ()), ())))
  (Option.bind (impl_FewOk_fn fuel ((x1, ()), ())) fun y_3 =>
   cond (!y_3.1.1)
    (some ((([], ()), (false, ()), ())))
    (Option.bind (impl_leastOf_fn fuel ((x0, ()), (x1, ()), ())) fun y_5 =>
     some (((y_5.1.1, ()), (true, ()), ()))))
def impl_FewJoin_fn (fuel : Nat) (x : (((List Int) × Unit) × (((List Int) × Unit) × Unit))) : Option (((List Int) × Unit) × ((Bool × Unit) × Unit)) := impl_FewJoin_pre fuel x.1.1 x.2.1.1
theorem impl_FewJoin_run (fuel : Nat) (x : PsT impl_FewJoin_ps) : run (impl_FewJoin_T fuel) 0 fuel impl_FewJoin_c (env0 (svPs impl_FewJoin_ps x) 0) [] (endF impl_FewJoin_rv impl_FewJoin_rs) = impl_FewJoin_fn fuel x := by kernel_rfl
def impl_FewJoin_tf (fuel : Nat) : TF := ⟨impl_FewJoin_ps, impl_FewJoin_rs, true, impl_FewJoin_fn fuel⟩
theorem impl_FewJoin_spec (fuel : Nat) : FnSpec Tryz.prog 154 (impl_FewJoin_tf fuel) :=
  fn_spec (T := impl_FewJoin_T fuel) (c := bodyOf Tryz.f154) (fn := Tryz.f154) (TabOK.of (entCons (impl_FewOk_ok fuel) (entCons (impl_leastOf_ok fuel) entNil)) (methNil)) mixed (by kernel_rfl) (by kernel_rfl) impl_FewJoin_l (by kernel_rfl) (Nat.le_of_ble_eq_true (by kernel_rfl)) (rv := impl_FewJoin_rv) (by kernel_rfl) (impl_FewJoin_run fuel)
theorem impl_FewJoin_ok (fuel : Nat) : EntryOK Tryz.prog 154 (impl_FewJoin_tf fuel).te := EntryOK.tf rfl (impl_FewJoin_spec fuel) (isFn (fn := Tryz.f154) (by kernel_rfl) (by kernel_rfl) (by kernel_rfl))
def impl_joinWays_v0_T (fuel : Nat) : Tab := Tab.of [(46, (impl_TopJoin_tf fuel).te), (56, (impl_RankJoin_tf fuel).te), (153, (impl_RoughJoin_tf fuel).te), (154, (impl_FewJoin_tf fuel).te)] []
abbrev impl_joinWays_v0_ps : Sh := (.ifc 27 (.agg (.cell (Kd.list (Kd.list I6)) 0 .nil) .nil) (.ifc 27 (.agg (.cell (Kd.list (Kd.list I6)) 0 .nil) .nil) .nil))
abbrev impl_joinWays_v0_rs : Sh := (.ifc 27 (.agg (.cell (Kd.list (Kd.list I6)) 0 .nil) .nil) (.cell Kd.bool 0 .nil))
def impl_joinWays_v0_ann : List Norm := []
noncomputable def impl_joinWays_v0_c : C := irOf Tryz.prog Tryz.f103 [] impl_joinWays_v0_ann []
theorem impl_joinWays_v0_l : lightC Tryz.prog [] Tryz.f103.ntmps impl_joinWays_v0_ann [] 0 (bodyOf Tryz.f103) = some (impl_joinWays_v0_c, 0) := by kernel_rfl
def impl_joinWays_v0_rv : List (Nat × Option (Nat × Bool)) := [(4, none), (5, none)]
def impl_joinWays_v0_pre (fuel : Nat) (x0 : List (List Int)) (x1 : List (List Int)) : Option ((((List (List Int)) × Unit) × Unit) × (Bool × Unit)) :=
 Option.bind (impl_RoughJoin_fn fuel ((x0, ()), (x1, ()), ())) fun y_1 =>
 some ((((y_1.1.1, ()), ()), y_1.2.1.1, ()))
def impl_joinWays_v0_fn (fuel : Nat) (x : ((((List (List Int)) × Unit) × Unit) × ((((List (List Int)) × Unit) × Unit) × Unit))) : Option ((((List (List Int)) × Unit) × Unit) × (Bool × Unit)) := impl_joinWays_v0_pre fuel x.1.1.1 x.2.1.1.1
theorem impl_joinWays_v0_run (fuel : Nat) (x : Sh.T impl_joinWays_v0_ps) : run (impl_joinWays_v0_T fuel) 0 fuel impl_joinWays_v0_c (env0 (svS impl_joinWays_v0_ps x) 0) [] (endG impl_joinWays_v0_rv impl_joinWays_v0_rs) = impl_joinWays_v0_fn fuel x := by kernel_rfl
def impl_joinWays_v0_tf (fuel : Nat) : TG := ⟨impl_joinWays_v0_ps, impl_joinWays_v0_rs, false, impl_joinWays_v0_fn fuel⟩
theorem impl_joinWays_v0_spec (fuel : Nat) : FnSpecG Tryz.prog 103 (impl_joinWays_v0_tf fuel) :=
  fn_specG (T := impl_joinWays_v0_T fuel) (c := bodyOf Tryz.f103) (fn := Tryz.f103) (TabOK.of (entCons (impl_TopJoin_ok fuel) (entCons (impl_RankJoin_ok fuel) (entCons (impl_RoughJoin_ok fuel) (entCons (impl_FewJoin_ok fuel) entNil)))) (methNil)) mixed (by kernel_rfl) (by kernel_rfl) impl_joinWays_v0_l (by kernel_rfl) (Nat.le_of_ble_eq_true (by kernel_rfl)) (rv := impl_joinWays_v0_rv) (by kernel_rfl) (fun x y h => (impl_joinWays_v0_run fuel x).trans h)
theorem impl_joinWays_v0_ok (fuel : Nat) : EntryOK Tryz.prog 103 (impl_joinWays_v0_tf fuel).te := EntryOK.tg rfl (impl_joinWays_v0_spec fuel) (isFn (fn := Tryz.f103) (by kernel_rfl) (by kernel_rfl) (by kernel_rfl))
def impl_joinWays_v1_T (fuel : Nat) : Tab := Tab.of [(46, (impl_TopJoin_tf fuel).te), (56, (impl_RankJoin_tf fuel).te), (153, (impl_RoughJoin_tf fuel).te), (154, (impl_FewJoin_tf fuel).te)] []
abbrev impl_joinWays_v1_ps : Sh := (.ifc 29 (.agg (.cell (Kd.list I6) 0 .nil) .nil) (.ifc 29 (.agg (.cell (Kd.list I6) 0 .nil) .nil) .nil))
abbrev impl_joinWays_v1_rs : Sh := (.ifc 29 (.agg (.cell (Kd.list I6) 0 .nil) .nil) (.cell Kd.bool 0 .nil))
def impl_joinWays_v1_ann : List Norm := []
noncomputable def impl_joinWays_v1_c : C := irOf Tryz.prog Tryz.f103 [] impl_joinWays_v1_ann []
theorem impl_joinWays_v1_l : lightC Tryz.prog [] Tryz.f103.ntmps impl_joinWays_v1_ann [] 0 (bodyOf Tryz.f103) = some (impl_joinWays_v1_c, 0) := by kernel_rfl
def impl_joinWays_v1_rv : List (Nat × Option (Nat × Bool)) := [(4, none), (5, none)]
def impl_joinWays_v1_pre (fuel : Nat) (x0 : List Int) (x1 : List Int) : Option ((((List Int) × Unit) × Unit) × (Bool × Unit)) :=
 Option.bind (impl_FewJoin_fn fuel ((x0, ()), (x1, ()), ())) fun y_1 =>
 some ((((y_1.1.1, ()), ()), y_1.2.1.1, ()))
def impl_joinWays_v1_fn (fuel : Nat) (x : ((((List Int) × Unit) × Unit) × ((((List Int) × Unit) × Unit) × Unit))) : Option ((((List Int) × Unit) × Unit) × (Bool × Unit)) := impl_joinWays_v1_pre fuel x.1.1.1 x.2.1.1.1
theorem impl_joinWays_v1_run (fuel : Nat) (x : Sh.T impl_joinWays_v1_ps) : run (impl_joinWays_v1_T fuel) 0 fuel impl_joinWays_v1_c (env0 (svS impl_joinWays_v1_ps x) 0) [] (endG impl_joinWays_v1_rv impl_joinWays_v1_rs) = impl_joinWays_v1_fn fuel x := by kernel_rfl
def impl_joinWays_v1_tf (fuel : Nat) : TG := ⟨impl_joinWays_v1_ps, impl_joinWays_v1_rs, false, impl_joinWays_v1_fn fuel⟩
theorem impl_joinWays_v1_spec (fuel : Nat) : FnSpecG Tryz.prog 103 (impl_joinWays_v1_tf fuel) :=
  fn_specG (T := impl_joinWays_v1_T fuel) (c := bodyOf Tryz.f103) (fn := Tryz.f103) (TabOK.of (entCons (impl_TopJoin_ok fuel) (entCons (impl_RankJoin_ok fuel) (entCons (impl_RoughJoin_ok fuel) (entCons (impl_FewJoin_ok fuel) entNil)))) (methNil)) mixed (by kernel_rfl) (by kernel_rfl) impl_joinWays_v1_l (by kernel_rfl) (Nat.le_of_ble_eq_true (by kernel_rfl)) (rv := impl_joinWays_v1_rv) (by kernel_rfl) (fun x y h => (impl_joinWays_v1_run fuel x).trans h)
theorem impl_joinWays_v1_ok (fuel : Nat) : EntryOK Tryz.prog 103 (impl_joinWays_v1_tf fuel).te := EntryOK.tg rfl (impl_joinWays_v1_spec fuel) (isFn (fn := Tryz.f103) (by kernel_rfl) (by kernel_rfl) (by kernel_rfl))
def impl_joinWays_v2_T (fuel : Nat) : Tab := Tab.of [(46, (impl_TopJoin_tf fuel).te), (56, (impl_RankJoin_tf fuel).te), (153, (impl_RoughJoin_tf fuel).te), (154, (impl_FewJoin_tf fuel).te)] []
abbrev impl_joinWays_v2_ps : Sh := (.ifc 32 (.agg (.cell (Kd.list KP) 0 (.cell I6 0 (.cell I6 0 .nil))) .nil) (.ifc 32 (.agg (.cell (Kd.list KP) 0 (.cell I6 0 (.cell I6 0 .nil))) .nil) .nil))
abbrev impl_joinWays_v2_rs : Sh := (.ifc 32 (.agg (.cell (Kd.list KP) 0 (.cell I6 0 (.cell I6 0 .nil))) .nil) (.cell Kd.bool 0 .nil))
def impl_joinWays_v2_ann : List Norm := []
noncomputable def impl_joinWays_v2_c : C := irOf Tryz.prog Tryz.f103 [] impl_joinWays_v2_ann []
theorem impl_joinWays_v2_l : lightC Tryz.prog [] Tryz.f103.ntmps impl_joinWays_v2_ann [] 0 (bodyOf Tryz.f103) = some (impl_joinWays_v2_c, 0) := by kernel_rfl
def impl_joinWays_v2_rv : List (Nat × Option (Nat × Bool)) := [(4, none), (5, none)]
def impl_joinWays_v2_pre (fuel : Nat) (x0 : LP) (x1 : Int) (x2 : Int) (x3 : LP) (x4 : Int) (x5 : Int) : Option (((LP × (Int × (Int × Unit))) × Unit) × (Bool × Unit)) :=
 Option.bind (impl_TopJoin_fn fuel ((x0, x1, x2, ()), (x3, x4, x5, ()), ())) fun y_1 =>
 some ((((y_1.1.1, y_1.1.2.1, y_1.1.2.2.1, ()), ()), y_1.2.1.1, ()))
def impl_joinWays_v2_fn (fuel : Nat) (x : (((LP × (Int × (Int × Unit))) × Unit) × (((LP × (Int × (Int × Unit))) × Unit) × Unit))) : Option (((LP × (Int × (Int × Unit))) × Unit) × (Bool × Unit)) := impl_joinWays_v2_pre fuel x.1.1.1 x.1.1.2.1 x.1.1.2.2.1 x.2.1.1.1 x.2.1.1.2.1 x.2.1.1.2.2.1
theorem impl_joinWays_v2_run (fuel : Nat) (x : Sh.T impl_joinWays_v2_ps) : run (impl_joinWays_v2_T fuel) 0 fuel impl_joinWays_v2_c (env0 (svS impl_joinWays_v2_ps x) 0) [] (endG impl_joinWays_v2_rv impl_joinWays_v2_rs) = impl_joinWays_v2_fn fuel x := by kernel_rfl
def impl_joinWays_v2_tf (fuel : Nat) : TG := ⟨impl_joinWays_v2_ps, impl_joinWays_v2_rs, false, impl_joinWays_v2_fn fuel⟩
theorem impl_joinWays_v2_spec (fuel : Nat) : FnSpecG Tryz.prog 103 (impl_joinWays_v2_tf fuel) :=
  fn_specG (T := impl_joinWays_v2_T fuel) (c := bodyOf Tryz.f103) (fn := Tryz.f103) (TabOK.of (entCons (impl_TopJoin_ok fuel) (entCons (impl_RankJoin_ok fuel) (entCons (impl_RoughJoin_ok fuel) (entCons (impl_FewJoin_ok fuel) entNil)))) (methNil)) mixed (by kernel_rfl) (by kernel_rfl) impl_joinWays_v2_l (by kernel_rfl) (Nat.le_of_ble_eq_true (by kernel_rfl)) (rv := impl_joinWays_v2_rv) (by kernel_rfl) (fun x y h => (impl_joinWays_v2_run fuel x).trans h)
theorem impl_joinWays_v2_ok (fuel : Nat) : EntryOK Tryz.prog 103 (impl_joinWays_v2_tf fuel).te := EntryOK.tg rfl (impl_joinWays_v2_spec fuel) (isFn (fn := Tryz.f103) (by kernel_rfl) (by kernel_rfl) (by kernel_rfl))
def impl_joinWays_v3_T (fuel : Nat) : Tab := Tab.of [(46, (impl_TopJoin_tf fuel).te), (56, (impl_RankJoin_tf fuel).te), (153, (impl_RoughJoin_tf fuel).te), (154, (impl_FewJoin_tf fuel).te)] []
abbrev impl_joinWays_v3_ps : Sh := (.ifc 35 (.agg (.cell (Kd.list KP) 0 (.cell I6 0 .nil)) .nil) (.ifc 35 (.agg (.cell (Kd.list KP) 0 (.cell I6 0 .nil)) .nil) .nil))
abbrev impl_joinWays_v3_rs : Sh := (.ifc 35 (.agg (.cell (Kd.list KP) 0 (.cell I6 0 .nil)) .nil) (.cell Kd.bool 0 .nil))
def impl_joinWays_v3_ann : List Norm := []
noncomputable def impl_joinWays_v3_c : C := irOf Tryz.prog Tryz.f103 [] impl_joinWays_v3_ann []
theorem impl_joinWays_v3_l : lightC Tryz.prog [] Tryz.f103.ntmps impl_joinWays_v3_ann [] 0 (bodyOf Tryz.f103) = some (impl_joinWays_v3_c, 0) := by kernel_rfl
def impl_joinWays_v3_rv : List (Nat × Option (Nat × Bool)) := [(4, none), (5, none)]
def impl_joinWays_v3_pre (fuel : Nat) (x0 : LP) (x1 : Int) (x2 : LP) (x3 : Int) : Option (((LP × (Int × Unit)) × Unit) × (Bool × Unit)) :=
 Option.bind (impl_RankJoin_fn fuel ((x0, x1, ()), (x2, x3, ()), ())) fun y_1 =>
 some ((((y_1.1.1, y_1.1.2.1, ()), ()), y_1.2.1.1, ()))
def impl_joinWays_v3_fn (fuel : Nat) (x : (((LP × (Int × Unit)) × Unit) × (((LP × (Int × Unit)) × Unit) × Unit))) : Option (((LP × (Int × Unit)) × Unit) × (Bool × Unit)) := impl_joinWays_v3_pre fuel x.1.1.1 x.1.1.2.1 x.2.1.1.1 x.2.1.1.2.1
theorem impl_joinWays_v3_run (fuel : Nat) (x : Sh.T impl_joinWays_v3_ps) : run (impl_joinWays_v3_T fuel) 0 fuel impl_joinWays_v3_c (env0 (svS impl_joinWays_v3_ps x) 0) [] (endG impl_joinWays_v3_rv impl_joinWays_v3_rs) = impl_joinWays_v3_fn fuel x := by kernel_rfl
def impl_joinWays_v3_tf (fuel : Nat) : TG := ⟨impl_joinWays_v3_ps, impl_joinWays_v3_rs, false, impl_joinWays_v3_fn fuel⟩
theorem impl_joinWays_v3_spec (fuel : Nat) : FnSpecG Tryz.prog 103 (impl_joinWays_v3_tf fuel) :=
  fn_specG (T := impl_joinWays_v3_T fuel) (c := bodyOf Tryz.f103) (fn := Tryz.f103) (TabOK.of (entCons (impl_TopJoin_ok fuel) (entCons (impl_RankJoin_ok fuel) (entCons (impl_RoughJoin_ok fuel) (entCons (impl_FewJoin_ok fuel) entNil)))) (methNil)) mixed (by kernel_rfl) (by kernel_rfl) impl_joinWays_v3_l (by kernel_rfl) (Nat.le_of_ble_eq_true (by kernel_rfl)) (rv := impl_joinWays_v3_rv) (by kernel_rfl) (fun x y h => (impl_joinWays_v3_run fuel x).trans h)
theorem impl_joinWays_v3_ok (fuel : Nat) : EntryOK Tryz.prog 103 (impl_joinWays_v3_tf fuel).te := EntryOK.tg rfl (impl_joinWays_v3_spec fuel) (isFn (fn := Tryz.f103) (by kernel_rfl) (by kernel_rfl) (by kernel_rfl))
def impl_SumJoin_T (fuel : Nat) : Tab := Tab.of [(34, (impl_SumOk_tf fuel).te), (82, (impl_Sum_ways_tf fuel).te), (103, (impl_joinWays_v0_tf fuel).te), (103, (impl_joinWays_v1_tf fuel).te), (103, (impl_joinWays_v2_tf fuel).te), (103, (impl_joinWays_v3_tf fuel).te), (104, (impl_sumFrom_tf fuel).te)] []
abbrev impl_SumJoin_ps : List Pm := [{ cs := [(Kd.list (Kd.list I6), false), (Kd.list I6, false), (Kd.list KP, false), (I6, false), (I6, false), (Kd.list KP, false), (I6, false)], ag := true }, { cs := [(Kd.list (Kd.list I6), false), (Kd.list I6, false), (Kd.list KP, false), (I6, false), (I6, false), (Kd.list KP, false), (I6, false)], ag := true }]
abbrev impl_SumJoin_rs : List Pm := [{ cs := [(Kd.list (Kd.list I6), false), (Kd.list I6, false), (Kd.list KP, false), (I6, false), (I6, false), (Kd.list KP, false), (I6, false)], ag := true }, { cs := [(Kd.bool, false)], ag := false }]
def impl_SumJoin_ann : List Norm := [{ live := [24, 6, 7, 4], fix := [] }]
noncomputable def impl_SumJoin_c : C := irOf Tryz.prog Tryz.f55 [] impl_SumJoin_ann []
theorem impl_SumJoin_l : lightC Tryz.prog [] Tryz.f55.ntmps impl_SumJoin_ann [] 0 (bodyOf Tryz.f55) = some (impl_SumJoin_c, 1) := by kernel_rfl
def impl_SumJoin_rv : List (Nat × Option (Nat × Bool)) := [(4, some (7, true)), (5, none)]
def impl_SumJoin_pre (fuel : Nat) (x0 : List (List Int)) (x1 : List Int) (x2 : LP) (x3 : Int) (x4 : Int) (x5 : LP) (x6 : Int) (x7 : List (List Int)) (x8 : List Int) (x9 : LP) (x10 : Int) (x11 : Int) (x12 : LP) (x13 : Int) : Option (SumY × ((Bool × Unit) × Unit)) :=
 Option.bind (impl_SumOk_fn fuel ((x0, x1, x2, x3, x4, x5, x6, ()), ())) fun y_1 =>
 cond (!y_1.1.1)
  (some ((([], [], [], (0 : Int), (0 : Int), [], (0 : Int), ()), (false, ()), ())))
  (Option.bind (impl_SumOk_fn fuel ((x7, x8, x9, x10, x11, x12, x13, ()), ())) fun y_3 =>
   cond (!y_3.1.1)
    (some ((([], [], [], (0 : Int), (0 : Int), [], (0 : Int), ()), (false, ()), ())))
    (Option.bind (impl_Sum_ways_fn fuel ((x0, x1, x2, x3, x4, x5, x6, ()), ())) fun y_5 =>
     Option.bind (impl_Sum_ways_fn fuel ((x7, x8, x9, x10, x11, x12, x13, ()), ())) fun y_6 =>
      Option.bind (impl_joinWays_v0_fn fuel (((y_5.1.1.1.1, ()), ()), ((y_6.1.1.1.1, ()), ()), ())) fun y_7 =>
       cond (!y_7.2.1)
        (some ((([], [], [], (0 : Int), (0 : Int), [], (0 : Int), ()), (false, ()), ())))
        (Option.bind (impl_joinWays_v1_fn fuel (((y_5.1.2.1.1.1, ()), ()), ((y_6.1.2.1.1.1, ()), ()), ())) fun y_9 =>
         cond (!y_9.2.1)
          (some ((([], [], [], (0 : Int), (0 : Int), [], (0 : Int), ()), (false, ()), ())))
          (Option.bind (impl_joinWays_v2_fn fuel (((y_5.1.2.2.1.1.1, y_5.1.2.2.1.1.2.1, y_5.1.2.2.1.1.2.2.1, ()), ()), ((y_6.1.2.2.1.1.1, y_6.1.2.2.1.1.2.1, y_6.1.2.2.1.1.2.2.1, ()), ()), ())) fun y_11 =>
           cond (!y_11.2.1)
            (some ((([], [], [], (0 : Int), (0 : Int), [], (0 : Int), ()), (false, ()), ())))
            (Option.bind (impl_joinWays_v3_fn fuel (((y_5.1.2.2.2.1.1.1, y_5.1.2.2.2.1.1.2.1, ()), ()), ((y_6.1.2.2.2.1.1.1, y_6.1.2.2.2.1.1.2.1, ()), ()), ())) fun y_13 =>
             cond (!y_13.2.1)
              (some ((([], [], [], (0 : Int), (0 : Int), [], (0 : Int), ()), (false, ()), ())))
              (Option.bind (impl_sumFrom_fn fuel ((((y_7.1.1.1, ()), ()), ((y_9.1.1.1, ()), ()), ((y_11.1.1.1, y_11.1.1.2.1, y_11.1.1.2.2.1, ()), ()), ((y_13.1.1.1, y_13.1.1.2.1, ()), ()), ()), ())) fun y_15 =>
               some (((y_15.1.1, y_15.1.2.1, y_15.1.2.2.1, y_15.1.2.2.2.1, y_15.1.2.2.2.2.1, y_15.1.2.2.2.2.2.1, y_15.1.2.2.2.2.2.2.1, ()), (true, ()), ()))))))))
def impl_SumJoin_fn (fuel : Nat) (x : (SumY × (SumY × Unit))) : Option (SumY × ((Bool × Unit) × Unit)) := impl_SumJoin_pre fuel x.1.1 x.1.2.1 x.1.2.2.1 x.1.2.2.2.1 x.1.2.2.2.2.1 x.1.2.2.2.2.2.1 x.1.2.2.2.2.2.2.1 x.2.1.1 x.2.1.2.1 x.2.1.2.2.1 x.2.1.2.2.2.1 x.2.1.2.2.2.2.1 x.2.1.2.2.2.2.2.1 x.2.1.2.2.2.2.2.2.1
theorem impl_SumJoin_run (fuel : Nat) (x : PsT impl_SumJoin_ps) : run (impl_SumJoin_T fuel) 0 (fuel + 6) impl_SumJoin_c (env0 (svPs impl_SumJoin_ps x) 0) [] (endF impl_SumJoin_rv impl_SumJoin_rs) = impl_SumJoin_fn fuel x := by kernel_rfl
def impl_SumJoin_tf (fuel : Nat) : TF := ⟨impl_SumJoin_ps, impl_SumJoin_rs, false, impl_SumJoin_fn fuel⟩
theorem impl_SumJoin_spec (fuel : Nat) : FnSpec Tryz.prog 55 (impl_SumJoin_tf fuel) :=
  fn_spec (T := impl_SumJoin_T fuel) (c := bodyOf Tryz.f55) (fn := Tryz.f55) (TabOK.of (entCons (impl_SumOk_ok fuel) (entCons (impl_Sum_ways_ok fuel) (entCons (impl_joinWays_v0_ok fuel) (entCons (impl_joinWays_v1_ok fuel) (entCons (impl_joinWays_v2_ok fuel) (entCons (impl_joinWays_v3_ok fuel) (entCons (impl_sumFrom_ok fuel) entNil))))))) (methNil)) mixed (by kernel_rfl) (by kernel_rfl) impl_SumJoin_l (by kernel_rfl) (Nat.le_of_ble_eq_true (by kernel_rfl)) (rv := impl_SumJoin_rv) (by kernel_rfl) (impl_SumJoin_run fuel)
theorem impl_SumJoin_ok (fuel : Nat) : EntryOK Tryz.prog 55 (impl_SumJoin_tf fuel).te := EntryOK.tf rfl (impl_SumJoin_spec fuel) (isFn (fn := Tryz.f55) (by kernel_rfl) (by kernel_rfl) (by kernel_rfl))
def impl_SumGet_T (fuel : Nat) : Tab := Tab.of [(34, (impl_SumOk_tf fuel).te), (40, (impl_TopGet_tf fuel).te), (44, (impl_RoughGet_tf fuel).te), (49, (impl_FewHas_tf fuel).te), (86, (impl_isThing_tf fuel).te)] []
abbrev impl_SumGet_ps : List Pm := [{ cs := [(Kd.list (Kd.list I6), false), (Kd.list I6, false), (Kd.list KP, false), (I6, false), (I6, false), (Kd.list KP, false), (I6, false)], ag := true }, { cs := [(I6, false)], ag := false }]
abbrev impl_SumGet_rs : List Pm := [{ cs := [(I6, false)], ag := false }, { cs := [(I6, false)], ag := false }]
def impl_SumGet_ann : List Norm := []
noncomputable def impl_SumGet_c : C := irOf Tryz.prog Tryz.f66 [] impl_SumGet_ann []
theorem impl_SumGet_l : lightC Tryz.prog [] Tryz.f66.ntmps impl_SumGet_ann [] 0 (bodyOf Tryz.f66) = some (impl_SumGet_c, 0) := by kernel_rfl
def impl_SumGet_rv : List (Nat × Option (Nat × Bool)) := [(4, none), (5, none)]
def impl_SumGet_pre (fuel : Nat) (x0 : List (List Int)) (x1 : List Int) (x2 : LP) (x3 : Int) (x4 : Int) (x5 : LP) (x6 : Int) (x7 : Int) : Option ((Int × Unit) × ((Int × Unit) × Unit)) :=
 Option.bind (impl_SumOk_fn fuel ((x0, x1, x2, x3, x4, x5, x6, ()), ())) fun y_1 =>
 cond (!y_1.1.1)
  (some ((((-1 : Int), ()), ((-1 : Int), ()), ())))
  (Option.bind (impl_isThing_fn fuel ((x7, ()), ())) fun y_3 =>
   cond (!y_3.1.1)
    (some ((((-1 : Int), ()), ((-1 : Int), ()), ())))
    (Option.bind (impl_FewHas_fn fuel ((x1, ()), (x7, ()), ())) fun y_5 =>
     cond (y_5.2.1.1)
      (cond (!y_5.1.1)
       (some ((((0 : Int), ()), ((0 : Int), ()), ())))
       (Option.bind (impl_TopGet_fn fuel ((x2, x3, x4, ()), (x7, ()), ())) fun y_8 =>
        cond (y_5.2.1.1)
         (cond (y_5.1.1)
          (Option.bind (impl_RoughGet_fn fuel ((x0, ()), (x7, ()), ())) fun y_11 =>
           some (((if (1 : Int) > y_8.1.1 then (1 : Int) else y_8.1.1, ()), (if y_11.1.1 < y_8.2.1.1 then y_11.1.1 else y_8.2.1.1, ()), ())))
          (Option.bind (impl_RoughGet_fn fuel ((x0, ()), (x7, ()), ())) fun y_11 =>
           some (((y_8.1.1, ()), (if y_11.1.1 < y_8.2.1.1 then y_11.1.1 else y_8.2.1.1, ()), ()))))
         (Option.bind (impl_RoughGet_fn fuel ((x0, ()), (x7, ()), ())) fun y_10 =>
          some (((y_8.1.1, ()), (if y_10.1.1 < y_8.2.1.1 then y_10.1.1 else y_8.2.1.1, ()), ())))))
      (Option.bind (impl_TopGet_fn fuel ((x2, x3, x4, ()), (x7, ()), ())) fun y_7 =>
       cond (y_5.2.1.1)
        (cond (y_5.1.1)
         (Option.bind (impl_RoughGet_fn fuel ((x0, ()), (x7, ()), ())) fun y_10 =>
          some (((if (1 : Int) > y_7.1.1 then (1 : Int) else y_7.1.1, ()), (if y_10.1.1 < y_7.2.1.1 then y_10.1.1 else y_7.2.1.1, ()), ())))
         (Option.bind (impl_RoughGet_fn fuel ((x0, ()), (x7, ()), ())) fun y_10 =>
          some (((y_7.1.1, ()), (if y_10.1.1 < y_7.2.1.1 then y_10.1.1 else y_7.2.1.1, ()), ()))))
        (Option.bind (impl_RoughGet_fn fuel ((x0, ()), (x7, ()), ())) fun y_9 =>
         some (((y_7.1.1, ()), (if y_9.1.1 < y_7.2.1.1 then y_9.1.1 else y_7.2.1.1, ()), ()))))))
def impl_SumGet_fn (fuel : Nat) (x : (SumY × ((Int × Unit) × Unit))) : Option ((Int × Unit) × ((Int × Unit) × Unit)) := impl_SumGet_pre fuel x.1.1 x.1.2.1 x.1.2.2.1 x.1.2.2.2.1 x.1.2.2.2.2.1 x.1.2.2.2.2.2.1 x.1.2.2.2.2.2.2.1 x.2.1.1
theorem impl_SumGet_run (fuel : Nat) (x : PsT impl_SumGet_ps) : run (impl_SumGet_T fuel) 0 fuel impl_SumGet_c (env0 (svPs impl_SumGet_ps x) 0) [] (endF impl_SumGet_rv impl_SumGet_rs) = impl_SumGet_fn fuel x := by kernel_rfl
def impl_SumGet_tf (fuel : Nat) : TF := ⟨impl_SumGet_ps, impl_SumGet_rs, true, impl_SumGet_fn fuel⟩
theorem impl_SumGet_spec (fuel : Nat) : FnSpec Tryz.prog 66 (impl_SumGet_tf fuel) :=
  fn_spec (T := impl_SumGet_T fuel) (c := bodyOf Tryz.f66) (fn := Tryz.f66) (TabOK.of (entCons (impl_SumOk_ok fuel) (entCons (impl_TopGet_ok fuel) (entCons (impl_RoughGet_ok fuel) (entCons (impl_FewHas_ok fuel) (entCons (impl_isThing_ok fuel) entNil))))) (methNil)) mixed (by kernel_rfl) (by kernel_rfl) impl_SumGet_l (by kernel_rfl) (Nat.le_of_ble_eq_true (by kernel_rfl)) (rv := impl_SumGet_rv) (by kernel_rfl) (impl_SumGet_run fuel)
theorem impl_SumGet_ok (fuel : Nat) : EntryOK Tryz.prog 66 (impl_SumGet_tf fuel).te := EntryOK.tf rfl (impl_SumGet_spec fuel) (isFn (fn := Tryz.f66) (by kernel_rfl) (by kernel_rfl) (by kernel_rfl))
end Go.Proofs.YtdgdoeknpakmlaaGreat.Den
namespace Go.Proofs.YtdgdoeknpakmlaaGreat.Den
open Go Go.RowKit
set_option linter.unusedVariables false
set_option linter.unusedSimpArgs false
def laws_FnSumJoinGet_T (fuel : Nat) : Tab := Tab.of [(28, (spec_DrawSumOf_tf fuel).te), (29, (spec_SumOf_tf fuel).te), (30, (impl_SumOf_tf fuel).te), (31, (laws_lkSum_tf fuel).te), (41, (laws_lkTimes_tf fuel).te), (45, (laws_lkFine_tf fuel).te), (55, (impl_SumJoin_tf fuel).te), (66, (impl_SumGet_tf fuel).te)] []
abbrev laws_FnSumJoinGet_ps : List Pm := [{ cs := [(Kd.list (Kd.int IntKind.u8), false)], ag := false }, { cs := [(Kd.list (Kd.int IntKind.u8), false)], ag := false }]
abbrev laws_FnSumJoinGet_rs : List Pm := [{ cs := [(Kd.bool, false)], ag := false }]
def laws_FnSumJoinGet_ann : List Norm := [{ live := [15, 14, 13, 5, 6], fix := [] }]
noncomputable def laws_FnSumJoinGet_c : C := irOf Tryz.prog Tryz.f23 [28, 29, 31, 32, 35, 40, 45, 54, 71, 76, 89, 94, 97] laws_FnSumJoinGet_ann []
theorem laws_FnSumJoinGet_l : lightC Tryz.prog [28, 29, 31, 32, 35, 40, 45, 54, 71, 76, 89, 94, 97] Tryz.f23.ntmps laws_FnSumJoinGet_ann [] 0 (bodyOf Tryz.f23) = some (laws_FnSumJoinGet_c, 1) := by kernel_rfl
def laws_FnSumJoinGet_rv : List (Nat × Option (Nat × Bool)) := [(4, none)]
abbrev laws_FnSumJoinGet_V0 := (Int) × (Bool) × (List Int) × (List Int) × (List (List Int)) × (List Int) × LP × (Int) × (Int) × LP × (Int)
def laws_FnSumJoinGet_enc0 (v : laws_FnSumJoinGet_V0) : Env × Heap := ([(15, SV.int .i64 v.1), (14, SV.bool v.2.1), (13, SV.ptr 0 0), (5, SV.es I6 v.2.2.1), (6, SV.es I6 v.2.2.2.1)], [Blk.cells [SV.es (Kd.list I6) v.2.2.2.2.1, SV.es I6 v.2.2.2.2.2.1, SV.es KP v.2.2.2.2.2.2.1, SV.int .i64 v.2.2.2.2.2.2.2.1, SV.int .i64 v.2.2.2.2.2.2.2.2.1, SV.es KP v.2.2.2.2.2.2.2.2.2.1, SV.int .i64 v.2.2.2.2.2.2.2.2.2.2] 0 7])
def laws_FnSumJoinGet_step0 (fuel : Nat) (g0 : laws_FnSumJoinGet_V0 → Option ((Bool × Unit) × Unit)) (v : laws_FnSumJoinGet_V0) : Option ((Bool × Unit) × Unit) :=
 cond (decide (v.1 < (64 : Int)))
 (cond (v.2.1)
  (Option.bind (impl_SumGet_fn fuel ((v.2.2.2.2.1, v.2.2.2.2.2.1, v.2.2.2.2.2.2.1, v.2.2.2.2.2.2.2.1, v.2.2.2.2.2.2.2.2.1, v.2.2.2.2.2.2.2.2.2.1, v.2.2.2.2.2.2.2.2.2.2, ()), (v.1, ()), ())) fun y_3 =>
   Option.bind (laws_lkTimes_fn fuel ((v.2.2.1, ()), (v.1, ()), ())) fun y_4 =>
    Option.bind (laws_lkTimes_fn fuel ((v.2.2.2.1, ()), (v.1, ()), ())) fun y_5 =>
     cond (decide (w64 (y_4.1.1 + y_5.1.1) < y_3.1.1))
      (some (((false, ()), ())))
      (cond (decide (w64 (y_4.1.1 + y_5.1.1) > y_3.2.1.1))
       (some (((false, ()), ())))
       (g0 (w64 (v.1 + (1 : Int)), v.2.1, v.2.2.1, v.2.2.2.1, v.2.2.2.2.1, v.2.2.2.2.2.1, v.2.2.2.2.2.2.1, v.2.2.2.2.2.2.2.1, v.2.2.2.2.2.2.2.2.1, v.2.2.2.2.2.2.2.2.2.1, v.2.2.2.2.2.2.2.2.2.2))))
  (some (((v.2.1, ()), ()))))
 (some (((v.2.1, ()), ())))
def laws_FnSumJoinGet_st0 (fuel : Nat) (g0 : laws_FnSumJoinGet_V0 → Option ((Bool × Unit) × Unit)) : laws_FnSumJoinGet_V0 → Option ((Bool × Unit) × Unit) := laws_FnSumJoinGet_step0 fuel g0
theorem laws_FnSumJoinGet_lp0 (fuel : Nat) (G) : laws_FnSumJoinGet_c.lp (laws_FnSumJoinGet_T fuel) 0 fuel G (endF laws_FnSumJoinGet_rv laws_FnSumJoinGet_rs) 0 laws_FnSumJoinGet_enc0 = iter (laws_FnSumJoinGet_st0 fuel) fuel := C.lp_iter fun g v => by kernel_rfl
def laws_FnSumJoinGet_pre (fuel : Nat) (X0 : laws_FnSumJoinGet_V0 → Option ((Bool × Unit) × Unit)) (x0 : List Int) (x1 : List Int) : Option ((Bool × Unit) × Unit) :=
 cond (decide ((zz (List.length x0)) > (1048576 : Int)))
 (some (((true, ()), ())))
 (cond (decide ((zz (List.length x1)) > (1048576 : Int)))
  (some (((true, ()), ())))
  (Option.bind (spec_DrawSumOf_fn fuel ((x0, ()), ())) fun y_3 =>
   Option.bind (laws_lkFine_fn fuel ((y_3.1.1, ()), ())) fun y_4 =>
    Option.bind (spec_DrawSumOf_fn fuel ((x1, ()), ())) fun y_5 =>
     Option.bind (laws_lkFine_fn fuel ((y_5.1.1, ()), ())) fun y_6 =>
      Option.bind (impl_SumOf_fn fuel ((y_4.1.1, ()), ())) fun y_7 =>
       Option.bind (impl_SumOf_fn fuel ((y_6.1.1, ()), ())) fun y_8 =>
        Option.bind (spec_SumOf_fn fuel ((y_4.1.1, ()), ())) fun y_9 =>
         cond (!y_7.2.1.1 == y_9.2.1.1)
          (cond (y_7.2.1.1 == y_9.2.1.1)
           (Option.bind (laws_lkSum_fn fuel ((y_7.1.1, y_7.1.2.1, y_7.1.2.2.1, y_7.1.2.2.2.1, y_7.1.2.2.2.2.1, y_7.1.2.2.2.2.2.1, y_7.1.2.2.2.2.2.2.1, ()), (y_9.1.1, y_9.1.2.1, y_9.1.2.2.1, y_9.1.2.2.2.1, y_9.1.2.2.2.2.1, y_9.1.2.2.2.2.2.1, y_9.1.2.2.2.2.2.2.1, ()), ())) fun y_12 =>
            some (((y_12.1.1, ()), ())))
           (some (((false, ()), ()))))
          (Option.bind (laws_lkSum_fn fuel ((y_7.1.1, y_7.1.2.1, y_7.1.2.2.1, y_7.1.2.2.2.1, y_7.1.2.2.2.2.1, y_7.1.2.2.2.2.2.1, y_7.1.2.2.2.2.2.2.1, ()), (y_9.1.1, y_9.1.2.1, y_9.1.2.2.1, y_9.1.2.2.2.1, y_9.1.2.2.2.2.1, y_9.1.2.2.2.2.2.1, y_9.1.2.2.2.2.2.2.1, ()), ())) fun y_11 =>
           cond (!y_11.1.1)
            (cond (y_7.2.1.1 == y_9.2.1.1)
             (Option.bind (laws_lkSum_fn fuel ((y_7.1.1, y_7.1.2.1, y_7.1.2.2.1, y_7.1.2.2.2.1, y_7.1.2.2.2.2.1, y_7.1.2.2.2.2.2.1, y_7.1.2.2.2.2.2.2.1, ()), (y_9.1.1, y_9.1.2.1, y_9.1.2.2.1, y_9.1.2.2.2.1, y_9.1.2.2.2.2.1, y_9.1.2.2.2.2.2.1, y_9.1.2.2.2.2.2.2.1, ()), ())) fun y_14 =>
              some (((y_14.1.1, ()), ())))
             (some (((false, ()), ()))))
            (cond (!y_7.2.1.1)
             (cond (y_7.2.1.1 == y_9.2.1.1)
              (Option.bind (laws_lkSum_fn fuel ((y_7.1.1, y_7.1.2.1, y_7.1.2.2.1, y_7.1.2.2.2.1, y_7.1.2.2.2.2.1, y_7.1.2.2.2.2.2.1, y_7.1.2.2.2.2.2.2.1, ()), (y_9.1.1, y_9.1.2.1, y_9.1.2.2.1, y_9.1.2.2.2.1, y_9.1.2.2.2.2.1, y_9.1.2.2.2.2.2.1, y_9.1.2.2.2.2.2.2.1, ()), ())) fun y_15 =>
               some (((y_15.1.1, ()), ())))
              (some (((false, ()), ()))))
             (cond (!y_8.2.1.1)
              (cond (y_7.2.1.1 == y_9.2.1.1)
               (Option.bind (laws_lkSum_fn fuel ((y_7.1.1, y_7.1.2.1, y_7.1.2.2.1, y_7.1.2.2.2.1, y_7.1.2.2.2.2.1, y_7.1.2.2.2.2.2.1, y_7.1.2.2.2.2.2.2.1, ()), (y_9.1.1, y_9.1.2.1, y_9.1.2.2.1, y_9.1.2.2.2.1, y_9.1.2.2.2.2.1, y_9.1.2.2.2.2.2.1, y_9.1.2.2.2.2.2.2.1, ()), ())) fun y_16 =>
                some (((y_16.1.1, ()), ())))
               (some (((false, ()), ()))))
              (Option.bind (impl_SumJoin_fn fuel ((y_7.1.1, y_7.1.2.1, y_7.1.2.2.1, y_7.1.2.2.2.1, y_7.1.2.2.2.2.1, y_7.1.2.2.2.2.2.1, y_7.1.2.2.2.2.2.2.1, ()), (y_8.1.1, y_8.1.2.1, y_8.1.2.2.1, y_8.1.2.2.2.1, y_8.1.2.2.2.2.1, y_8.1.2.2.2.2.2.1, y_8.1.2.2.2.2.2.2.1, ()), ())) fun y_15 =>
               X0 ((0 : Int), y_15.2.1.1, y_4.1.1, y_6.1.1, y_15.1.1, y_15.1.2.1, y_15.1.2.2.1, y_15.1.2.2.2.1, y_15.1.2.2.2.2.1, y_15.1.2.2.2.2.2.1, y_15.1.2.2.2.2.2.2.1)))))))
def laws_FnSumJoinGet_fn (fuel : Nat) (x : (((List Int) × Unit) × (((List Int) × Unit) × Unit))) : Option ((Bool × Unit) × Unit) := laws_FnSumJoinGet_pre fuel (iter (laws_FnSumJoinGet_st0 fuel) fuel) x.1.1 x.2.1.1
theorem laws_FnSumJoinGet_run (fuel : Nat) (x : PsT laws_FnSumJoinGet_ps) : run (laws_FnSumJoinGet_T fuel) 0 fuel laws_FnSumJoinGet_c (env0 (svPs laws_FnSumJoinGet_ps x) 0) [] (endF laws_FnSumJoinGet_rv laws_FnSumJoinGet_rs) = laws_FnSumJoinGet_fn fuel x :=
  (show run (laws_FnSumJoinGet_T fuel) 0 fuel laws_FnSumJoinGet_c (env0 (svPs laws_FnSumJoinGet_ps x) 0) [] (endF laws_FnSumJoinGet_rv laws_FnSumJoinGet_rs) = laws_FnSumJoinGet_pre fuel (laws_FnSumJoinGet_c.lp (laws_FnSumJoinGet_T fuel) 0 fuel (fun _ _ _ => none) (endF laws_FnSumJoinGet_rv laws_FnSumJoinGet_rs) 0 laws_FnSumJoinGet_enc0) x.1.1 x.2.1.1 by kernel_rfl).trans (by rw [laws_FnSumJoinGet_lp0]; rfl)
def laws_FnSumJoinGet_tf (fuel : Nat) : TF := ⟨laws_FnSumJoinGet_ps, laws_FnSumJoinGet_rs, true, laws_FnSumJoinGet_fn fuel⟩
theorem laws_FnSumJoinGet_spec (fuel : Nat) : FnSpec Tryz.prog 23 (laws_FnSumJoinGet_tf fuel) :=
  fn_spec (T := laws_FnSumJoinGet_T fuel) (c := bodyOf Tryz.f23) (fn := Tryz.f23) (TabOK.of (entCons (spec_DrawSumOf_ok fuel) (entCons (spec_SumOf_ok fuel) (entCons (impl_SumOf_ok fuel) (entCons (laws_lkSum_ok fuel) (entCons (laws_lkTimes_ok fuel) (entCons (laws_lkFine_ok fuel) (entCons (impl_SumJoin_ok fuel) (entCons (impl_SumGet_ok fuel) entNil)))))))) (methNil)) mixed (by kernel_rfl) (by kernel_rfl) laws_FnSumJoinGet_l (by kernel_rfl) (Nat.le_of_ble_eq_true (by kernel_rfl)) (rv := laws_FnSumJoinGet_rv) (by kernel_rfl) (laws_FnSumJoinGet_run fuel)
end Go.Proofs.YtdgdoeknpakmlaaGreat.Den


namespace Go.Proofs.YtdgdoeknpakmlaaGreat.Den
open Go
set_option linter.unusedVariables false
set_option linter.unusedSimpArgs false
abbrev Knot := Int × Int × Unit
theorem in_eq (f : Nat) (n lo hi : Int) : spec_l6In_fn f ((n, ()), (lo, ()), (hi, ()), ()) = some ((decide (lo ≤ n ∧ n ≤ hi), ()), ()) := by
  unfold spec_l6In_fn spec_l6In_pre
  by_cases h : lo ≤ n
  · simp [h]
  · simp [h]
theorem isThing_eq (f : Nat) (n : Int) : impl_isThing_fn f ((n, ()), ()) = some ((decide (0 ≤ n ∧ n ≤ 63), ()), ()) := by
  unfold impl_isThing_fn impl_isThing_pre
  by_cases h : 0 ≤ n
  · have e : (n < 64) ↔ (n ≤ 63) := by omega
    simp [h, e]
  · simp [h]
def okGo (all : Int) : List Knot → Int → Int → Bool
  | [], _, sum => sum == all
  | k :: r, before, sum => if k.1 ≤ before ∨ 128 ≤ k.1 ∨ k.2.1 < 1 ∨ 2000 < k.2.1 ∨ (k.1 < 64 ∧ w64 (all.tdiv 8) < k.2.1) then false else okGo all r k.1 (w64 (sum + k.2.1))
def okB (ks : List Knot) (all : Int) : Bool := if all < 0 ∨ 2000 < all then false else okGo all ks 0 0
theorem drop_cons {α : Type} {ks : List α} {i : Nat} (d : α) (h : i < ks.length) : ks.drop i = ks.getD i d :: ks.drop (i + 1) := by
  rw [List.drop_eq_getElem_cons h, List.getD_eq_getElem?_getD, List.getElem?_eq_getElem h]; rfl
theorem impl_ok_loop (f : Nat) (ks : List Knot) (all : Int) (hl : ks.length < 4294967296) : ∀ (d i : Nat) (before sum : Int) (fuel : Nat), i + d = ks.length → d < fuel →
    iter (impl_RankOk_st0 f) fuel ((i : Int), (ks.length : Int), ks, before, sum, ks, all) = some ((okGo all (ks.drop i) before sum, ()), ())
  | 0, i, before, sum, fuel + 1, hi, hf => by
    rw [iter]
    show impl_RankOk_step0 f _ _ = _
    unfold impl_RankOk_step0
    have h1 : ¬ ((i : Int) < (ks.length : Int)) := by omega
    have h2 : ks.drop i = [] := List.drop_eq_nil_of_le (by omega)
    simp [h1, h2, okGo]
  | d + 1, i, before, sum, fuel + 1, hi, hf => by
    rw [iter]
    show impl_RankOk_step0 f _ _ = _
    unfold impl_RankOk_step0
    have h1 : (i : Int) < (ks.length : Int) := by omega
    have h2 : (0 : Int) ≤ (i : Int) := by omega
    have h3 : w64 ((i : Int) + 1) = (i : Int) + 1 := by rw [w64_id] <;> omega
    have ih : ∀ before sum, iter (impl_RankOk_st0 f) fuel ((i : Int) + 1, (ks.length : Int), ks, before, sum, ks, all) = some ((okGo all (ks.drop (i + 1)) before sum, ()), ()) := fun b s => by
      exact_mod_cast impl_ok_loop f ks all hl d (i + 1) b s fuel (by omega) (by omega)
    rw [drop_cons (0, 0, ()) (show i < ks.length by omega)]
    simp only [h1, h2, h3, zz_eq, Int.toNat_natCast, decide_true, cond_true]
    obtain ⟨k, hk⟩ : ∃ k : Knot, ks.getD i (0, 0, ()) = k := ⟨_, rfl⟩
    simp only [hk]
    unfold okGo
    by_cases c1 : k.1 ≤ before
    · simp [c1]
    by_cases c2 : 128 ≤ k.1
    · simp [c1, c2]
    by_cases c3 : k.2.1 < 1
    · simp [c1, c2, c3]
    by_cases c4 : 2000 < k.2.1
    · simp [c1, c2, c3, c4]
    by_cases c5 : k.1 < 64
    · by_cases c6 : w64 (all.tdiv 8) < k.2.1
      · simp [c1, c2, c3, c4, c5, c6]
      · simp [c1, c2, c3, c4, c5, c6, ih]
    · simp [c1, c2, c3, c4, c5, ih]
theorem implOk_eq (f : Nat) (ks : List Knot) (all : Int) (hl : ks.length < 4294967296) (hf : ks.length < f) : impl_RankOk_fn f ((ks, all, ()), ()) = some ((okB ks all, ()), ()) := by
  unfold impl_RankOk_fn impl_RankOk_pre okB
  by_cases c1 : all < 0
  · simp [c1]
  by_cases c2 : 2000 < all
  · simp [c1, c2]
  have := impl_ok_loop f ks all hl ks.length 0 0 0 f (by omega) hf
  simp [c1, c2, zz_eq]
  simpa using this
theorem spec_ok_loop (f : Nat) (ks : List Knot) (all : Int) (hl : ks.length < 4294967296) : ∀ (d i : Nat) (before sum : Int) (fuel : Nat), i + d = ks.length → (i = 0 → before = 0) → (0 < i → before = (ks.getD (i - 1) (0, 0, ())).1 ∧ 1 ≤ before) → d < fuel →
    iter (spec_RankOk_st0 f) fuel ((i : Int), sum, ks, all) = some ((okGo all (ks.drop i) before sum, ()), ())
  | 0, i, before, sum, fuel + 1, hi, hb0, hb1, hf => by
    rw [iter]
    show spec_RankOk_step0 f _ _ = _
    unfold spec_RankOk_step0
    have h1 : ¬ ((i : Int) < (ks.length : Int)) := by omega
    have h2 : ks.drop i = [] := List.drop_eq_nil_of_le (by omega)
    simp [h1, h2, okGo, zz_eq]
  | d + 1, i, before, sum, fuel + 1, hi, hb0, hb1, hf => by
    rw [iter]
    show spec_RankOk_step0 f _ _ = _
    unfold spec_RankOk_step0
    have h1 : (i : Int) < (ks.length : Int) := by omega
    have h2 : (0 : Int) ≤ (i : Int) := by omega
    have h3 : w64 ((i : Int) + 1) = (i : Int) + 1 := by rw [w64_id] <;> omega
    have ih : ∀ sum, 1 ≤ (ks.getD i (0, 0, ())).1 → iter (spec_RankOk_st0 f) fuel ((i : Int) + 1, sum, ks, all) = some ((okGo all (ks.drop (i + 1)) (ks.getD i (0, 0, ())).1 sum, ()), ()) := fun sum h => by
      exact_mod_cast spec_ok_loop f ks all hl d (i + 1) _ sum fuel (by omega) (by omega) (fun _ => ⟨rfl, h⟩) (by omega)
    rw [drop_cons (0, 0, ()) (show i < ks.length by omega)]
    simp only [h1, h2, h3, zz_eq, Int.toNat_natCast, decide_true, cond_true, in_eq, Option.bind_some]
    have hpos : (decide ((i : Int) > 0) = true → 0 < i ∧ (0 : Int) ≤ w64 ((i : Int) - 1) ∧ w64 ((i : Int) - 1) < (ks.length : Int) ∧ (w64 ((i : Int) - 1)).toNat = i - 1) := by
      intro h
      have h0 : 0 < i := by simpa using h
      have e : w64 ((i : Int) - 1) = ((i - 1 : Nat) : Int) := by rw [w64_id] <;> omega
      rw [e]; omega
    obtain ⟨k, hk⟩ : ∃ k : Knot, ks.getD i (0, 0, ()) = k := ⟨_, rfl⟩
    simp only [hk] at ih ⊢
    unfold okGo
    by_cases c1 : 1 ≤ k.1 ∧ k.1 ≤ 127
    · by_cases c2 : 1 ≤ k.2.1 ∧ k.2.1 ≤ 2000
      · have d2 : ¬ 128 ≤ k.1 := by omega
        have d3 : ¬ k.2.1 < 1 := by omega
        have d4 : ¬ 2000 < k.2.1 := by omega
        have ih' := fun s => ih s c1.1
        simp only [c1, c2, and_self, decide_true, Bool.not_true, cond_false, d2, d3, d4, false_or]
        cases hz : decide ((i : Int) > 0) with
        | true =>
          obtain ⟨g0, g1, g2, g3⟩ := hpos hz
          obtain ⟨g4, g5⟩ := hb1 g0
          simp only [cond_true, g1, g2, g3, decide_true, ← g4]
          by_cases c3 : k.1 ≤ before
          · simp [c3]
          · by_cases c5 : k.1 < 64
            · by_cases c6 : w64 (all.tdiv 8) < k.2.1
              · simp [c3, c5, c6]
              · simp [c3, c5, c6, ih']
            · simp [c3, c5, ih']
        | false =>
          have g0 : i = 0 := by have : ¬ (i : Int) > 0 := of_decide_eq_false hz; omega
          have g1 := hb0 g0
          have c3 : ¬ k.1 ≤ before := by omega
          by_cases c5 : k.1 < 64
          · by_cases c6 : w64 (all.tdiv 8) < k.2.1
            · simp [c3, c5, c6]
            · simp [c3, c5, c6, ih']
          · simp [c3, c5, ih']
      · have : k.1 ≤ before ∨ 128 ≤ k.1 ∨ k.2.1 < 1 ∨ 2000 < k.2.1 ∨ (k.1 < 64 ∧ w64 (all.tdiv 8) < k.2.1) := by omega
        simp [c1, c2, this]
    · have hbp : 0 ≤ before := by
        rcases Nat.eq_zero_or_pos i with h | h
        · rw [hb0 h]; omega
        · have := (hb1 h).2; omega
      have : k.1 ≤ before ∨ 128 ≤ k.1 ∨ k.2.1 < 1 ∨ 2000 < k.2.1 ∨ (k.1 < 64 ∧ w64 (all.tdiv 8) < k.2.1) := by omega
      simp [c1, this]
theorem specOk_eq (f : Nat) (ks : List Knot) (all : Int) (hl : ks.length < 4294967296) (hf : ks.length < f) : spec_RankOk_fn f ((ks, all, ()), ()) = some ((okB ks all, ()), ()) := by
  unfold spec_RankOk_fn spec_RankOk_pre okB
  simp only [in_eq, Option.bind_some]
  by_cases c : 0 ≤ all ∧ all ≤ 2000
  · have c1 : ¬ (all < 0 ∨ 2000 < all) := by omega
    have := spec_ok_loop f ks all hl ks.length 0 0 0 f (by omega) (fun _ => rfl) (by omega) hf
    simp only [c, c1, and_self, decide_true, Bool.not_true, cond_false, if_false]
    simpa using this
  · have c1 : all < 0 ∨ 2000 < all := by omega
    simp [c, c1]
end Go.Proofs.YtdgdoeknpakmlaaGreat.Den
