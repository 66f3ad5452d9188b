/- Part 11 of the texts behind the row. -/
import Derived.Test.YtdgdoeknpakmlaaGreatB52dcb6017a
set_option linter.unusedVariables false
set_option linter.unusedSimpArgs false
namespace Go.Proofs.YtdgdoeknpakmlaaGreat.Den
open Go Go.RowKit
set_option linter.unusedVariables false
set_option linter.unusedSimpArgs false
def spec_l6In_T (fuel : Nat) : Tab := Tab.of [] []
abbrev spec_l6In_ps : List Pm := [{ cs := [(I6, false)], ag := false }, { cs := [(I6, false)], ag := false }, { cs := [(I6, false)], ag := false }]
abbrev spec_l6In_rs : List Pm := [{ cs := [(Kd.bool, false)], ag := false }]
def spec_l6In_ann : List Norm := []
noncomputable def spec_l6In_c : C := irOf Tryz.prog Tryz.f107 [] spec_l6In_ann []
theorem spec_l6In_l : lightC Tryz.prog [] Tryz.f107.ntmps spec_l6In_ann [] 0 (bodyOf Tryz.f107) = some (spec_l6In_c, 0) := by kernel_rfl
def spec_l6In_rv : List (Nat × Option (Nat × Bool)) := [(6, none)]
def spec_l6In_pre (fuel : Nat) (x0 : Int) (x1 : Int) (x2 : Int) : Option ((Bool × Unit) × Unit) :=
 cond (decide (x0 ≥ x1))
 (some (((decide (x0 ≤ x2), ()), ())))
 (some (((false, ()), ())))
def spec_l6In_fn (fuel : Nat) (x : ((Int × Unit) × ((Int × Unit) × ((Int × Unit) × Unit)))) : Option ((Bool × Unit) × Unit) := spec_l6In_pre fuel x.1.1 x.2.1.1 x.2.2.1.1
theorem spec_l6In_run (fuel : Nat) (x : PsT spec_l6In_ps) : run (spec_l6In_T fuel) 0 fuel spec_l6In_c (env0 (svPs spec_l6In_ps x) 0) [] (endF spec_l6In_rv spec_l6In_rs) = spec_l6In_fn fuel x := by kernel_rfl
def spec_l6In_tf (fuel : Nat) : TF := ⟨spec_l6In_ps, spec_l6In_rs, true, spec_l6In_fn fuel⟩
theorem spec_l6In_spec (fuel : Nat) : FnSpec Tryz.prog 107 (spec_l6In_tf fuel) :=
  fn_spec (T := spec_l6In_T fuel) (c := bodyOf Tryz.f107) (fn := Tryz.f107) (TabOK.of (entNil) (methNil)) mixed (by kernel_rfl) (by kernel_rfl) spec_l6In_l (by kernel_rfl) (Nat.le_of_ble_eq_true (by kernel_rfl)) (rv := spec_l6In_rv) (by kernel_rfl) (spec_l6In_run fuel)
theorem spec_l6In_ok (fuel : Nat) : EntryOK Tryz.prog 107 (spec_l6In_tf fuel).te := EntryOK.tf rfl (spec_l6In_spec fuel) (isFn (fn := Tryz.f107) (by kernel_rfl) (by kernel_rfl) (by kernel_rfl))
def spec_RankOk_T (fuel : Nat) : Tab := Tab.of [(107, (spec_l6In_tf fuel).te)] []
abbrev spec_RankOk_ps : List Pm := [{ cs := [(Kd.list KP, false), (I6, false)], ag := true }]
abbrev spec_RankOk_rs : List Pm := [{ cs := [(Kd.bool, false)], ag := false }]
def spec_RankOk_ann : List Norm := [{ live := [4, 1, 3], fix := [] }]
noncomputable def spec_RankOk_c : C := irOf Tryz.prog Tryz.f144 [] spec_RankOk_ann []
theorem spec_RankOk_l : lightC Tryz.prog [] Tryz.f144.ntmps spec_RankOk_ann [] 0 (bodyOf Tryz.f144) = some (spec_RankOk_c, 1) := by kernel_rfl
def spec_RankOk_rv : List (Nat × Option (Nat × Bool)) := [(2, none)]
abbrev spec_RankOk_V0 := (Int) × (Int) × LP × (Int)
def spec_RankOk_enc0 (v : spec_RankOk_V0) : Env × Heap := ([(4, SV.int .i64 v.1), (1, SV.ptr 0 0), (3, SV.int .i64 v.2.1)], [Blk.cells [SV.es KP v.2.2.1, SV.int .i64 v.2.2.2] 0 2])
def spec_RankOk_step0 (fuel : Nat) (g0 : spec_RankOk_V0 → Option ((Bool × Unit) × Unit)) (v : spec_RankOk_V0) : Option ((Bool × Unit) × Unit) :=
 cond (decide (v.1 < (zz (List.length v.2.2.1))))
 (tst (decide (0 ≤ v.1)) <|
  tst (decide (v.1 < (zz (List.length v.2.2.1)))) <|
  Option.bind (spec_l6In_fn fuel (((List.getD v.2.2.1 (Int.toNat v.1) (0, (0, ()))).1, ()), ((1 : Int), ()), ((127 : Int), ()), ())) fun y_2 =>
  cond (!y_2.1.1)
   (some (((false, ()), ())))
   (Option.bind (spec_l6In_fn fuel (((List.getD v.2.2.1 (Int.toNat v.1) (0, (0, ()))).2.1, ()), ((1 : Int), ()), ((2000 : Int), ()), ())) fun y_4 =>
    cond (!y_4.1.1)
     (some (((false, ()), ())))
     (cond (decide (v.1 > (0 : Int)))
      (tst (decide (0 ≤ w64 (v.1 - (1 : Int)))) <|
       tst (decide (w64 (v.1 - (1 : Int)) < (zz (List.length v.2.2.1)))) <|
       cond (decide ((List.getD v.2.2.1 (Int.toNat (w64 (v.1 - (1 : Int)))) (0, (0, ()))).1 ≥ (List.getD v.2.2.1 (Int.toNat v.1) (0, (0, ()))).1))
       (some (((false, ()), ())))
       (cond (decide ((List.getD v.2.2.1 (Int.toNat v.1) (0, (0, ()))).1 < (64 : Int)))
        (cond (decide ((List.getD v.2.2.1 (Int.toNat v.1) (0, (0, ()))).2.1 > w64 (Int.tdiv v.2.2.2 (8 : Int))))
         (some (((false, ()), ())))
         (g0 (w64 (v.1 + (1 : Int)), w64 (v.2.1 + (List.getD v.2.2.1 (Int.toNat v.1) (0, (0, ()))).2.1), v.2.2.1, v.2.2.2)))
        (g0 (w64 (v.1 + (1 : Int)), w64 (v.2.1 + (List.getD v.2.2.1 (Int.toNat v.1) (0, (0, ()))).2.1), v.2.2.1, v.2.2.2))))
      (cond (decide ((List.getD v.2.2.1 (Int.toNat v.1) (0, (0, ()))).1 < (64 : Int)))
       (cond (decide ((List.getD v.2.2.1 (Int.toNat v.1) (0, (0, ()))).2.1 > w64 (Int.tdiv v.2.2.2 (8 : Int))))
        (some (((false, ()), ())))
        (g0 (w64 (v.1 + (1 : Int)), w64 (v.2.1 + (List.getD v.2.2.1 (Int.toNat v.1) (0, (0, ()))).2.1), v.2.2.1, v.2.2.2)))
       (g0 (w64 (v.1 + (1 : Int)), w64 (v.2.1 + (List.getD v.2.2.1 (Int.toNat v.1) (0, (0, ()))).2.1), v.2.2.1, v.2.2.2))))))
 (some (((v.2.1 == v.2.2.2, ()), ())))
def spec_RankOk_st0 (fuel : Nat) (g0 : spec_RankOk_V0 → Option ((Bool × Unit) × Unit)) : spec_RankOk_V0 → Option ((Bool × Unit) × Unit) := spec_RankOk_step0 fuel g0
theorem spec_RankOk_lp0 (fuel : Nat) (G) : spec_RankOk_c.lp (spec_RankOk_T fuel) 0 fuel G (endF spec_RankOk_rv spec_RankOk_rs) 0 spec_RankOk_enc0 = iter (spec_RankOk_st0 fuel) fuel := C.lp_iter fun g v => by kernel_rfl
def spec_RankOk_pre (fuel : Nat) (X0 : spec_RankOk_V0 → Option ((Bool × Unit) × Unit)) (x0 : LP) (x1 : Int) : Option ((Bool × Unit) × Unit) :=
 Option.bind (spec_l6In_fn fuel ((x1, ()), ((0 : Int), ()), ((2000 : Int), ()), ())) fun y_1 =>
 cond (!y_1.1.1)
  (some (((false, ()), ())))
  (X0 ((0 : Int), (0 : Int), x0, x1))
def spec_RankOk_fn (fuel : Nat) (x : ((LP × (Int × Unit)) × Unit)) : Option ((Bool × Unit) × Unit) := spec_RankOk_pre fuel (iter (spec_RankOk_st0 fuel) fuel) x.1.1 x.1.2.1
theorem spec_RankOk_run (fuel : Nat) (x : PsT spec_RankOk_ps) : run (spec_RankOk_T fuel) 0 fuel spec_RankOk_c (env0 (svPs spec_RankOk_ps x) 0) [] (endF spec_RankOk_rv spec_RankOk_rs) = spec_RankOk_fn fuel x :=
  (show run (spec_RankOk_T fuel) 0 fuel spec_RankOk_c (env0 (svPs spec_RankOk_ps x) 0) [] (endF spec_RankOk_rv spec_RankOk_rs) = spec_RankOk_pre fuel (spec_RankOk_c.lp (spec_RankOk_T fuel) 0 fuel (fun _ _ _ => none) (endF spec_RankOk_rv spec_RankOk_rs) 0 spec_RankOk_enc0) x.1.1 x.1.2.1 by kernel_rfl).trans (by rw [spec_RankOk_lp0]; rfl)
def spec_RankOk_tf (fuel : Nat) : TF := ⟨spec_RankOk_ps, spec_RankOk_rs, true, spec_RankOk_fn fuel⟩
theorem spec_RankOk_spec (fuel : Nat) : FnSpec Tryz.prog 144 (spec_RankOk_tf fuel) :=
  fn_spec (T := spec_RankOk_T fuel) (c := bodyOf Tryz.f144) (fn := Tryz.f144) (TabOK.of (entCons (spec_l6In_ok fuel) entNil) (methNil)) mixed (by kernel_rfl) (by kernel_rfl) spec_RankOk_l (by kernel_rfl) (Nat.le_of_ble_eq_true (by kernel_rfl)) (rv := spec_RankOk_rv) (by kernel_rfl) (spec_RankOk_run fuel)
theorem spec_RankOk_ok (fuel : Nat) : EntryOK Tryz.prog 144 (spec_RankOk_tf fuel).te := EntryOK.tf rfl (spec_RankOk_spec fuel) (isFn (fn := Tryz.f144) (by kernel_rfl) (by kernel_rfl) (by kernel_rfl))
def impl_RankOk_T (fuel : Nat) : Tab := Tab.of [] []
abbrev impl_RankOk_ps : List Pm := [{ cs := [(Kd.list KP, false), (I6, false)], ag := true }]
abbrev impl_RankOk_rs : List Pm := [{ cs := [(Kd.bool, false)], ag := false }]
def impl_RankOk_ann : List Norm := [{ live := [18, 17, 16, 3, 1, 4], fix := [] }]
noncomputable def impl_RankOk_c : C := irOf Tryz.prog Tryz.f94 [] impl_RankOk_ann []
theorem impl_RankOk_l : lightC Tryz.prog [] Tryz.f94.ntmps impl_RankOk_ann [] 0 (bodyOf Tryz.f94) = some (impl_RankOk_c, 1) := by kernel_rfl
def impl_RankOk_rv : List (Nat × Option (Nat × Bool)) := [(2, none)]
abbrev impl_RankOk_V0 := (Int) × (Int) × LP × (Int) × (Int) × LP × (Int)
def impl_RankOk_enc0 (v : impl_RankOk_V0) : Env × Heap := ([(18, SV.int .i64 v.1), (17, SV.int .i64 v.2.1), (16, SV.es KP v.2.2.1), (3, SV.int .i64 v.2.2.2.1), (1, SV.ptr 0 0), (4, SV.int .i64 v.2.2.2.2.1)], [Blk.cells [SV.es KP v.2.2.2.2.2.1, SV.int .i64 v.2.2.2.2.2.2] 0 2])
def impl_RankOk_step0 (fuel : Nat) (g0 : impl_RankOk_V0 → Option ((Bool × Unit) × Unit)) (v : impl_RankOk_V0) : Option ((Bool × Unit) × Unit) :=
 cond (decide (v.1 < v.2.1))
 (tst (decide (0 ≤ v.1)) <|
  tst (decide (v.1 < (zz (List.length v.2.2.1)))) <|
  cond (decide ((List.getD v.2.2.1 (Int.toNat v.1) (0, (0, ()))).1 ≤ v.2.2.2.1))
  (some (((false, ()), ())))
  (cond (decide ((List.getD v.2.2.1 (Int.toNat v.1) (0, (0, ()))).1 ≥ (128 : Int)))
   (some (((false, ()), ())))
   (cond (decide ((List.getD v.2.2.1 (Int.toNat v.1) (0, (0, ()))).2.1 < (1 : Int)))
    (some (((false, ()), ())))
    (cond (decide ((List.getD v.2.2.1 (Int.toNat v.1) (0, (0, ()))).2.1 > (2000 : Int)))
     (some (((false, ()), ())))
     (cond (decide ((List.getD v.2.2.1 (Int.toNat v.1) (0, (0, ()))).1 < (64 : Int)))
      (cond (decide ((List.getD v.2.2.1 (Int.toNat v.1) (0, (0, ()))).2.1 > w64 (Int.tdiv v.2.2.2.2.2.2 (8 : Int))))
       (some (((false, ()), ())))
       (g0 (w64 (v.1 + (1 : Int)), v.2.1, v.2.2.1, (List.getD v.2.2.1 (Int.toNat v.1) (0, (0, ()))).1, w64 (v.2.2.2.2.1 + (List.getD v.2.2.1 (Int.toNat v.1) (0, (0, ()))).2.1), v.2.2.2.2.2.1, v.2.2.2.2.2.2)))
      (g0 (w64 (v.1 + (1 : Int)), v.2.1, v.2.2.1, (List.getD v.2.2.1 (Int.toNat v.1) (0, (0, ()))).1, w64 (v.2.2.2.2.1 + (List.getD v.2.2.1 (Int.toNat v.1) (0, (0, ()))).2.1), v.2.2.2.2.2.1, v.2.2.2.2.2.2)))))))
 (some (((v.2.2.2.2.1 == v.2.2.2.2.2.2, ()), ())))
def impl_RankOk_st0 (fuel : Nat) (g0 : impl_RankOk_V0 → Option ((Bool × Unit) × Unit)) : impl_RankOk_V0 → Option ((Bool × Unit) × Unit) := impl_RankOk_step0 fuel g0
theorem impl_RankOk_lp0 (fuel : Nat) (G) : impl_RankOk_c.lp (impl_RankOk_T fuel) 0 fuel G (endF impl_RankOk_rv impl_RankOk_rs) 0 impl_RankOk_enc0 = iter (impl_RankOk_st0 fuel) fuel := C.lp_iter fun g v => by kernel_rfl
def impl_RankOk_pre (fuel : Nat) (X0 : impl_RankOk_V0 → Option ((Bool × Unit) × Unit)) (x0 : LP) (x1 : Int) : Option ((Bool × Unit) × Unit) :=
 cond (decide (x1 < (0 : Int)))
 (some (((false, ()), ())))
 (cond (decide (x1 > (2000 : Int)))
  (some (((false, ()), ())))
  (X0 ((0 : Int), (zz (List.length x0)), x0, (0 : Int), (0 : Int), x0, x1)))
def impl_RankOk_fn (fuel : Nat) (x : ((LP × (Int × Unit)) × Unit)) : Option ((Bool × Unit) × Unit) := impl_RankOk_pre fuel (iter (impl_RankOk_st0 fuel) fuel) x.1.1 x.1.2.1
theorem impl_RankOk_run (fuel : Nat) (x : PsT impl_RankOk_ps) : run (impl_RankOk_T fuel) 0 fuel impl_RankOk_c (env0 (svPs impl_RankOk_ps x) 0) [] (endF impl_RankOk_rv impl_RankOk_rs) = impl_RankOk_fn fuel x :=
  (show run (impl_RankOk_T fuel) 0 fuel impl_RankOk_c (env0 (svPs impl_RankOk_ps x) 0) [] (endF impl_RankOk_rv impl_RankOk_rs) = impl_RankOk_pre fuel (impl_RankOk_c.lp (impl_RankOk_T fuel) 0 fuel (fun _ _ _ => none) (endF impl_RankOk_rv impl_RankOk_rs) 0 impl_RankOk_enc0) x.1.1 x.1.2.1 by kernel_rfl).trans (by rw [impl_RankOk_lp0]; rfl)
def impl_RankOk_tf (fuel : Nat) : TF := ⟨impl_RankOk_ps, impl_RankOk_rs, true, impl_RankOk_fn fuel⟩
theorem impl_RankOk_spec (fuel : Nat) : FnSpec Tryz.prog 94 (impl_RankOk_tf fuel) :=
  fn_spec (T := impl_RankOk_T fuel) (c := bodyOf Tryz.f94) (fn := Tryz.f94) (TabOK.of (entNil) (methNil)) mixed (by kernel_rfl) (by kernel_rfl) impl_RankOk_l (by kernel_rfl) (Nat.le_of_ble_eq_true (by kernel_rfl)) (rv := impl_RankOk_rv) (by kernel_rfl) (impl_RankOk_run fuel)
theorem impl_RankOk_ok (fuel : Nat) : EntryOK Tryz.prog 94 (impl_RankOk_tf fuel).te := EntryOK.tf rfl (impl_RankOk_spec fuel) (isFn (fn := Tryz.f94) (by kernel_rfl) (by kernel_rfl) (by kernel_rfl))
def impl_isThing_T (fuel : Nat) : Tab := Tab.of [] []
abbrev impl_isThing_ps : List Pm := [{ cs := [(I6, false)], ag := false }]
abbrev impl_isThing_rs : List Pm := [{ cs := [(Kd.bool, false)], ag := false }]
def impl_isThing_ann : List Norm := []
noncomputable def impl_isThing_c : C := irOf Tryz.prog Tryz.f86 [] impl_isThing_ann []
theorem impl_isThing_l : lightC Tryz.prog [] Tryz.f86.ntmps impl_isThing_ann [] 0 (bodyOf Tryz.f86) = some (impl_isThing_c, 0) := by kernel_rfl
def impl_isThing_rv : List (Nat × Option (Nat × Bool)) := [(2, none)]
def impl_isThing_pre (fuel : Nat) (x0 : Int) : Option ((Bool × Unit) × Unit) :=
 cond (decide (x0 ≥ (0 : Int)))
 (some (((decide (x0 < (64 : Int)), ()), ())))
 (some (((false, ()), ())))
def impl_isThing_fn (fuel : Nat) (x : ((Int × Unit) × Unit)) : Option ((Bool × Unit) × Unit) := impl_isThing_pre fuel x.1.1
theorem impl_isThing_run (fuel : Nat) (x : PsT impl_isThing_ps) : run (impl_isThing_T fuel) 0 fuel impl_isThing_c (env0 (svPs impl_isThing_ps x) 0) [] (endF impl_isThing_rv impl_isThing_rs) = impl_isThing_fn fuel x := by kernel_rfl
def impl_isThing_tf (fuel : Nat) : TF := ⟨impl_isThing_ps, impl_isThing_rs, true, impl_isThing_fn fuel⟩
theorem impl_isThing_spec (fuel : Nat) : FnSpec Tryz.prog 86 (impl_isThing_tf fuel) :=
  fn_spec (T := impl_isThing_T fuel) (c := bodyOf Tryz.f86) (fn := Tryz.f86) (TabOK.of (entNil) (methNil)) mixed (by kernel_rfl) (by kernel_rfl) impl_isThing_l (by kernel_rfl) (Nat.le_of_ble_eq_true (by kernel_rfl)) (rv := impl_isThing_rv) (by kernel_rfl) (impl_isThing_run fuel)
theorem impl_isThing_ok (fuel : Nat) : EntryOK Tryz.prog 86 (impl_isThing_tf fuel).te := EntryOK.tf rfl (impl_isThing_spec fuel) (isFn (fn := Tryz.f86) (by kernel_rfl) (by kernel_rfl) (by kernel_rfl))
def spec_l1Sum_T (fuel : Nat) : Tab := Tab.of [] []
abbrev spec_l1Sum_ps : List Pm := [{ cs := [(Kd.list I6, false)], ag := false }]
abbrev spec_l1Sum_rs : List Pm := [{ cs := [(I6, false)], ag := false }]
def spec_l1Sum_ann : List Norm := [{ live := [4, 0, 3], fix := [] }]
noncomputable def spec_l1Sum_c : C := irOf Tryz.prog Tryz.f135 [] spec_l1Sum_ann []
theorem spec_l1Sum_l : lightC Tryz.prog [] Tryz.f135.ntmps spec_l1Sum_ann [] 0 (bodyOf Tryz.f135) = some (spec_l1Sum_c, 1) := by kernel_rfl
def spec_l1Sum_rv : List (Nat × Option (Nat × Bool)) := [(2, none)]
abbrev spec_l1Sum_V0 := (Int) × (List Int) × (Int)
def spec_l1Sum_enc0 (v : spec_l1Sum_V0) : Env × Heap := ([(4, SV.int .i64 v.1), (0, SV.es I6 v.2.1), (3, SV.int .i64 v.2.2)], [])
def spec_l1Sum_step0 (fuel : Nat) (g0 : spec_l1Sum_V0 → Option ((Int × Unit) × Unit)) (v : spec_l1Sum_V0) : Option ((Int × Unit) × Unit) :=
 cond (decide (v.1 < (zz (List.length v.2.1))))
 (tst (decide (0 ≤ v.1)) <|
  tst (decide (v.1 < (zz (List.length v.2.1)))) <|
  g0 (w64 (v.1 + (1 : Int)), v.2.1, w64 (v.2.2 + List.getD v.2.1 (Int.toNat v.1) 0)))
 (some (((v.2.2, ()), ())))
def spec_l1Sum_st0 (fuel : Nat) (g0 : spec_l1Sum_V0 → Option ((Int × Unit) × Unit)) : spec_l1Sum_V0 → Option ((Int × Unit) × Unit) := spec_l1Sum_step0 fuel g0
theorem spec_l1Sum_lp0 (fuel : Nat) (G) : spec_l1Sum_c.lp (spec_l1Sum_T fuel) 0 fuel G (endF spec_l1Sum_rv spec_l1Sum_rs) 0 spec_l1Sum_enc0 = iter (spec_l1Sum_st0 fuel) fuel := C.lp_iter fun g v => by kernel_rfl
def spec_l1Sum_pre (fuel : Nat) (X0 : spec_l1Sum_V0 → Option ((Int × Unit) × Unit)) (x0 : List Int) : Option ((Int × Unit) × Unit) :=
 X0 ((0 : Int), x0, (0 : Int))
def spec_l1Sum_fn (fuel : Nat) (x : (((List Int) × Unit) × Unit)) : Option ((Int × Unit) × Unit) := spec_l1Sum_pre fuel (iter (spec_l1Sum_st0 fuel) fuel) x.1.1
theorem spec_l1Sum_run (fuel : Nat) (x : PsT spec_l1Sum_ps) : run (spec_l1Sum_T fuel) 0 fuel spec_l1Sum_c (env0 (svPs spec_l1Sum_ps x) 0) [] (endF spec_l1Sum_rv spec_l1Sum_rs) = spec_l1Sum_fn fuel x :=
  (show run (spec_l1Sum_T fuel) 0 fuel spec_l1Sum_c (env0 (svPs spec_l1Sum_ps x) 0) [] (endF spec_l1Sum_rv spec_l1Sum_rs) = spec_l1Sum_pre fuel (spec_l1Sum_c.lp (spec_l1Sum_T fuel) 0 fuel (fun _ _ _ => none) (endF spec_l1Sum_rv spec_l1Sum_rs) 0 spec_l1Sum_enc0) x.1.1 by kernel_rfl).trans (by rw [spec_l1Sum_lp0]; rfl)
def spec_l1Sum_tf (fuel : Nat) : TF := ⟨spec_l1Sum_ps, spec_l1Sum_rs, true, spec_l1Sum_fn fuel⟩
theorem spec_l1Sum_spec (fuel : Nat) : FnSpec Tryz.prog 135 (spec_l1Sum_tf fuel) :=
  fn_spec (T := spec_l1Sum_T fuel) (c := bodyOf Tryz.f135) (fn := Tryz.f135) (TabOK.of (entNil) (methNil)) mixed (by kernel_rfl) (by kernel_rfl) spec_l1Sum_l (by kernel_rfl) (Nat.le_of_ble_eq_true (by kernel_rfl)) (rv := spec_l1Sum_rv) (by kernel_rfl) (spec_l1Sum_run fuel)
theorem spec_l1Sum_ok (fuel : Nat) : EntryOK Tryz.prog 135 (spec_l1Sum_tf fuel).te := EntryOK.tf rfl (spec_l1Sum_spec fuel) (isFn (fn := Tryz.f135) (by kernel_rfl) (by kernel_rfl) (by kernel_rfl))
def spec_RoughOk_T (fuel : Nat) : Tab := Tab.of [(107, (spec_l6In_tf fuel).te), (135, (spec_l1Sum_tf fuel).te)] []
abbrev spec_RoughOk_ps : List Pm := [{ cs := [(Kd.list (Kd.list I6), false)], ag := true }]
abbrev spec_RoughOk_rs : List Pm := [{ cs := [(Kd.bool, false)], ag := false }]
def spec_RoughOk_ann : List Norm := [{ live := [3, 1], fix := [] }, { live := [4, 1, 3], fix := [] }]
noncomputable def spec_RoughOk_c : C := irOf Tryz.prog Tryz.f141 [] spec_RoughOk_ann []
theorem spec_RoughOk_l : lightC Tryz.prog [] Tryz.f141.ntmps spec_RoughOk_ann [] 0 (bodyOf Tryz.f141) = some (spec_RoughOk_c, 2) := by kernel_rfl
def spec_RoughOk_rv : List (Nat × Option (Nat × Bool)) := [(2, none)]
abbrev spec_RoughOk_V0 := (Int) × (List (List Int))
abbrev spec_RoughOk_V1 := (Int) × (Int) × (List (List Int))
def spec_RoughOk_enc0 (v : spec_RoughOk_V0) : Env × Heap := ([(3, SV.int .i64 v.1), (1, SV.ptr 0 0)], [Blk.cells [SV.es (Kd.list I6) v.2] 0 1])
def spec_RoughOk_enc1 (v : spec_RoughOk_V1) : Env × Heap := ([(4, SV.int .i64 v.1), (1, SV.ptr 0 0), (3, SV.int .i64 v.2.1)], [Blk.cells [SV.es (Kd.list I6) v.2.2] 0 1])
def spec_RoughOk_step1 (fuel : Nat) (g0 : spec_RoughOk_V0 → Option ((Bool × Unit) × Unit)) (g1 : spec_RoughOk_V1 → Option ((Bool × Unit) × Unit)) (v : spec_RoughOk_V1) : Option ((Bool × Unit) × Unit) :=
 cond (decide (v.1 < (8 : Int)))
 (tst (decide (0 ≤ v.2.1)) <|
  tst (decide (v.2.1 < (zz (List.length v.2.2)))) <|
  tst (decide (0 ≤ v.1)) <|
  tst (decide (v.1 < (zz (List.length (List.getD v.2.2 (Int.toNat v.2.1) []))))) <|
  Option.bind (spec_l6In_fn fuel ((List.getD (List.getD v.2.2 (Int.toNat v.2.1) []) (Int.toNat v.1) 0, ()), ((0 : Int), ()), ((2000 : Int), ()), ())) fun y_2 =>
  cond (!y_2.1.1)
   (some (((false, ()), ())))
   (g1 (w64 (v.1 + (1 : Int)), v.2.1, v.2.2)))
 (tst (decide (0 ≤ v.2.1)) <|
  tst (decide (v.2.1 < (zz (List.length v.2.2)))) <|
  Option.bind (spec_l1Sum_fn fuel ((List.getD v.2.2 (Int.toNat v.2.1) [], ()), ())) fun y_2 =>
  tst (decide ((0 : Int) < (zz (List.length v.2.2)))) <|
   Option.bind (spec_l1Sum_fn fuel ((List.getD v.2.2 (Int.toNat (0 : Int)) [], ()), ())) fun y_3 =>
   cond (y_2.1.1 != y_3.1.1)
    (some (((false, ()), ())))
    (tst (decide (0 ≤ v.2.1)) <|
     tst (decide (v.2.1 < (zz (List.length v.2.2)))) <|
     Option.bind (spec_l1Sum_fn fuel ((List.getD v.2.2 (Int.toNat v.2.1) [], ()), ())) fun y_5 =>
     cond (decide (y_5.1.1 > (2000 : Int)))
      (some (((false, ()), ())))
      (g0 (w64 (v.2.1 + (1 : Int)), v.2.2))))
def spec_RoughOk_st1 (fuel : Nat) (g0 : spec_RoughOk_V0 → Option ((Bool × Unit) × Unit)) (g1 : spec_RoughOk_V1 → Option ((Bool × Unit) × Unit)) : spec_RoughOk_V1 → Option ((Bool × Unit) × Unit) := spec_RoughOk_step1 fuel g0 g1
theorem spec_RoughOk_lp1 (fuel : Nat) (G) : spec_RoughOk_c.lp (spec_RoughOk_T fuel) 0 fuel G (endF spec_RoughOk_rv spec_RoughOk_rs) 1 spec_RoughOk_enc1 = iter (spec_RoughOk_st1 fuel (fun v => G 0 (spec_RoughOk_enc0 v).1 (spec_RoughOk_enc0 v).2)) fuel := C.lp_iter fun g v =>
  (show run (spec_RoughOk_T fuel) 0 fuel (spec_RoughOk_c.bdAt 1) (spec_RoughOk_enc1 v).1 (spec_RoughOk_enc1 v).2 (loopK 0 (spec_RoughOk_c.nmAt 1) g (spec_RoughOk_c.contAt (spec_RoughOk_T fuel) 0 fuel G 0 1 (endF spec_RoughOk_rv spec_RoughOk_rs))) = spec_RoughOk_step1 fuel (fun v => G 0 (spec_RoughOk_enc0 v).1 (spec_RoughOk_enc0 v).2) (fun v => g (spec_RoughOk_enc1 v).1 (spec_RoughOk_enc1 v).2) v by kernel_rfl)
def spec_RoughOk_step0 (fuel : Nat) (X1 : spec_RoughOk_V1 → Option ((Bool × Unit) × Unit)) (g0 : spec_RoughOk_V0 → Option ((Bool × Unit) × Unit)) (v : spec_RoughOk_V0) : Option ((Bool × Unit) × Unit) :=
 cond (decide (v.1 < (3 : Int)))
 (tst (decide (0 ≤ v.1)) <|
  tst (decide (v.1 < (zz (List.length v.2)))) <|
  cond ((zz (List.length (List.getD v.2 (Int.toNat v.1) []))) != (8 : Int))
  (some (((false, ()), ())))
  (X1 ((0 : Int), v.1, v.2)))
 (some (((true, ()), ())))
def spec_RoughOk_st0 (fuel : Nat) (g0 : spec_RoughOk_V0 → Option ((Bool × Unit) × Unit)) : spec_RoughOk_V0 → Option ((Bool × Unit) × Unit) := spec_RoughOk_step0 fuel (iter (spec_RoughOk_st1 fuel g0) fuel) g0
theorem spec_RoughOk_lp0 (fuel : Nat) (G) : spec_RoughOk_c.lp (spec_RoughOk_T fuel) 0 fuel G (endF spec_RoughOk_rv spec_RoughOk_rs) 0 spec_RoughOk_enc0 = iter (spec_RoughOk_st0 fuel) fuel := C.lp_iter fun g v =>
  (show run (spec_RoughOk_T fuel) 0 fuel (spec_RoughOk_c.bdAt 0) (spec_RoughOk_enc0 v).1 (spec_RoughOk_enc0 v).2 (loopK 0 (spec_RoughOk_c.nmAt 0) g (spec_RoughOk_c.contAt (spec_RoughOk_T fuel) 0 fuel G 0 0 (endF spec_RoughOk_rv spec_RoughOk_rs))) = spec_RoughOk_step0 fuel (spec_RoughOk_c.lp (spec_RoughOk_T fuel) 0 fuel (fun m => bif Nat.beq m 0 then g else G m) (endF spec_RoughOk_rv spec_RoughOk_rs) 1 spec_RoughOk_enc1) (fun v => g (spec_RoughOk_enc0 v).1 (spec_RoughOk_enc0 v).2) v by kernel_rfl).trans (by rw [spec_RoughOk_lp1]; rfl)
def spec_RoughOk_pre (fuel : Nat) (X0 : spec_RoughOk_V0 → Option ((Bool × Unit) × Unit)) (x0 : List (List Int)) : Option ((Bool × Unit) × Unit) :=
 cond ((zz (List.length x0)) != (3 : Int))
 (some (((false, ()), ())))
 (X0 ((0 : Int), x0))
def spec_RoughOk_fn (fuel : Nat) (x : (((List (List Int)) × Unit) × Unit)) : Option ((Bool × Unit) × Unit) := spec_RoughOk_pre fuel (iter (spec_RoughOk_st0 fuel) fuel) x.1.1
theorem spec_RoughOk_run (fuel : Nat) (x : PsT spec_RoughOk_ps) : run (spec_RoughOk_T fuel) 0 fuel spec_RoughOk_c (env0 (svPs spec_RoughOk_ps x) 0) [] (endF spec_RoughOk_rv spec_RoughOk_rs) = spec_RoughOk_fn fuel x :=
  (show run (spec_RoughOk_T fuel) 0 fuel spec_RoughOk_c (env0 (svPs spec_RoughOk_ps x) 0) [] (endF spec_RoughOk_rv spec_RoughOk_rs) = spec_RoughOk_pre fuel (spec_RoughOk_c.lp (spec_RoughOk_T fuel) 0 fuel (fun _ _ _ => none) (endF spec_RoughOk_rv spec_RoughOk_rs) 0 spec_RoughOk_enc0) x.1.1 by kernel_rfl).trans (by rw [spec_RoughOk_lp0]; rfl)
def spec_RoughOk_tf (fuel : Nat) : TF := ⟨spec_RoughOk_ps, spec_RoughOk_rs, true, spec_RoughOk_fn fuel⟩
theorem spec_RoughOk_spec (fuel : Nat) : FnSpec Tryz.prog 141 (spec_RoughOk_tf fuel) :=
  fn_spec (T := spec_RoughOk_T fuel) (c := bodyOf Tryz.f141) (fn := Tryz.f141) (TabOK.of (entCons (spec_l6In_ok fuel) (entCons (spec_l1Sum_ok fuel) entNil)) (methNil)) mixed (by kernel_rfl) (by kernel_rfl) spec_RoughOk_l (by kernel_rfl) (Nat.le_of_ble_eq_true (by kernel_rfl)) (rv := spec_RoughOk_rv) (by kernel_rfl) (spec_RoughOk_run fuel)
theorem spec_RoughOk_ok (fuel : Nat) : EntryOK Tryz.prog 141 (spec_RoughOk_tf fuel).te := EntryOK.tf rfl (spec_RoughOk_spec fuel) (isFn (fn := Tryz.f141) (by kernel_rfl) (by kernel_rfl) (by kernel_rfl))
def spec_FewOk_T (fuel : Nat) : Tab := Tab.of [(107, (spec_l6In_tf fuel).te)] []
abbrev spec_FewOk_ps : List Pm := [{ cs := [(Kd.list I6, false)], ag := true }]
abbrev spec_FewOk_rs : List Pm := [{ cs := [(Kd.bool, false)], ag := false }]
def spec_FewOk_ann : List Norm := [{ live := [3, 1], fix := [] }]
noncomputable def spec_FewOk_c : C := irOf Tryz.prog Tryz.f142 [] spec_FewOk_ann []
theorem spec_FewOk_l : lightC Tryz.prog [] Tryz.f142.ntmps spec_FewOk_ann [] 0 (bodyOf Tryz.f142) = some (spec_FewOk_c, 1) := by kernel_rfl
def spec_FewOk_rv : List (Nat × Option (Nat × Bool)) := [(2, none)]
abbrev spec_FewOk_V0 := (Int) × (List Int)
def spec_FewOk_enc0 (v : spec_FewOk_V0) : Env × Heap := ([(3, SV.int .i64 v.1), (1, SV.ptr 0 0)], [Blk.cells [SV.es I6 v.2] 0 1])
def spec_FewOk_step0 (fuel : Nat) (g0 : spec_FewOk_V0 → Option ((Bool × Unit) × Unit)) (v : spec_FewOk_V0) : Option ((Bool × Unit) × Unit) :=
 cond (decide (v.1 < (zz (List.length v.2))))
 (tst (decide (0 ≤ v.1)) <|
  tst (decide (v.1 < (zz (List.length v.2)))) <|
  Option.bind (spec_l6In_fn fuel ((List.getD v.2 (Int.toNat v.1) 0, ()), ((0 : Int), ()), ((63 : Int), ()), ())) fun y_2 =>
  cond (!y_2.1.1)
   (some (((false, ()), ())))
   (cond (decide (v.1 > (0 : Int)))
    (tst (decide (0 ≤ w64 (v.1 - (1 : Int)))) <|
     tst (decide (w64 (v.1 - (1 : Int)) < (zz (List.length v.2)))) <|
     tst (decide (0 ≤ v.1)) <|
     tst (decide (v.1 < (zz (List.length v.2)))) <|
     cond (decide (List.getD v.2 (Int.toNat (w64 (v.1 - (1 : Int)))) 0 ≥ List.getD v.2 (Int.toNat v.1) 0))
     (some (((false, ()), ())))
     (g0 (w64 (v.1 + (1 : Int)), v.2)))
    (g0 (w64 (v.1 + (1 : Int)), v.2))))
 (some (((decide ((zz (List.length v.2)) ≤ (6 : Int)), ()), ())))
def spec_FewOk_st0 (fuel : Nat) (g0 : spec_FewOk_V0 → Option ((Bool × Unit) × Unit)) : spec_FewOk_V0 → Option ((Bool × Unit) × Unit) := spec_FewOk_step0 fuel g0
theorem spec_FewOk_lp0 (fuel : Nat) (G) : spec_FewOk_c.lp (spec_FewOk_T fuel) 0 fuel G (endF spec_FewOk_rv spec_FewOk_rs) 0 spec_FewOk_enc0 = iter (spec_FewOk_st0 fuel) fuel := C.lp_iter fun g v => by kernel_rfl
def spec_FewOk_pre (fuel : Nat) (X0 : spec_FewOk_V0 → Option ((Bool × Unit) × Unit)) (x0 : List Int) : Option ((Bool × Unit) × Unit) :=
 X0 ((0 : Int), x0)
def spec_FewOk_fn (fuel : Nat) (x : (((List Int) × Unit) × Unit)) : Option ((Bool × Unit) × Unit) := spec_FewOk_pre fuel (iter (spec_FewOk_st0 fuel) fuel) x.1.1
theorem spec_FewOk_run (fuel : Nat) (x : PsT spec_FewOk_ps) : run (spec_FewOk_T fuel) 0 fuel spec_FewOk_c (env0 (svPs spec_FewOk_ps x) 0) [] (endF spec_FewOk_rv spec_FewOk_rs) = spec_FewOk_fn fuel x :=
  (show run (spec_FewOk_T fuel) 0 fuel spec_FewOk_c (env0 (svPs spec_FewOk_ps x) 0) [] (endF spec_FewOk_rv spec_FewOk_rs) = spec_FewOk_pre fuel (spec_FewOk_c.lp (spec_FewOk_T fuel) 0 fuel (fun _ _ _ => none) (endF spec_FewOk_rv spec_FewOk_rs) 0 spec_FewOk_enc0) x.1.1 by kernel_rfl).trans (by rw [spec_FewOk_lp0]; rfl)
def spec_FewOk_tf (fuel : Nat) : TF := ⟨spec_FewOk_ps, spec_FewOk_rs, true, spec_FewOk_fn fuel⟩
theorem spec_FewOk_spec (fuel : Nat) : FnSpec Tryz.prog 142 (spec_FewOk_tf fuel) :=
  fn_spec (T := spec_FewOk_T fuel) (c := bodyOf Tryz.f142) (fn := Tryz.f142) (TabOK.of (entCons (spec_l6In_ok fuel) entNil) (methNil)) mixed (by kernel_rfl) (by kernel_rfl) spec_FewOk_l (by kernel_rfl) (Nat.le_of_ble_eq_true (by kernel_rfl)) (rv := spec_FewOk_rv) (by kernel_rfl) (spec_FewOk_run fuel)
theorem spec_FewOk_ok (fuel : Nat) : EntryOK Tryz.prog 142 (spec_FewOk_tf fuel).te := EntryOK.tf rfl (spec_FewOk_spec fuel) (isFn (fn := Tryz.f142) (by kernel_rfl) (by kernel_rfl) (by kernel_rfl))
def spec_l3All_T (fuel : Nat) : Tab := Tab.of [] []
abbrev spec_l3All_ps : List Pm := [{ cs := [(Kd.list KP, false)], ag := false }]
abbrev spec_l3All_rs : List Pm := [{ cs := [(I6, false)], ag := false }]
def spec_l3All_ann : List Norm := [{ live := [4, 0, 3], fix := [] }]
noncomputable def spec_l3All_c : C := irOf Tryz.prog Tryz.f185 [] spec_l3All_ann []
theorem spec_l3All_l : lightC Tryz.prog [] Tryz.f185.ntmps spec_l3All_ann [] 0 (bodyOf Tryz.f185) = some (spec_l3All_c, 1) := by kernel_rfl
def spec_l3All_rv : List (Nat × Option (Nat × Bool)) := [(2, none)]
abbrev spec_l3All_V0 := (Int) × LP × (Int)
def spec_l3All_enc0 (v : spec_l3All_V0) : Env × Heap := ([(4, SV.int .i64 v.1), (0, SV.es KP v.2.1), (3, SV.int .i64 v.2.2)], [])
def spec_l3All_step0 (fuel : Nat) (g0 : spec_l3All_V0 → Option ((Int × Unit) × Unit)) (v : spec_l3All_V0) : Option ((Int × Unit) × Unit) :=
 cond (decide (v.1 < (zz (List.length v.2.1))))
 (tst (decide (0 ≤ v.1)) <|
  tst (decide (v.1 < (zz (List.length v.2.1)))) <|
  g0 (w64 (v.1 + (1 : Int)), v.2.1, w64 (v.2.2 + (List.getD v.2.1 (Int.toNat v.1) (0, (0, ()))).2.1)))
 (some (((v.2.2, ()), ())))
def spec_l3All_st0 (fuel : Nat) (g0 : spec_l3All_V0 → Option ((Int × Unit) × Unit)) : spec_l3All_V0 → Option ((Int × Unit) × Unit) := spec_l3All_step0 fuel g0
theorem spec_l3All_lp0 (fuel : Nat) (G) : spec_l3All_c.lp (spec_l3All_T fuel) 0 fuel G (endF spec_l3All_rv spec_l3All_rs) 0 spec_l3All_enc0 = iter (spec_l3All_st0 fuel) fuel := C.lp_iter fun g v => by kernel_rfl
def spec_l3All_pre (fuel : Nat) (X0 : spec_l3All_V0 → Option ((Int × Unit) × Unit)) (x0 : LP) : Option ((Int × Unit) × Unit) :=
 X0 ((0 : Int), x0, (0 : Int))
def spec_l3All_fn (fuel : Nat) (x : ((LP × Unit) × Unit)) : Option ((Int × Unit) × Unit) := spec_l3All_pre fuel (iter (spec_l3All_st0 fuel) fuel) x.1.1
theorem spec_l3All_run (fuel : Nat) (x : PsT spec_l3All_ps) : run (spec_l3All_T fuel) 0 fuel spec_l3All_c (env0 (svPs spec_l3All_ps x) 0) [] (endF spec_l3All_rv spec_l3All_rs) = spec_l3All_fn fuel x :=
  (show run (spec_l3All_T fuel) 0 fuel spec_l3All_c (env0 (svPs spec_l3All_ps x) 0) [] (endF spec_l3All_rv spec_l3All_rs) = spec_l3All_pre fuel (spec_l3All_c.lp (spec_l3All_T fuel) 0 fuel (fun _ _ _ => none) (endF spec_l3All_rv spec_l3All_rs) 0 spec_l3All_enc0) x.1.1 by kernel_rfl).trans (by rw [spec_l3All_lp0]; rfl)
def spec_l3All_tf (fuel : Nat) : TF := ⟨spec_l3All_ps, spec_l3All_rs, true, spec_l3All_fn fuel⟩
theorem spec_l3All_spec (fuel : Nat) : FnSpec Tryz.prog 185 (spec_l3All_tf fuel) :=
  fn_spec (T := spec_l3All_T fuel) (c := bodyOf Tryz.f185) (fn := Tryz.f185) (TabOK.of (entNil) (methNil)) mixed (by kernel_rfl) (by kernel_rfl) spec_l3All_l (by kernel_rfl) (Nat.le_of_ble_eq_true (by kernel_rfl)) (rv := spec_l3All_rv) (by kernel_rfl) (spec_l3All_run fuel)
theorem spec_l3All_ok (fuel : Nat) : EntryOK Tryz.prog 185 (spec_l3All_tf fuel).te := EntryOK.tf rfl (spec_l3All_spec fuel) (isFn (fn := Tryz.f185) (by kernel_rfl) (by kernel_rfl) (by kernel_rfl))
def spec_TopOk_T (fuel : Nat) : Tab := Tab.of [(107, (spec_l6In_tf fuel).te), (185, (spec_l3All_tf fuel).te)] []
abbrev spec_TopOk_ps : List Pm := [{ cs := [(Kd.list KP, false), (I6, false), (I6, false)], ag := true }]
abbrev spec_TopOk_rs : List Pm := [{ cs := [(Kd.bool, false)], ag := false }]
def spec_TopOk_ann : List Norm := [{ live := [3, 1], fix := [] }]
noncomputable def spec_TopOk_c : C := irOf Tryz.prog Tryz.f143 [] spec_TopOk_ann []
theorem spec_TopOk_l : lightC Tryz.prog [] Tryz.f143.ntmps spec_TopOk_ann [] 0 (bodyOf Tryz.f143) = some (spec_TopOk_c, 1) := by kernel_rfl
def spec_TopOk_rv : List (Nat × Option (Nat × Bool)) := [(2, none)]
abbrev spec_TopOk_V0 := (Int) × LP × (Int) × (Int)
def spec_TopOk_enc0 (v : spec_TopOk_V0) : Env × Heap := ([(3, SV.int .i64 v.1), (1, SV.ptr 0 0)], [Blk.cells [SV.es KP v.2.1, SV.int .i64 v.2.2.1, SV.int .i64 v.2.2.2] 0 3])
def spec_TopOk_step0 (fuel : Nat) (g0 : spec_TopOk_V0 → Option ((Bool × Unit) × Unit)) (v : spec_TopOk_V0) : Option ((Bool × Unit) × Unit) :=
 cond (decide (v.1 < (zz (List.length v.2.1))))
 (tst (decide (0 ≤ v.1)) <|
  tst (decide (v.1 < (zz (List.length v.2.1)))) <|
  Option.bind (spec_l6In_fn fuel (((List.getD v.2.1 (Int.toNat v.1) (0, (0, ()))).1, ()), ((0 : Int), ()), ((63 : Int), ()), ())) fun y_2 =>
  cond (!y_2.1.1)
   (some (((false, ()), ())))
   (tst (decide (0 ≤ v.1)) <|
    tst (decide (v.1 < (zz (List.length v.2.1)))) <|
    Option.bind (spec_l6In_fn fuel (((List.getD v.2.1 (Int.toNat v.1) (0, (0, ()))).2.1, ()), ((1 : Int), ()), ((2000 : Int), ()), ())) fun y_4 =>
    cond (!y_4.1.1)
     (some (((false, ()), ())))
     (cond (decide (v.1 > (0 : Int)))
      (tst (decide (0 ≤ w64 (v.1 - (1 : Int)))) <|
       tst (decide (w64 (v.1 - (1 : Int)) < (zz (List.length v.2.1)))) <|
       tst (decide (0 ≤ v.1)) <|
       tst (decide (v.1 < (zz (List.length v.2.1)))) <|
       cond (decide ((List.getD v.2.1 (Int.toNat (w64 (v.1 - (1 : Int)))) (0, (0, ()))).1 ≥ (List.getD v.2.1 (Int.toNat v.1) (0, (0, ()))).1))
       (some (((false, ()), ())))
       (g0 (w64 (v.1 + (1 : Int)), v.2.1, v.2.2.1, v.2.2.2)))
      (g0 (w64 (v.1 + (1 : Int)), v.2.1, v.2.2.1, v.2.2.2)))))
 (cond (decide ((zz (List.length v.2.1)) ≤ (4 : Int)))
  (Option.bind (spec_l6In_fn fuel ((v.2.2.2, ()), ((0 : Int), ()), ((2000 : Int), ()), ())) fun y_3 =>
   cond (y_3.1.1)
    (Option.bind (spec_l6In_fn fuel ((v.2.2.1, ()), ((0 : Int), ()), ((2000 : Int), ()), ())) fun y_5 =>
     cond (y_5.1.1)
      (Option.bind (spec_l3All_fn fuel ((v.2.1, ()), ())) fun y_7 =>
       some (((decide (w64 (y_7.1.1 + w64 ((5 : Int) * v.2.2.1)) ≤ v.2.2.2), ()), ())))
      (some (((false, ()), ()))))
    (some (((false, ()), ()))))
  (some (((false, ()), ()))))
def spec_TopOk_st0 (fuel : Nat) (g0 : spec_TopOk_V0 → Option ((Bool × Unit) × Unit)) : spec_TopOk_V0 → Option ((Bool × Unit) × Unit) := spec_TopOk_step0 fuel g0
theorem spec_TopOk_lp0 (fuel : Nat) (G) : spec_TopOk_c.lp (spec_TopOk_T fuel) 0 fuel G (endF spec_TopOk_rv spec_TopOk_rs) 0 spec_TopOk_enc0 = iter (spec_TopOk_st0 fuel) fuel := C.lp_iter fun g v => by kernel_rfl
def spec_TopOk_pre (fuel : Nat) (X0 : spec_TopOk_V0 → Option ((Bool × Unit) × Unit)) (x0 : LP) (x1 : Int) (x2 : Int) : Option ((Bool × Unit) × Unit) :=
 X0 ((0 : Int), x0, x1, x2)
def spec_TopOk_fn (fuel : Nat) (x : ((LP × (Int × (Int × Unit))) × Unit)) : Option ((Bool × Unit) × Unit) := spec_TopOk_pre fuel (iter (spec_TopOk_st0 fuel) fuel) x.1.1 x.1.2.1 x.1.2.2.1
theorem spec_TopOk_run (fuel : Nat) (x : PsT spec_TopOk_ps) : run (spec_TopOk_T fuel) 0 fuel spec_TopOk_c (env0 (svPs spec_TopOk_ps x) 0) [] (endF spec_TopOk_rv spec_TopOk_rs) = spec_TopOk_fn fuel x :=
  (show run (spec_TopOk_T fuel) 0 fuel spec_TopOk_c (env0 (svPs spec_TopOk_ps x) 0) [] (endF spec_TopOk_rv spec_TopOk_rs) = spec_TopOk_pre fuel (spec_TopOk_c.lp (spec_TopOk_T fuel) 0 fuel (fun _ _ _ => none) (endF spec_TopOk_rv spec_TopOk_rs) 0 spec_TopOk_enc0) x.1.1 x.1.2.1 x.1.2.2.1 by kernel_rfl).trans (by rw [spec_TopOk_lp0]; rfl)
def spec_TopOk_tf (fuel : Nat) : TF := ⟨spec_TopOk_ps, spec_TopOk_rs, true, spec_TopOk_fn fuel⟩
theorem spec_TopOk_spec (fuel : Nat) : FnSpec Tryz.prog 143 (spec_TopOk_tf fuel) :=
  fn_spec (T := spec_TopOk_T fuel) (c := bodyOf Tryz.f143) (fn := Tryz.f143) (TabOK.of (entCons (spec_l6In_ok fuel) (entCons (spec_l3All_ok fuel) entNil)) (methNil)) mixed (by kernel_rfl) (by kernel_rfl) spec_TopOk_l (by kernel_rfl) (Nat.le_of_ble_eq_true (by kernel_rfl)) (rv := spec_TopOk_rv) (by kernel_rfl) (spec_TopOk_run fuel)
theorem spec_TopOk_ok (fuel : Nat) : EntryOK Tryz.prog 143 (spec_TopOk_tf fuel).te := EntryOK.tf rfl (spec_TopOk_spec fuel) (isFn (fn := Tryz.f143) (by kernel_rfl) (by kernel_rfl) (by kernel_rfl))
end Go.Proofs.YtdgdoeknpakmlaaGreat.Den
namespace Go.Proofs.YtdgdoeknpakmlaaGreat.Den
open Go Go.RowKit
set_option linter.unusedVariables false
set_option linter.unusedSimpArgs false
def spec_RoughAll_T (fuel : Nat) : Tab := Tab.of [(135, (spec_l1Sum_tf fuel).te), (141, (spec_RoughOk_tf fuel).te)] []
abbrev spec_RoughAll_ps : List Pm := [{ cs := [(Kd.list (Kd.list I6), false)], ag := true }]
abbrev spec_RoughAll_rs : List Pm := [{ cs := [(I6, false)], ag := false }]
def spec_RoughAll_ann : List Norm := []
noncomputable def spec_RoughAll_c : C := irOf Tryz.prog Tryz.f145 [] spec_RoughAll_ann []
theorem spec_RoughAll_l : lightC Tryz.prog [] Tryz.f145.ntmps spec_RoughAll_ann [] 0 (bodyOf Tryz.f145) = some (spec_RoughAll_c, 0) := by kernel_rfl
def spec_RoughAll_rv : List (Nat × Option (Nat × Bool)) := [(2, none)]
def spec_RoughAll_pre (fuel : Nat) (x0 : List (List Int)) : Option ((Int × Unit) × Unit) :=
 Option.bind (spec_RoughOk_fn fuel ((x0, ()), ())) fun y_1 =>
 cond (!y_1.1.1)
  (some ((((-1 : Int), ()), ())))
  (tst (decide ((0 : Int) < (zz (List.length x0)))) <|
   Option.bind (spec_l1Sum_fn fuel ((List.getD x0 (Int.toNat (0 : Int)) [], ()), ())) fun y_3 =>
   some (((y_3.1.1, ()), ())))
def spec_RoughAll_fn (fuel : Nat) (x : (((List (List Int)) × Unit) × Unit)) : Option ((Int × Unit) × Unit) := spec_RoughAll_pre fuel x.1.1
theorem spec_RoughAll_run (fuel : Nat) (x : PsT spec_RoughAll_ps) : run (spec_RoughAll_T fuel) 0 fuel spec_RoughAll_c (env0 (svPs spec_RoughAll_ps x) 0) [] (endF spec_RoughAll_rv spec_RoughAll_rs) = spec_RoughAll_fn fuel x := by kernel_rfl
def spec_RoughAll_tf (fuel : Nat) : TF := ⟨spec_RoughAll_ps, spec_RoughAll_rs, true, spec_RoughAll_fn fuel⟩
theorem spec_RoughAll_spec (fuel : Nat) : FnSpec Tryz.prog 145 (spec_RoughAll_tf fuel) :=
  fn_spec (T := spec_RoughAll_T fuel) (c := bodyOf Tryz.f145) (fn := Tryz.f145) (TabOK.of (entCons (spec_l1Sum_ok fuel) (entCons (spec_RoughOk_ok fuel) entNil)) (methNil)) mixed (by kernel_rfl) (by kernel_rfl) spec_RoughAll_l (by kernel_rfl) (Nat.le_of_ble_eq_true (by kernel_rfl)) (rv := spec_RoughAll_rv) (by kernel_rfl) (spec_RoughAll_run fuel)
theorem spec_RoughAll_ok (fuel : Nat) : EntryOK Tryz.prog 145 (spec_RoughAll_tf fuel).te := EntryOK.tf rfl (spec_RoughAll_spec fuel) (isFn (fn := Tryz.f145) (by kernel_rfl) (by kernel_rfl) (by kernel_rfl))
def spec_SumOk_T (fuel : Nat) : Tab := Tab.of [(141, (spec_RoughOk_tf fuel).te), (142, (spec_FewOk_tf fuel).te), (143, (spec_TopOk_tf fuel).te), (144, (spec_RankOk_tf fuel).te), (145, (spec_RoughAll_tf fuel).te)] []
abbrev spec_SumOk_ps : List Pm := [{ cs := [(Kd.list (Kd.list I6), false), (Kd.list I6, false), (Kd.list KP, false), (I6, false), (I6, false), (Kd.list KP, false), (I6, false)], ag := true }]
abbrev spec_SumOk_rs : List Pm := [{ cs := [(Kd.bool, false)], ag := false }]
def spec_SumOk_ann : List Norm := []
noncomputable def spec_SumOk_c : C := irOf Tryz.prog Tryz.f98 [] spec_SumOk_ann []
theorem spec_SumOk_l : lightC Tryz.prog [] Tryz.f98.ntmps spec_SumOk_ann [] 0 (bodyOf Tryz.f98) = some (spec_SumOk_c, 0) := by kernel_rfl
def spec_SumOk_rv : List (Nat × Option (Nat × Bool)) := [(2, none)]
def spec_SumOk_pre (fuel : Nat) (x0 : List (List Int)) (x1 : List Int) (x2 : LP) (x3 : Int) (x4 : Int) (x5 : LP) (x6 : Int) : Option ((Bool × Unit) × Unit) :=
 Option.bind (spec_RoughOk_fn fuel ((x0, ()), ())) fun y_1 =>
 cond (y_1.1.1)
  (Option.bind (spec_FewOk_fn fuel ((x1, ()), ())) fun y_3 =>
   cond (y_3.1.1)
    (Option.bind (spec_TopOk_fn fuel ((x2, x3, x4, ()), ())) fun y_5 =>
     cond (y_5.1.1)
      (Option.bind (spec_RankOk_fn fuel ((x5, x6, ()), ())) fun y_7 =>
       cond (y_7.1.1)
        (Option.bind (spec_RoughAll_fn fuel ((x0, ()), ())) fun y_9 =>
         cond (y_9.1.1 == x4)
          (cond (x4 == x6)
           (some (((decide ((zz (List.length x1)) > (0 : Int)) == decide (x4 > (0 : Int)), ()), ())))
           (some (((false, ()), ()))))
          (some (((false, ()), ()))))
        (some (((false, ()), ()))))
      (some (((false, ()), ()))))
    (some (((false, ()), ()))))
  (some (((false, ()), ())))
def spec_SumOk_fn (fuel : Nat) (x : (SumY × Unit)) : Option ((Bool × Unit) × Unit) := spec_SumOk_pre fuel x.1.1 x.1.2.1 x.1.2.2.1 x.1.2.2.2.1 x.1.2.2.2.2.1 x.1.2.2.2.2.2.1 x.1.2.2.2.2.2.2.1
theorem spec_SumOk_run (fuel : Nat) (x : PsT spec_SumOk_ps) : run (spec_SumOk_T fuel) 0 fuel spec_SumOk_c (env0 (svPs spec_SumOk_ps x) 0) [] (endF spec_SumOk_rv spec_SumOk_rs) = spec_SumOk_fn fuel x := by kernel_rfl
def spec_SumOk_tf (fuel : Nat) : TF := ⟨spec_SumOk_ps, spec_SumOk_rs, true, spec_SumOk_fn fuel⟩
theorem spec_SumOk_spec (fuel : Nat) : FnSpec Tryz.prog 98 (spec_SumOk_tf fuel) :=
  fn_spec (T := spec_SumOk_T fuel) (c := bodyOf Tryz.f98) (fn := Tryz.f98) (TabOK.of (entCons (spec_RoughOk_ok fuel) (entCons (spec_FewOk_ok fuel) (entCons (spec_TopOk_ok fuel) (entCons (spec_RankOk_ok fuel) (entCons (spec_RoughAll_ok fuel) entNil))))) (methNil)) mixed (by kernel_rfl) (by kernel_rfl) spec_SumOk_l (by kernel_rfl) (Nat.le_of_ble_eq_true (by kernel_rfl)) (rv := spec_SumOk_rv) (by kernel_rfl) (spec_SumOk_run fuel)
theorem spec_SumOk_ok (fuel : Nat) : EntryOK Tryz.prog 98 (spec_SumOk_tf fuel).te := EntryOK.tf rfl (spec_SumOk_spec fuel) (isFn (fn := Tryz.f98) (by kernel_rfl) (by kernel_rfl) (by kernel_rfl))
def spec_l1Copy_T (fuel : Nat) : Tab := Tab.of [] []
abbrev spec_l1Copy_ps : Sh := (.agg (.cell (Kd.list (Kd.list I6)) 5 .nil) .nil)
abbrev spec_l1Copy_rs : Sh := (.agg (.cell (Kd.list (Kd.list I6)) 5 .nil) .nil)
def spec_l1Copy_ann : List Norm := [{ live := [4, 1, 3, 2], fix := [] }]
noncomputable def spec_l1Copy_c : C := irOf Tryz.prog Tryz.f146 [21] spec_l1Copy_ann []
theorem spec_l1Copy_l : lightC Tryz.prog [21] Tryz.f146.ntmps spec_l1Copy_ann [] 0 (bodyOf Tryz.f146) = some (spec_l1Copy_c, 1) := by kernel_rfl
def spec_l1Copy_rv : List (Nat × Option (Nat × Bool)) := [(2, some (1, true))]
def spec_l1Copy_pre (fuel : Nat) (x0 : List Int) (x1 : List Int) (x2 : List Int) : Option (((List (List Int)) × Unit) × Unit) :=
 tst (decide (0 + List.length x0 < LIM)) <|
 tst (decide (0 + List.length x1 < LIM)) <|
 tst (decide (0 + List.length x2 < LIM)) <|
 some ((([[] ++ x0, [] ++ x1, [] ++ x2], ()), ()))
def spec_l1Copy_fn (fuel : Nat) (x : (((List (List Int)) × Unit) × Unit)) : Option (((List (List Int)) × Unit) × Unit) := lit3 x.1.1 fun x0 x1 x2 => spec_l1Copy_pre fuel x0 x1 x2
theorem spec_l1Copy_run (fuel : Nat) (x0 : List Int) (x1 : List Int) (x2 : List Int) : run (spec_l1Copy_T fuel) 0 (fuel + 6) spec_l1Copy_c (env0 (svS spec_l1Copy_ps (([x0, x1, x2], ()), ())) 0) [] (endG spec_l1Copy_rv spec_l1Copy_rs) = spec_l1Copy_pre fuel x0 x1 x2 := by kernel_rfl
def spec_l1Copy_tf (fuel : Nat) : TG := ⟨spec_l1Copy_ps, spec_l1Copy_rs, true, spec_l1Copy_fn fuel⟩
theorem spec_l1Copy_spec (fuel : Nat) : FnSpecG Tryz.prog 146 (spec_l1Copy_tf fuel) :=
  fn_specG (T := spec_l1Copy_T fuel) (c := bodyOf Tryz.f146) (fn := Tryz.f146) (TabOK.of (entNil) (methNil)) mixed (by kernel_rfl) (by kernel_rfl) spec_l1Copy_l (by kernel_rfl) (Nat.le_of_ble_eq_true (by kernel_rfl)) (rv := spec_l1Copy_rv) (by kernel_rfl) (fun x y h => by
    obtain ⟨⟨l0, ⟨⟩⟩, ⟨⟩⟩ := x
    obtain ⟨x0, x1, x2, rfl, h⟩ := lit3_some (show lit3 l0 (fun x0 x1 x2 => spec_l1Copy_pre fuel x0 x1 x2) = some y from h)
    exact (spec_l1Copy_run fuel x0 x1 x2).trans h)
theorem spec_l1Copy_ok (fuel : Nat) : EntryOK Tryz.prog 146 (spec_l1Copy_tf fuel).te := EntryOK.tg rfl (spec_l1Copy_spec fuel) (isFn (fn := Tryz.f146) (by kernel_rfl) (by kernel_rfl) (by kernel_rfl))
def spec_l1Place_T (fuel : Nat) : Tab := Tab.of [] []
abbrev spec_l1Place_ps : List Pm := [{ cs := [(I6, false)], ag := false }, { cs := [(I6, false)], ag := false }]
abbrev spec_l1Place_rs : List Pm := [{ cs := [(I6, false)], ag := false }]
def spec_l1Place_ann : List Norm := []
noncomputable def spec_l1Place_c : C := irOf Tryz.prog Tryz.f158 [] spec_l1Place_ann []
theorem spec_l1Place_l : lightC Tryz.prog [] Tryz.f158.ntmps spec_l1Place_ann [] 0 (bodyOf Tryz.f158) = some (spec_l1Place_c, 0) := by kernel_rfl
def spec_l1Place_rv : List (Nat × Option (Nat × Bool)) := [(4, none)]
def spec_l1Place_pre (fuel : Nat) (x0 : Int) (x1 : Int) : Option ((Int × Unit) × Unit) :=
 tst (decide (0 ≤ x0)) <|
 tst (decide (x0 < (zz 3))) <|
 tst (decide (Int.toNat x0 < 3)) <|
 tst (decide (0 ≤ x0)) <|
 tst (decide (x0 < (zz 3))) <|
 tst (decide (Int.toNat x0 < 3)) <|
 tst (!decide (List.getD [(8 : Int), (16 : Int), (4 : Int)] (Int.toNat x0) 0 = 0)) <|
 some (((Int.tmod (w64 (w64 (w64 (x1 * List.getD [(3 : Int), (5 : Int), (1 : Int)] (Int.toNat x0) 0) + w64 (Int.tdiv x1 (List.getD [(8 : Int), (16 : Int), (4 : Int)] (Int.toNat x0) 0))) + x0)) (8 : Int), ()), ()))
def spec_l1Place_fn (fuel : Nat) (x : ((Int × Unit) × ((Int × Unit) × Unit))) : Option ((Int × Unit) × Unit) := spec_l1Place_pre fuel x.1.1 x.2.1.1
theorem spec_l1Place_run (fuel : Nat) (x : PsT spec_l1Place_ps) : run (spec_l1Place_T fuel) 0 fuel spec_l1Place_c (env0 (svPs spec_l1Place_ps x) 0) [] (endF spec_l1Place_rv spec_l1Place_rs) = spec_l1Place_fn fuel x := by kernel_rfl
def spec_l1Place_tf (fuel : Nat) : TF := ⟨spec_l1Place_ps, spec_l1Place_rs, true, spec_l1Place_fn fuel⟩
theorem spec_l1Place_spec (fuel : Nat) : FnSpec Tryz.prog 158 (spec_l1Place_tf fuel) :=
  fn_spec (T := spec_l1Place_T fuel) (c := bodyOf Tryz.f158) (fn := Tryz.f158) (TabOK.of (entNil) (methNil)) mixed (by kernel_rfl) (by kernel_rfl) spec_l1Place_l (by kernel_rfl) (Nat.le_of_ble_eq_true (by kernel_rfl)) (rv := spec_l1Place_rv) (by kernel_rfl) (spec_l1Place_run fuel)
theorem spec_l1Place_ok (fuel : Nat) : EntryOK Tryz.prog 158 (spec_l1Place_tf fuel).te := EntryOK.tf rfl (spec_l1Place_spec fuel) (isFn (fn := Tryz.f158) (by kernel_rfl) (by kernel_rfl) (by kernel_rfl))
def spec_RoughAdd_T (fuel : Nat) : Tab := Tab.of [(107, (spec_l6In_tf fuel).te), (135, (spec_l1Sum_tf fuel).te), (141, (spec_RoughOk_tf fuel).te), (146, (spec_l1Copy_tf fuel).te), (158, (spec_l1Place_tf fuel).te)] []
abbrev spec_RoughAdd_ps : List Pm := [{ cs := [(Kd.list (Kd.list I6), false)], ag := true }, { cs := [(I6, false)], ag := false }, { cs := [(I6, false)], ag := false }]
abbrev spec_RoughAdd_rs : List Pm := [{ cs := [(Kd.list (Kd.list I6), false)], ag := true }, { cs := [(Kd.bool, false)], ag := false }]
def spec_RoughAdd_ann : List Norm := [{ live := [9, 8, 1, 2, 6], fix := [] }]
noncomputable def spec_RoughAdd_c : C := irOf Tryz.prog Tryz.f108 [] spec_RoughAdd_ann []
theorem spec_RoughAdd_l : lightC Tryz.prog [] Tryz.f108.ntmps spec_RoughAdd_ann [] 0 (bodyOf Tryz.f108) = some (spec_RoughAdd_c, 1) := by kernel_rfl
def spec_RoughAdd_rv : List (Nat × Option (Nat × Bool)) := [(6, some (1, true)), (7, none)]
def spec_RoughAdd_pre (fuel : Nat) (x0 : List (List Int)) (x1 : Int) (x2 : Int) : Option (((List (List Int)) × Unit) × ((Bool × Unit) × Unit)) :=
 Option.bind (spec_RoughOk_fn fuel ((x0, ()), ())) fun y_1 =>
 cond (!y_1.1.1)
  (some ((([], ()), (false, ()), ())))
  (Option.bind (spec_l6In_fn fuel ((x1, ()), ((0 : Int), ()), ((63 : Int), ()), ())) fun y_3 =>
   cond (!y_3.1.1)
    (some ((([], ()), (false, ()), ())))
    (tst (decide ((0 : Int) < (zz (List.length x0)))) <|
     Option.bind (spec_l1Sum_fn fuel ((List.getD x0 (Int.toNat (0 : Int)) [], ()), ())) fun y_5 =>
     Option.bind (spec_l6In_fn fuel ((x2, ()), ((0 : Int), ()), (w64 ((2000 : Int) - y_5.1.1), ()), ())) fun y_6 =>
      cond (!y_6.1.1)
       (some ((([], ()), (false, ()), ())))
       (Option.bind (spec_l1Copy_fn fuel ((x0, ()), ())) fun y_8 =>
        Option.bind (spec_l1Place_fn fuel (((0 : Int), ()), (x1, ()), ())) fun y_9 =>
         Option.bind (spec_l1Place_fn fuel (((0 : Int), ()), (x1, ()), ())) fun y_10 =>
          tst (decide (0 ≤ y_10.1.1)) <|
           tst (decide (y_10.1.1 < (zz (List.length (List.getD y_8.1.1 0 []))))) <|
           tst (decide (Int.toNat y_10.1.1 < List.length (List.getD y_8.1.1 0 []))) <|
           tst (decide (0 ≤ y_9.1.1)) <|
           tst (decide (y_9.1.1 < (zz (List.length (List.getD y_8.1.1 0 []))))) <|
           tst (decide (Int.toNat y_9.1.1 < List.length (List.getD y_8.1.1 0 []))) <|
           let z1_3 := List.set (List.getD y_8.1.1 0 []) (Int.toNat y_9.1.1) (w64 (List.getD (List.getD y_8.1.1 0 []) (Int.toNat y_10.1.1) 0 + x2))
           Option.bind (spec_l1Place_fn fuel (((1 : Int), ()), (x1, ()), ())) fun y_11 =>
           Option.bind (spec_l1Place_fn fuel (((1 : Int), ()), (x1, ()), ())) fun y_12 =>
            tst (decide (0 ≤ y_12.1.1)) <|
             tst (decide (y_12.1.1 < (zz (List.length (List.getD y_8.1.1 1 []))))) <|
             tst (decide (Int.toNat y_12.1.1 < List.length (List.getD y_8.1.1 1 []))) <|
             tst (decide (0 ≤ y_11.1.1)) <|
             tst (decide (y_11.1.1 < (zz (List.length (List.getD y_8.1.1 1 []))))) <|
             tst (decide (Int.toNat y_11.1.1 < List.length (List.getD y_8.1.1 1 []))) <|
             let z2_4 := List.set (List.getD y_8.1.1 1 []) (Int.toNat y_11.1.1) (w64 (List.getD (List.getD y_8.1.1 1 []) (Int.toNat y_12.1.1) 0 + x2))
             Option.bind (spec_l1Place_fn fuel (((2 : Int), ()), (x1, ()), ())) fun y_13 =>
             Option.bind (spec_l1Place_fn fuel (((2 : Int), ()), (x1, ()), ())) fun y_14 =>
              tst (decide (0 ≤ y_14.1.1)) <|
               tst (decide (y_14.1.1 < (zz (List.length (List.getD y_8.1.1 2 []))))) <|
               tst (decide (Int.toNat y_14.1.1 < List.length (List.getD y_8.1.1 2 []))) <|
               tst (decide (0 ≤ y_13.1.1)) <|
               tst (decide (y_13.1.1 < (zz (List.length (List.getD y_8.1.1 2 []))))) <|
               tst (decide (Int.toNat y_13.1.1 < List.length (List.getD y_8.1.1 2 []))) <|
               let z3_5 := List.set (List.getD y_8.1.1 2 []) (Int.toNat y_13.1.1) (w64 (List.getD (List.getD y_8.1.1 2 []) (Int.toNat y_14.1.1) 0 + x2))
               some ((([z1_3, z2_4, z3_5], ()), (true, ()), ())))))
def spec_RoughAdd_fn (fuel : Nat) (x : (((List (List Int)) × Unit) × ((Int × Unit) × ((Int × Unit) × Unit)))) : Option (((List (List Int)) × Unit) × ((Bool × Unit) × Unit)) := spec_RoughAdd_pre fuel x.1.1 x.2.1.1 x.2.2.1.1
theorem spec_RoughAdd_run (fuel : Nat) (x : PsT spec_RoughAdd_ps) : run (spec_RoughAdd_T fuel) 0 (fuel + 6) spec_RoughAdd_c (env0 (svPs spec_RoughAdd_ps x) 0) [] (endF spec_RoughAdd_rv spec_RoughAdd_rs) = spec_RoughAdd_fn fuel x := by kernel_rfl
def spec_RoughAdd_tf (fuel : Nat) : TF := ⟨spec_RoughAdd_ps, spec_RoughAdd_rs, false, spec_RoughAdd_fn fuel⟩
theorem spec_RoughAdd_spec (fuel : Nat) : FnSpec Tryz.prog 108 (spec_RoughAdd_tf fuel) :=
  fn_spec (T := spec_RoughAdd_T fuel) (c := bodyOf Tryz.f108) (fn := Tryz.f108) (TabOK.of (entCons (spec_l6In_ok fuel) (entCons (spec_l1Sum_ok fuel) (entCons (spec_RoughOk_ok fuel) (entCons (spec_l1Copy_ok fuel) (entCons (spec_l1Place_ok fuel) entNil))))) (methNil)) mixed (by kernel_rfl) (by kernel_rfl) spec_RoughAdd_l (by kernel_rfl) (Nat.le_of_ble_eq_true (by kernel_rfl)) (rv := spec_RoughAdd_rv) (by kernel_rfl) (spec_RoughAdd_run fuel)
theorem spec_RoughAdd_ok (fuel : Nat) : EntryOK Tryz.prog 108 (spec_RoughAdd_tf fuel).te := EntryOK.tf rfl (spec_RoughAdd_spec fuel) (isFn (fn := Tryz.f108) (by kernel_rfl) (by kernel_rfl) (by kernel_rfl))
abbrev spec_l2Put_R := Option (((List Int) × Unit) × Unit)
def spec_l2Put_T (fuel : Nat) : Tab := Tab.of [] []
abbrev spec_l2Put_ps : List Pm := [{ cs := [(Kd.list I6, false)], ag := false }, { cs := [(I6, false)], ag := false }]
abbrev spec_l2Put_rs : List Pm := [{ cs := [(Kd.list I6, true)], ag := false }]
def spec_l2Put_ann : List Norm := [{ live := [7, 0, 6, 1, 5], fix := [(5, none, I6, true)] }]
noncomputable def spec_l2Put_c : C := irOf Tryz.prog Tryz.f147 [] spec_l2Put_ann []
theorem spec_l2Put_l : lightC Tryz.prog [] Tryz.f147.ntmps spec_l2Put_ann [] 0 (bodyOf Tryz.f147) = some (spec_l2Put_c, 1) := by kernel_rfl
def spec_l2Put_rv : List (Nat × Option (Nat × Bool)) := [(4, none)]
abbrev spec_l2Put_V0 := (Int) × (List Int) × (Bool) × (Int) × (List Int)
def spec_l2Put_enc0 (v : spec_l2Put_V0) : Env × Heap := ([(7, SV.int .i64 v.1), (0, SV.es I6 v.2.1), (6, SV.bool v.2.2.1), (1, SV.int .i64 v.2.2.2.1), (5, SV.own 0)], [Blk.arr I6 v.2.2.2.2 0])
def spec_l2Put_step0 (fuel : Nat) (g0 : spec_l2Put_V0 → spec_l2Put_R) (v : spec_l2Put_V0) : spec_l2Put_R :=
 cond (decide (v.1 < (zz (List.length v.2.1))))
 (cond (!v.2.2.1)
  (tst (decide (0 ≤ v.1)) <|
   tst (decide (v.1 < (zz (List.length v.2.1)))) <|
   cond (decide (List.getD v.2.1 (Int.toNat v.1) 0 ≥ v.2.2.2.1))
   (tst (decide (List.length v.2.2.2.2 + 1 < LIM)) <|
    tst (decide (0 ≤ v.1)) <|
    tst (decide (v.1 < (zz (List.length v.2.1)))) <|
    cond (List.getD v.2.1 (Int.toNat v.1) 0 != v.2.2.2.1)
    (tst (decide (0 ≤ v.1)) <|
     tst (decide (v.1 < (zz (List.length v.2.1)))) <|
     tst (decide (List.length (v.2.2.2.2 ++ [v.2.2.2.1]) + 1 < LIM)) <|
     g0 (w64 (v.1 + (1 : Int)), v.2.1, true, v.2.2.2.1, v.2.2.2.2 ++ [v.2.2.2.1] ++ [List.getD v.2.1 (Int.toNat v.1) 0]))
    (g0 (w64 (v.1 + (1 : Int)), v.2.1, true, v.2.2.2.1, v.2.2.2.2 ++ [v.2.2.2.1])))
   (tst (decide (0 ≤ v.1)) <|
    tst (decide (v.1 < (zz (List.length v.2.1)))) <|
    cond (List.getD v.2.1 (Int.toNat v.1) 0 != v.2.2.2.1)
    (tst (decide (0 ≤ v.1)) <|
     tst (decide (v.1 < (zz (List.length v.2.1)))) <|
     tst (decide (List.length v.2.2.2.2 + 1 < LIM)) <|
     g0 (w64 (v.1 + (1 : Int)), v.2.1, v.2.2.1, v.2.2.2.1, v.2.2.2.2 ++ [List.getD v.2.1 (Int.toNat v.1) 0]))
    (g0 (w64 (v.1 + (1 : Int)), v.2.1, v.2.2.1, v.2.2.2.1, v.2.2.2.2))))
  (tst (decide (0 ≤ v.1)) <|
   tst (decide (v.1 < (zz (List.length v.2.1)))) <|
   cond (List.getD v.2.1 (Int.toNat v.1) 0 != v.2.2.2.1)
   (tst (decide (0 ≤ v.1)) <|
    tst (decide (v.1 < (zz (List.length v.2.1)))) <|
    tst (decide (List.length v.2.2.2.2 + 1 < LIM)) <|
    g0 (w64 (v.1 + (1 : Int)), v.2.1, v.2.2.1, v.2.2.2.1, v.2.2.2.2 ++ [List.getD v.2.1 (Int.toNat v.1) 0]))
   (g0 (w64 (v.1 + (1 : Int)), v.2.1, v.2.2.1, v.2.2.2.1, v.2.2.2.2))))
 (cond (!v.2.2.1)
  (tst (decide (List.length v.2.2.2.2 + 1 < LIM)) <|
   tst (decide (0 ≤ if (6 : Int) < (zz (List.length (v.2.2.2.2 ++ [v.2.2.2.1]))) then (6 : Int) else (zz (List.length (v.2.2.2.2 ++ [v.2.2.2.1]))))) <|
   tst (decide ((if (6 : Int) < (zz (List.length (v.2.2.2.2 ++ [v.2.2.2.1]))) then (6 : Int) else (zz (List.length (v.2.2.2.2 ++ [v.2.2.2.1])))) ≤ (zz (List.length (v.2.2.2.2 ++ [v.2.2.2.1]))))) <|
   some (((List.take (Int.toNat (if (6 : Int) < (zz (List.length (v.2.2.2.2 ++ [v.2.2.2.1]))) then (6 : Int) else (zz (List.length (v.2.2.2.2 ++ [v.2.2.2.1])))) - 0) (List.drop 0 (v.2.2.2.2 ++ [v.2.2.2.1])), ()), ())))
  (tst (decide (0 ≤ if (6 : Int) < (zz (List.length v.2.2.2.2)) then (6 : Int) else (zz (List.length v.2.2.2.2)))) <|
   tst (decide ((if (6 : Int) < (zz (List.length v.2.2.2.2)) then (6 : Int) else (zz (List.length v.2.2.2.2))) ≤ (zz (List.length v.2.2.2.2)))) <|
   some (((List.take (Int.toNat (if (6 : Int) < (zz (List.length v.2.2.2.2)) then (6 : Int) else (zz (List.length v.2.2.2.2))) - 0) (List.drop 0 v.2.2.2.2), ()), ()))))
def spec_l2Put_st0 (fuel : Nat) (g0 : spec_l2Put_V0 → spec_l2Put_R) : spec_l2Put_V0 → spec_l2Put_R := spec_l2Put_step0 fuel g0
theorem spec_l2Put_lp0 (fuel : Nat) (G) : spec_l2Put_c.lp (spec_l2Put_T fuel) 0 fuel G (endF spec_l2Put_rv spec_l2Put_rs) 0 spec_l2Put_enc0 = iter (spec_l2Put_st0 fuel) fuel := C.lp_iter fun g v => by kernel_rfl
def spec_l2Put_pre (fuel : Nat) (X0 : spec_l2Put_V0 → spec_l2Put_R) (x0 : List Int) (x1 : Int) : spec_l2Put_R :=
 X0 ((0 : Int), x0, false, x1, [])
def spec_l2Put_fn (fuel : Nat) (x : (((List Int) × Unit) × ((Int × Unit) × Unit))) : spec_l2Put_R := spec_l2Put_pre fuel (iter (spec_l2Put_st0 fuel) fuel) x.1.1 x.2.1.1
theorem spec_l2Put_run (fuel : Nat) (x : PsT spec_l2Put_ps) : run (spec_l2Put_T fuel) 0 fuel spec_l2Put_c (env0 (svPs spec_l2Put_ps x) 0) [] (endF spec_l2Put_rv spec_l2Put_rs) = spec_l2Put_fn fuel x :=
  (show run (spec_l2Put_T fuel) 0 fuel spec_l2Put_c (env0 (svPs spec_l2Put_ps x) 0) [] (endF spec_l2Put_rv spec_l2Put_rs) = spec_l2Put_pre fuel (spec_l2Put_c.lp (spec_l2Put_T fuel) 0 fuel (fun _ _ _ => none) (endF spec_l2Put_rv spec_l2Put_rs) 0 spec_l2Put_enc0) x.1.1 x.2.1.1 by kernel_rfl).trans (by rw [spec_l2Put_lp0]; rfl)
def spec_l2Put_tf (fuel : Nat) : TF := ⟨spec_l2Put_ps, spec_l2Put_rs, true, spec_l2Put_fn fuel⟩
theorem spec_l2Put_spec (fuel : Nat) : FnSpec Tryz.prog 147 (spec_l2Put_tf fuel) :=
  fn_spec (T := spec_l2Put_T fuel) (c := bodyOf Tryz.f147) (fn := Tryz.f147) (TabOK.of (entNil) (methNil)) mixed (by kernel_rfl) (by kernel_rfl) spec_l2Put_l (by kernel_rfl) (Nat.le_of_ble_eq_true (by kernel_rfl)) (rv := spec_l2Put_rv) (by kernel_rfl) (spec_l2Put_run fuel)
theorem spec_l2Put_ok (fuel : Nat) : EntryOK Tryz.prog 147 (spec_l2Put_tf fuel).te := EntryOK.tf rfl (spec_l2Put_spec fuel) (isFn (fn := Tryz.f147) (by kernel_rfl) (by kernel_rfl) (by kernel_rfl))
def spec_FewMark_T (fuel : Nat) : Tab := Tab.of [(107, (spec_l6In_tf fuel).te)] []
abbrev spec_FewMark_ps : List Pm := [{ cs := [(I6, false)], ag := false }]
abbrev spec_FewMark_rs : List Pm := [{ cs := [(I6, false)], ag := false }]
def spec_FewMark_ann : List Norm := []
noncomputable def spec_FewMark_c : C := irOf Tryz.prog Tryz.f159 [] spec_FewMark_ann []
theorem spec_FewMark_l : lightC Tryz.prog [] Tryz.f159.ntmps spec_FewMark_ann [] 0 (bodyOf Tryz.f159) = some (spec_FewMark_c, 0) := by kernel_rfl
def spec_FewMark_rv : List (Nat × Option (Nat × Bool)) := [(2, none)]
def spec_FewMark_pre (fuel : Nat) (x0 : Int) : Option ((Int × Unit) × Unit) :=
 Option.bind (spec_l6In_fn fuel ((x0, ()), ((0 : Int), ()), ((63 : Int), ()), ())) fun y_1 =>
 cond (!y_1.1.1)
  (some ((((-1 : Int), ()), ())))
  (some (((Int.tmod (w64 (w64 (x0 * (37 : Int)) + (11 : Int))) (64 : Int), ()), ())))
def spec_FewMark_fn (fuel : Nat) (x : ((Int × Unit) × Unit)) : Option ((Int × Unit) × Unit) := spec_FewMark_pre fuel x.1.1
theorem spec_FewMark_run (fuel : Nat) (x : PsT spec_FewMark_ps) : run (spec_FewMark_T fuel) 0 fuel spec_FewMark_c (env0 (svPs spec_FewMark_ps x) 0) [] (endF spec_FewMark_rv spec_FewMark_rs) = spec_FewMark_fn fuel x := by kernel_rfl
def spec_FewMark_tf (fuel : Nat) : TF := ⟨spec_FewMark_ps, spec_FewMark_rs, true, spec_FewMark_fn fuel⟩
theorem spec_FewMark_spec (fuel : Nat) : FnSpec Tryz.prog 159 (spec_FewMark_tf fuel) :=
  fn_spec (T := spec_FewMark_T fuel) (c := bodyOf Tryz.f159) (fn := Tryz.f159) (TabOK.of (entCons (spec_l6In_ok fuel) entNil) (methNil)) mixed (by kernel_rfl) (by kernel_rfl) spec_FewMark_l (by kernel_rfl) (Nat.le_of_ble_eq_true (by kernel_rfl)) (rv := spec_FewMark_rv) (by kernel_rfl) (spec_FewMark_run fuel)
theorem spec_FewMark_ok (fuel : Nat) : EntryOK Tryz.prog 159 (spec_FewMark_tf fuel).te := EntryOK.tf rfl (spec_FewMark_spec fuel) (isFn (fn := Tryz.f159) (by kernel_rfl) (by kernel_rfl) (by kernel_rfl))
def spec_FewAdd_T (fuel : Nat) : Tab := Tab.of [(107, (spec_l6In_tf fuel).te), (142, (spec_FewOk_tf fuel).te), (147, (spec_l2Put_tf fuel).te), (159, (spec_FewMark_tf fuel).te)] []
abbrev spec_FewAdd_ps : List Pm := [{ cs := [(Kd.list I6, false)], ag := true }, { cs := [(I6, false)], ag := false }]
abbrev spec_FewAdd_rs : List Pm := [{ cs := [(Kd.list I6, true)], ag := true }, { cs := [(Kd.bool, false)], ag := false }]
def spec_FewAdd_ann : List Norm := []
noncomputable def spec_FewAdd_c : C := irOf Tryz.prog Tryz.f109 [] spec_FewAdd_ann []
theorem spec_FewAdd_l : lightC Tryz.prog [] Tryz.f109.ntmps spec_FewAdd_ann [] 0 (bodyOf Tryz.f109) = some (spec_FewAdd_c, 0) := by kernel_rfl
def spec_FewAdd_rv : List (Nat × Option (Nat × Bool)) := [(4, some (1, true)), (5, none)]
def spec_FewAdd_pre (fuel : Nat) (x0 : List Int) (x1 : Int) : Option (((List Int) × Unit) × ((Bool × Unit) × Unit)) :=
 Option.bind (spec_FewOk_fn fuel ((x0, ()), ())) fun y_1 =>
 cond (!y_1.1.1)
  (some ((([], ()), (false, ()), ())))
  (Option.bind (spec_l6In_fn fuel ((x1, ()), ((0 : Int), ()), ((63 : Int), ()), ())) fun y_3 =>
   cond (!y_3.1.1)
    (some ((([], ()), (false, ()), ())))
    (Option.bind (spec_FewMark_fn fuel ((x1, ()), ())) fun y_5 =>
     Option.bind (spec_l2Put_fn fuel ((x0, ()), (y_5.1.1, ()), ())) fun y_6 =>
      some (((y_6.1.1, ()), (true, ()), ()))))
def spec_FewAdd_fn (fuel : Nat) (x : (((List Int) × Unit) × ((Int × Unit) × Unit))) : Option (((List Int) × Unit) × ((Bool × Unit) × Unit)) := spec_FewAdd_pre fuel x.1.1 x.2.1.1
theorem spec_FewAdd_run (fuel : Nat) (x : PsT spec_FewAdd_ps) : run (spec_FewAdd_T fuel) 0 fuel spec_FewAdd_c (env0 (svPs spec_FewAdd_ps x) 0) [] (endF spec_FewAdd_rv spec_FewAdd_rs) = spec_FewAdd_fn fuel x := by kernel_rfl
def spec_FewAdd_tf (fuel : Nat) : TF := ⟨spec_FewAdd_ps, spec_FewAdd_rs, true, spec_FewAdd_fn fuel⟩
theorem spec_FewAdd_spec (fuel : Nat) : FnSpec Tryz.prog 109 (spec_FewAdd_tf fuel) :=
  fn_spec (T := spec_FewAdd_T fuel) (c := bodyOf Tryz.f109) (fn := Tryz.f109) (TabOK.of (entCons (spec_l6In_ok fuel) (entCons (spec_FewOk_ok fuel) (entCons (spec_l2Put_ok fuel) (entCons (spec_FewMark_ok fuel) entNil)))) (methNil)) mixed (by kernel_rfl) (by kernel_rfl) spec_FewAdd_l (by kernel_rfl) (Nat.le_of_ble_eq_true (by kernel_rfl)) (rv := spec_FewAdd_rv) (by kernel_rfl) (spec_FewAdd_run fuel)
theorem spec_FewAdd_ok (fuel : Nat) : EntryOK Tryz.prog 109 (spec_FewAdd_tf fuel).te := EntryOK.tf rfl (spec_FewAdd_spec fuel) (isFn (fn := Tryz.f109) (by kernel_rfl) (by kernel_rfl) (by kernel_rfl))
abbrev spec_l3Put_R := Option ((LP × Unit) × Unit)
def spec_l3Put_T (fuel : Nat) : Tab := Tab.of [] []
abbrev spec_l3Put_ps : List Pm := [{ cs := [(Kd.list KP, false)], ag := false }, { cs := [(I6, false), (I6, false)], ag := true }]
abbrev spec_l3Put_rs : List Pm := [{ cs := [(Kd.list KP, true)], ag := false }]
def spec_l3Put_ann : List Norm := [{ live := [7, 0, 6, 3, 5], fix := [(5, none, KP, true)] }]
noncomputable def spec_l3Put_c : C := irOf Tryz.prog Tryz.f148 [] spec_l3Put_ann []
theorem spec_l3Put_l : lightC Tryz.prog [] Tryz.f148.ntmps spec_l3Put_ann [] 0 (bodyOf Tryz.f148) = some (spec_l3Put_c, 1) := by kernel_rfl
def spec_l3Put_rv : List (Nat × Option (Nat × Bool)) := [(4, none)]
abbrev spec_l3Put_V0 := (Int) × LP × (Bool) × (Int) × (Int) × LP
def spec_l3Put_enc0 (v : spec_l3Put_V0) : Env × Heap := ([(7, SV.int .i64 v.1), (0, SV.es KP v.2.1), (6, SV.bool v.2.2.1), (3, SV.ptr 0 0), (5, SV.own 1)], [Blk.cells [SV.int .i64 v.2.2.2.1, SV.int .i64 v.2.2.2.2.1] 0 2, Blk.arr KP v.2.2.2.2.2 0])
def spec_l3Put_step0 (fuel : Nat) (g0 : spec_l3Put_V0 → spec_l3Put_R) (v : spec_l3Put_V0) : spec_l3Put_R :=
 cond (decide (v.1 < (zz (List.length v.2.1))))
 (cond (!v.2.2.1)
  (tst (decide (0 ≤ v.1)) <|
   tst (decide (v.1 < (zz (List.length v.2.1)))) <|
   cond (decide ((List.getD v.2.1 (Int.toNat v.1) (0, (0, ()))).1 ≥ v.2.2.2.1))
   (tst (decide (0 ≤ v.1)) <|
    tst (decide (v.1 < (zz (List.length v.2.1)))) <|
    cond ((List.getD v.2.1 (Int.toNat v.1) (0, (0, ()))).1 == v.2.2.2.1)
    (tst (decide (0 ≤ v.1)) <|
     tst (decide (v.1 < (zz (List.length v.2.1)))) <|
     tst (decide (List.length v.2.2.2.2.2 + 1 < LIM)) <|
     g0 (w64 (v.1 + (1 : Int)), v.2.1, true, v.2.2.2.1, v.2.2.2.2.1, v.2.2.2.2.2 ++ [(v.2.2.2.1, w64 (v.2.2.2.2.1 + (List.getD v.2.1 (Int.toNat v.1) (0, (0, ()))).2.1), ())]))
    (tst (decide (List.length v.2.2.2.2.2 + 1 < LIM)) <|
     tst (decide (0 ≤ v.1)) <|
     tst (decide (v.1 < (zz (List.length v.2.1)))) <|
     tst (decide (List.length (v.2.2.2.2.2 ++ [(v.2.2.2.1, v.2.2.2.2.1, ())]) + 1 < LIM)) <|
     g0 (w64 (v.1 + (1 : Int)), v.2.1, true, v.2.2.2.1, v.2.2.2.2.1, v.2.2.2.2.2 ++ [(v.2.2.2.1, v.2.2.2.2.1, ())] ++ [((List.getD v.2.1 (Int.toNat v.1) (0, (0, ()))).1, (List.getD v.2.1 (Int.toNat v.1) (0, (0, ()))).2.1, ())])))
   (tst (decide (0 ≤ v.1)) <|
    tst (decide (v.1 < (zz (List.length v.2.1)))) <|
    tst (decide (List.length v.2.2.2.2.2 + 1 < LIM)) <|
    g0 (w64 (v.1 + (1 : Int)), v.2.1, v.2.2.1, v.2.2.2.1, v.2.2.2.2.1, v.2.2.2.2.2 ++ [((List.getD v.2.1 (Int.toNat v.1) (0, (0, ()))).1, (List.getD v.2.1 (Int.toNat v.1) (0, (0, ()))).2.1, ())])))
  (tst (decide (0 ≤ v.1)) <|
   tst (decide (v.1 < (zz (List.length v.2.1)))) <|
   tst (decide (List.length v.2.2.2.2.2 + 1 < LIM)) <|
   g0 (w64 (v.1 + (1 : Int)), v.2.1, v.2.2.1, v.2.2.2.1, v.2.2.2.2.1, v.2.2.2.2.2 ++ [((List.getD v.2.1 (Int.toNat v.1) (0, (0, ()))).1, (List.getD v.2.1 (Int.toNat v.1) (0, (0, ()))).2.1, ())])))
 (cond (!v.2.2.1)
  (tst (decide (List.length v.2.2.2.2.2 + 1 < LIM)) <|
   some (((v.2.2.2.2.2 ++ [(v.2.2.2.1, v.2.2.2.2.1, ())], ()), ())))
  (some (((v.2.2.2.2.2, ()), ()))))
def spec_l3Put_st0 (fuel : Nat) (g0 : spec_l3Put_V0 → spec_l3Put_R) : spec_l3Put_V0 → spec_l3Put_R := spec_l3Put_step0 fuel g0
theorem spec_l3Put_lp0 (fuel : Nat) (G) : spec_l3Put_c.lp (spec_l3Put_T fuel) 0 fuel G (endF spec_l3Put_rv spec_l3Put_rs) 0 spec_l3Put_enc0 = iter (spec_l3Put_st0 fuel) fuel := C.lp_iter fun g v => by kernel_rfl
def spec_l3Put_pre (fuel : Nat) (X0 : spec_l3Put_V0 → spec_l3Put_R) (x0 : LP) (x1 : Int) (x2 : Int) : spec_l3Put_R :=
 X0 ((0 : Int), x0, false, x1, x2, [])
def spec_l3Put_fn (fuel : Nat) (x : ((LP × Unit) × ((Int × (Int × Unit)) × Unit))) : spec_l3Put_R := spec_l3Put_pre fuel (iter (spec_l3Put_st0 fuel) fuel) x.1.1 x.2.1.1 x.2.1.2.1
theorem spec_l3Put_run (fuel : Nat) (x : PsT spec_l3Put_ps) : run (spec_l3Put_T fuel) 0 fuel spec_l3Put_c (env0 (svPs spec_l3Put_ps x) 0) [] (endF spec_l3Put_rv spec_l3Put_rs) = spec_l3Put_fn fuel x :=
  (show run (spec_l3Put_T fuel) 0 fuel spec_l3Put_c (env0 (svPs spec_l3Put_ps x) 0) [] (endF spec_l3Put_rv spec_l3Put_rs) = spec_l3Put_pre fuel (spec_l3Put_c.lp (spec_l3Put_T fuel) 0 fuel (fun _ _ _ => none) (endF spec_l3Put_rv spec_l3Put_rs) 0 spec_l3Put_enc0) x.1.1 x.2.1.1 x.2.1.2.1 by kernel_rfl).trans (by rw [spec_l3Put_lp0]; rfl)
def spec_l3Put_tf (fuel : Nat) : TF := ⟨spec_l3Put_ps, spec_l3Put_rs, true, spec_l3Put_fn fuel⟩
theorem spec_l3Put_spec (fuel : Nat) : FnSpec Tryz.prog 148 (spec_l3Put_tf fuel) :=
  fn_spec (T := spec_l3Put_T fuel) (c := bodyOf Tryz.f148) (fn := Tryz.f148) (TabOK.of (entNil) (methNil)) mixed (by kernel_rfl) (by kernel_rfl) spec_l3Put_l (by kernel_rfl) (Nat.le_of_ble_eq_true (by kernel_rfl)) (rv := spec_l3Put_rv) (by kernel_rfl) (spec_l3Put_run fuel)
theorem spec_l3Put_ok (fuel : Nat) : EntryOK Tryz.prog 148 (spec_l3Put_tf fuel).te := EntryOK.tf rfl (spec_l3Put_spec fuel) (isFn (fn := Tryz.f148) (by kernel_rfl) (by kernel_rfl) (by kernel_rfl))
def spec_l3Over_T (fuel : Nat) : Tab := Tab.of [] []
abbrev spec_l3Over_ps : List Pm := [{ cs := [(Kd.list KP, false)], ag := false }]
abbrev spec_l3Over_rs : List Pm := [{ cs := [(I6, false)], ag := false }]
def spec_l3Over_ann : List Norm := [{ live := [4, 0, 3], fix := [] }, { live := [6, 0, 4, 5, 3], fix := [] }]
noncomputable def spec_l3Over_c : C := irOf Tryz.prog Tryz.f186 [] spec_l3Over_ann []
theorem spec_l3Over_l : lightC Tryz.prog [] Tryz.f186.ntmps spec_l3Over_ann [] 0 (bodyOf Tryz.f186) = some (spec_l3Over_c, 2) := by kernel_rfl
def spec_l3Over_rv : List (Nat × Option (Nat × Bool)) := [(2, none)]
abbrev spec_l3Over_V0 := (Int) × LP × (Int)
abbrev spec_l3Over_V1 := (Int) × LP × (Int) × (Int) × (Int)
def spec_l3Over_enc0 (v : spec_l3Over_V0) : Env × Heap := ([(4, SV.int .i64 v.1), (0, SV.es KP v.2.1), (3, SV.int .i64 v.2.2)], [])
def spec_l3Over_enc1 (v : spec_l3Over_V1) : Env × Heap := ([(6, SV.int .i64 v.1), (0, SV.es KP v.2.1), (4, SV.int .i64 v.2.2.1), (5, SV.int .i64 v.2.2.2.1), (3, SV.int .i64 v.2.2.2.2)], [])
def spec_l3Over_step1 (fuel : Nat) (g0 : spec_l3Over_V0 → Option ((Int × Unit) × Unit)) (g1 : spec_l3Over_V1 → Option ((Int × Unit) × Unit)) (v : spec_l3Over_V1) : Option ((Int × Unit) × Unit) :=
 cond (decide (v.1 < (zz (List.length v.2.1))))
 (tst (decide (0 ≤ v.1)) <|
  tst (decide (v.1 < (zz (List.length v.2.1)))) <|
  tst (decide (0 ≤ v.2.2.1)) <|
  tst (decide (v.2.2.1 < (zz (List.length v.2.1)))) <|
  cond (decide ((List.getD v.2.1 (Int.toNat v.1) (0, (0, ()))).2.1 ≥ (List.getD v.2.1 (Int.toNat v.2.2.1) (0, (0, ()))).2.1))
  (g1 (w64 (v.1 + (1 : Int)), v.2.1, v.2.2.1, w64 (v.2.2.2.1 + (1 : Int)), v.2.2.2.2))
  (g1 (w64 (v.1 + (1 : Int)), v.2.1, v.2.2.1, v.2.2.2.1, v.2.2.2.2)))
 (cond (decide (v.2.2.2.1 > (4 : Int)))
  (tst (decide (0 ≤ v.2.2.1)) <|
   tst (decide (v.2.2.1 < (zz (List.length v.2.1)))) <|
   g0 (w64 (v.2.2.1 + (1 : Int)), v.2.1, if (List.getD v.2.1 (Int.toNat v.2.2.1) (0, (0, ()))).2.1 > v.2.2.2.2 then (List.getD v.2.1 (Int.toNat v.2.2.1) (0, (0, ()))).2.1 else v.2.2.2.2))
  (g0 (w64 (v.2.2.1 + (1 : Int)), v.2.1, v.2.2.2.2)))
def spec_l3Over_st1 (fuel : Nat) (g0 : spec_l3Over_V0 → Option ((Int × Unit) × Unit)) (g1 : spec_l3Over_V1 → Option ((Int × Unit) × Unit)) : spec_l3Over_V1 → Option ((Int × Unit) × Unit) := spec_l3Over_step1 fuel g0 g1
theorem spec_l3Over_lp1 (fuel : Nat) (G) : spec_l3Over_c.lp (spec_l3Over_T fuel) 0 fuel G (endF spec_l3Over_rv spec_l3Over_rs) 1 spec_l3Over_enc1 = iter (spec_l3Over_st1 fuel (fun v => G 0 (spec_l3Over_enc0 v).1 (spec_l3Over_enc0 v).2)) fuel := C.lp_iter fun g v =>
  (show run (spec_l3Over_T fuel) 0 fuel (spec_l3Over_c.bdAt 1) (spec_l3Over_enc1 v).1 (spec_l3Over_enc1 v).2 (loopK 0 (spec_l3Over_c.nmAt 1) g (spec_l3Over_c.contAt (spec_l3Over_T fuel) 0 fuel G 0 1 (endF spec_l3Over_rv spec_l3Over_rs))) = spec_l3Over_step1 fuel (fun v => G 0 (spec_l3Over_enc0 v).1 (spec_l3Over_enc0 v).2) (fun v => g (spec_l3Over_enc1 v).1 (spec_l3Over_enc1 v).2) v by kernel_rfl)
def spec_l3Over_step0 (fuel : Nat) (X1 : spec_l3Over_V1 → Option ((Int × Unit) × Unit)) (g0 : spec_l3Over_V0 → Option ((Int × Unit) × Unit)) (v : spec_l3Over_V0) : Option ((Int × Unit) × Unit) :=
 cond (decide (v.1 < (zz (List.length v.2.1))))
 (X1 ((0 : Int), v.2.1, v.1, (0 : Int), v.2.2))
 (some (((v.2.2, ()), ())))
def spec_l3Over_st0 (fuel : Nat) (g0 : spec_l3Over_V0 → Option ((Int × Unit) × Unit)) : spec_l3Over_V0 → Option ((Int × Unit) × Unit) := spec_l3Over_step0 fuel (iter (spec_l3Over_st1 fuel g0) fuel) g0
theorem spec_l3Over_lp0 (fuel : Nat) (G) : spec_l3Over_c.lp (spec_l3Over_T fuel) 0 fuel G (endF spec_l3Over_rv spec_l3Over_rs) 0 spec_l3Over_enc0 = iter (spec_l3Over_st0 fuel) fuel := C.lp_iter fun g v =>
  (show run (spec_l3Over_T fuel) 0 fuel (spec_l3Over_c.bdAt 0) (spec_l3Over_enc0 v).1 (spec_l3Over_enc0 v).2 (loopK 0 (spec_l3Over_c.nmAt 0) g (spec_l3Over_c.contAt (spec_l3Over_T fuel) 0 fuel G 0 0 (endF spec_l3Over_rv spec_l3Over_rs))) = spec_l3Over_step0 fuel (spec_l3Over_c.lp (spec_l3Over_T fuel) 0 fuel (fun m => bif Nat.beq m 0 then g else G m) (endF spec_l3Over_rv spec_l3Over_rs) 1 spec_l3Over_enc1) (fun v => g (spec_l3Over_enc0 v).1 (spec_l3Over_enc0 v).2) v by kernel_rfl).trans (by rw [spec_l3Over_lp1]; rfl)
def spec_l3Over_pre (fuel : Nat) (X0 : spec_l3Over_V0 → Option ((Int × Unit) × Unit)) (x0 : LP) : Option ((Int × Unit) × Unit) :=
 X0 ((0 : Int), x0, (0 : Int))
def spec_l3Over_fn (fuel : Nat) (x : ((LP × Unit) × Unit)) : Option ((Int × Unit) × Unit) := spec_l3Over_pre fuel (iter (spec_l3Over_st0 fuel) fuel) x.1.1
theorem spec_l3Over_run (fuel : Nat) (x : PsT spec_l3Over_ps) : run (spec_l3Over_T fuel) 0 fuel spec_l3Over_c (env0 (svPs spec_l3Over_ps x) 0) [] (endF spec_l3Over_rv spec_l3Over_rs) = spec_l3Over_fn fuel x :=
  (show run (spec_l3Over_T fuel) 0 fuel spec_l3Over_c (env0 (svPs spec_l3Over_ps x) 0) [] (endF spec_l3Over_rv spec_l3Over_rs) = spec_l3Over_pre fuel (spec_l3Over_c.lp (spec_l3Over_T fuel) 0 fuel (fun _ _ _ => none) (endF spec_l3Over_rv spec_l3Over_rs) 0 spec_l3Over_enc0) x.1.1 by kernel_rfl).trans (by rw [spec_l3Over_lp0]; rfl)
def spec_l3Over_tf (fuel : Nat) : TF := ⟨spec_l3Over_ps, spec_l3Over_rs, true, spec_l3Over_fn fuel⟩
theorem spec_l3Over_spec (fuel : Nat) : FnSpec Tryz.prog 186 (spec_l3Over_tf fuel) :=
  fn_spec (T := spec_l3Over_T fuel) (c := bodyOf Tryz.f186) (fn := Tryz.f186) (TabOK.of (entNil) (methNil)) mixed (by kernel_rfl) (by kernel_rfl) spec_l3Over_l (by kernel_rfl) (Nat.le_of_ble_eq_true (by kernel_rfl)) (rv := spec_l3Over_rv) (by kernel_rfl) (spec_l3Over_run fuel)
theorem spec_l3Over_ok (fuel : Nat) : EntryOK Tryz.prog 186 (spec_l3Over_tf fuel).te := EntryOK.tf rfl (spec_l3Over_spec fuel) (isFn (fn := Tryz.f186) (by kernel_rfl) (by kernel_rfl) (by kernel_rfl))
abbrev spec_l3Less_R := Option ((LP × Unit) × Unit)
def spec_l3Less_T (fuel : Nat) : Tab := Tab.of [] []
abbrev spec_l3Less_ps : List Pm := [{ cs := [(Kd.list KP, false)], ag := false }, { cs := [(I6, false)], ag := false }]
abbrev spec_l3Less_rs : List Pm := [{ cs := [(Kd.list KP, true)], ag := false }]
def spec_l3Less_ann : List Norm := [{ live := [6, 0, 1, 5], fix := [(5, none, KP, true)] }]
noncomputable def spec_l3Less_c : C := irOf Tryz.prog Tryz.f187 [] spec_l3Less_ann []
theorem spec_l3Less_l : lightC Tryz.prog [] Tryz.f187.ntmps spec_l3Less_ann [] 0 (bodyOf Tryz.f187) = some (spec_l3Less_c, 1) := by kernel_rfl
def spec_l3Less_rv : List (Nat × Option (Nat × Bool)) := [(4, none)]
abbrev spec_l3Less_V0 := (Int) × LP × (Int) × LP
def spec_l3Less_enc0 (v : spec_l3Less_V0) : Env × Heap := ([(6, SV.int .i64 v.1), (0, SV.es KP v.2.1), (1, SV.int .i64 v.2.2.1), (5, SV.own 0)], [Blk.arr KP v.2.2.2 0])
def spec_l3Less_step0 (fuel : Nat) (g0 : spec_l3Less_V0 → spec_l3Less_R) (v : spec_l3Less_V0) : spec_l3Less_R :=
 cond (decide (v.1 < (zz (List.length v.2.1))))
 (tst (decide (0 ≤ v.1)) <|
  tst (decide (v.1 < (zz (List.length v.2.1)))) <|
  cond (decide ((List.getD v.2.1 (Int.toNat v.1) (0, (0, ()))).2.1 > v.2.2.1))
  (tst (decide (0 ≤ v.1)) <|
   tst (decide (v.1 < (zz (List.length v.2.1)))) <|
   tst (decide (0 ≤ v.1)) <|
   tst (decide (v.1 < (zz (List.length v.2.1)))) <|
   tst (decide (List.length v.2.2.2 + 1 < LIM)) <|
   g0 (w64 (v.1 + (1 : Int)), v.2.1, v.2.2.1, v.2.2.2 ++ [((List.getD v.2.1 (Int.toNat v.1) (0, (0, ()))).1, w64 ((List.getD v.2.1 (Int.toNat v.1) (0, (0, ()))).2.1 - v.2.2.1), ())]))
  (g0 (w64 (v.1 + (1 : Int)), v.2.1, v.2.2.1, v.2.2.2)))
 (some (((v.2.2.2, ()), ())))
def spec_l3Less_st0 (fuel : Nat) (g0 : spec_l3Less_V0 → spec_l3Less_R) : spec_l3Less_V0 → spec_l3Less_R := spec_l3Less_step0 fuel g0
theorem spec_l3Less_lp0 (fuel : Nat) (G) : spec_l3Less_c.lp (spec_l3Less_T fuel) 0 fuel G (endF spec_l3Less_rv spec_l3Less_rs) 0 spec_l3Less_enc0 = iter (spec_l3Less_st0 fuel) fuel := C.lp_iter fun g v => by kernel_rfl
def spec_l3Less_pre (fuel : Nat) (X0 : spec_l3Less_V0 → spec_l3Less_R) (x0 : LP) (x1 : Int) : spec_l3Less_R :=
 X0 ((0 : Int), x0, x1, [])
def spec_l3Less_fn (fuel : Nat) (x : ((LP × Unit) × ((Int × Unit) × Unit))) : spec_l3Less_R := spec_l3Less_pre fuel (iter (spec_l3Less_st0 fuel) fuel) x.1.1 x.2.1.1
theorem spec_l3Less_run (fuel : Nat) (x : PsT spec_l3Less_ps) : run (spec_l3Less_T fuel) 0 fuel spec_l3Less_c (env0 (svPs spec_l3Less_ps x) 0) [] (endF spec_l3Less_rv spec_l3Less_rs) = spec_l3Less_fn fuel x :=
  (show run (spec_l3Less_T fuel) 0 fuel spec_l3Less_c (env0 (svPs spec_l3Less_ps x) 0) [] (endF spec_l3Less_rv spec_l3Less_rs) = spec_l3Less_pre fuel (spec_l3Less_c.lp (spec_l3Less_T fuel) 0 fuel (fun _ _ _ => none) (endF spec_l3Less_rv spec_l3Less_rs) 0 spec_l3Less_enc0) x.1.1 x.2.1.1 by kernel_rfl).trans (by rw [spec_l3Less_lp0]; rfl)
def spec_l3Less_tf (fuel : Nat) : TF := ⟨spec_l3Less_ps, spec_l3Less_rs, true, spec_l3Less_fn fuel⟩
theorem spec_l3Less_spec (fuel : Nat) : FnSpec Tryz.prog 187 (spec_l3Less_tf fuel) :=
  fn_spec (T := spec_l3Less_T fuel) (c := bodyOf Tryz.f187) (fn := Tryz.f187) (TabOK.of (entNil) (methNil)) mixed (by kernel_rfl) (by kernel_rfl) spec_l3Less_l (by kernel_rfl) (Nat.le_of_ble_eq_true (by kernel_rfl)) (rv := spec_l3Less_rv) (by kernel_rfl) (spec_l3Less_run fuel)
theorem spec_l3Less_ok (fuel : Nat) : EntryOK Tryz.prog 187 (spec_l3Less_tf fuel).te := EntryOK.tf rfl (spec_l3Less_spec fuel) (isFn (fn := Tryz.f187) (by kernel_rfl) (by kernel_rfl) (by kernel_rfl))
def spec_l3Cut_T (fuel : Nat) : Tab := Tab.of [(186, (spec_l3Over_tf fuel).te), (187, (spec_l3Less_tf fuel).te)] []
abbrev spec_l3Cut_ps : List Pm := [{ cs := [(Kd.list KP, false), (I6, false), (I6, false)], ag := true }]
abbrev spec_l3Cut_rs : List Pm := [{ cs := [(Kd.list KP, true), (I6, false), (I6, false)], ag := true }]
def spec_l3Cut_ann : List Norm := []
noncomputable def spec_l3Cut_c : C := irOf Tryz.prog Tryz.f149 [] spec_l3Cut_ann []
theorem spec_l3Cut_l : lightC Tryz.prog [] Tryz.f149.ntmps spec_l3Cut_ann [] 0 (bodyOf Tryz.f149) = some (spec_l3Cut_c, 0) := by kernel_rfl
def spec_l3Cut_rv : List (Nat × Option (Nat × Bool)) := [(2, some (3, true))]
def spec_l3Cut_pre (fuel : Nat) (x0 : LP) (x1 : Int) (x2 : Int) : Option ((LP × (Int × (Int × Unit))) × Unit) :=
 Option.bind (spec_l3Over_fn fuel ((x0, ()), ())) fun y_1 =>
 Option.bind (spec_l3Less_fn fuel ((x0, ()), (y_1.1.1, ()), ())) fun y_2 =>
  some (((y_2.1.1, w64 (x1 + y_1.1.1), x2, ()), ()))
def spec_l3Cut_fn (fuel : Nat) (x : ((LP × (Int × (Int × Unit))) × Unit)) : Option ((LP × (Int × (Int × Unit))) × Unit) := spec_l3Cut_pre fuel x.1.1 x.1.2.1 x.1.2.2.1
theorem spec_l3Cut_run (fuel : Nat) (x : PsT spec_l3Cut_ps) : run (spec_l3Cut_T fuel) 0 fuel spec_l3Cut_c (env0 (svPs spec_l3Cut_ps x) 0) [] (endF spec_l3Cut_rv spec_l3Cut_rs) = spec_l3Cut_fn fuel x := by kernel_rfl
def spec_l3Cut_tf (fuel : Nat) : TF := ⟨spec_l3Cut_ps, spec_l3Cut_rs, true, spec_l3Cut_fn fuel⟩
theorem spec_l3Cut_spec (fuel : Nat) : FnSpec Tryz.prog 149 (spec_l3Cut_tf fuel) :=
  fn_spec (T := spec_l3Cut_T fuel) (c := bodyOf Tryz.f149) (fn := Tryz.f149) (TabOK.of (entCons (spec_l3Over_ok fuel) (entCons (spec_l3Less_ok fuel) entNil)) (methNil)) mixed (by kernel_rfl) (by kernel_rfl) spec_l3Cut_l (by kernel_rfl) (Nat.le_of_ble_eq_true (by kernel_rfl)) (rv := spec_l3Cut_rv) (by kernel_rfl) (spec_l3Cut_run fuel)
theorem spec_l3Cut_ok (fuel : Nat) : EntryOK Tryz.prog 149 (spec_l3Cut_tf fuel).te := EntryOK.tf rfl (spec_l3Cut_spec fuel) (isFn (fn := Tryz.f149) (by kernel_rfl) (by kernel_rfl) (by kernel_rfl))
def spec_TopAdd_T (fuel : Nat) : Tab := Tab.of [(107, (spec_l6In_tf fuel).te), (143, (spec_TopOk_tf fuel).te), (148, (spec_l3Put_tf fuel).te), (149, (spec_l3Cut_tf fuel).te)] []
abbrev spec_TopAdd_ps : List Pm := [{ cs := [(Kd.list KP, false), (I6, false), (I6, false)], ag := true }, { cs := [(I6, false)], ag := false }]
abbrev spec_TopAdd_rs : List Pm := [{ cs := [(Kd.list KP, true), (I6, false), (I6, false)], ag := true }, { cs := [(Kd.bool, false)], ag := false }]
def spec_TopAdd_ann : List Norm := []
noncomputable def spec_TopAdd_c : C := irOf Tryz.prog Tryz.f110 [] spec_TopAdd_ann []
theorem spec_TopAdd_l : lightC Tryz.prog [] Tryz.f110.ntmps spec_TopAdd_ann [] 0 (bodyOf Tryz.f110) = some (spec_TopAdd_c, 0) := by kernel_rfl
def spec_TopAdd_rv : List (Nat × Option (Nat × Bool)) := [(4, some (3, true)), (5, none)]
def spec_TopAdd_pre (fuel : Nat) (x0 : LP) (x1 : Int) (x2 : Int) (x3 : Int) : Option ((LP × (Int × (Int × Unit))) × ((Bool × Unit) × Unit)) :=
 Option.bind (spec_TopOk_fn fuel ((x0, x1, x2, ()), ())) fun y_1 =>
 cond (!y_1.1.1)
  (some ((([], (0 : Int), (0 : Int), ()), (false, ()), ())))
  (Option.bind (spec_l6In_fn fuel ((x3, ()), ((0 : Int), ()), ((63 : Int), ()), ())) fun y_3 =>
   cond (!y_3.1.1)
    (some ((([], (0 : Int), (0 : Int), ()), (false, ()), ())))
    (cond (decide (x2 ≥ (2000 : Int)))
     (some ((([], (0 : Int), (0 : Int), ()), (false, ()), ())))
     (Option.bind (spec_l3Put_fn fuel ((x0, ()), (x3, (1 : Int), ()), ())) fun y_6 =>
      Option.bind (spec_l3Cut_fn fuel ((y_6.1.1, x1, w64 (x2 + (1 : Int)), ()), ())) fun y_7 =>
       some (((y_7.1.1, y_7.1.2.1, y_7.1.2.2.1, ()), (true, ()), ())))))
def spec_TopAdd_fn (fuel : Nat) (x : ((LP × (Int × (Int × Unit))) × ((Int × Unit) × Unit))) : Option ((LP × (Int × (Int × Unit))) × ((Bool × Unit) × Unit)) := spec_TopAdd_pre fuel x.1.1 x.1.2.1 x.1.2.2.1 x.2.1.1
theorem spec_TopAdd_run (fuel : Nat) (x : PsT spec_TopAdd_ps) : run (spec_TopAdd_T fuel) 0 fuel spec_TopAdd_c (env0 (svPs spec_TopAdd_ps x) 0) [] (endF spec_TopAdd_rv spec_TopAdd_rs) = spec_TopAdd_fn fuel x := by kernel_rfl
def spec_TopAdd_tf (fuel : Nat) : TF := ⟨spec_TopAdd_ps, spec_TopAdd_rs, true, spec_TopAdd_fn fuel⟩
theorem spec_TopAdd_spec (fuel : Nat) : FnSpec Tryz.prog 110 (spec_TopAdd_tf fuel) :=
  fn_spec (T := spec_TopAdd_T fuel) (c := bodyOf Tryz.f110) (fn := Tryz.f110) (TabOK.of (entCons (spec_l6In_ok fuel) (entCons (spec_TopOk_ok fuel) (entCons (spec_l3Put_ok fuel) (entCons (spec_l3Cut_ok fuel) entNil)))) (methNil)) mixed (by kernel_rfl) (by kernel_rfl) spec_TopAdd_l (by kernel_rfl) (Nat.le_of_ble_eq_true (by kernel_rfl)) (rv := spec_TopAdd_rv) (by kernel_rfl) (spec_TopAdd_run fuel)
theorem spec_TopAdd_ok (fuel : Nat) : EntryOK Tryz.prog 110 (spec_TopAdd_tf fuel).te := EntryOK.tf rfl (spec_TopAdd_spec fuel) (isFn (fn := Tryz.f110) (by kernel_rfl) (by kernel_rfl) (by kernel_rfl))
abbrev spec_l4Nums_R := Option (((List Int) × Unit) × Unit)
def spec_l4Nums_T (fuel : Nat) : Tab := Tab.of [] []
abbrev spec_l4Nums_ps : List Pm := [{ cs := [(Kd.list KP, false)], ag := false }]
abbrev spec_l4Nums_rs : List Pm := [{ cs := [(Kd.list I6, true)], ag := false }]
def spec_l4Nums_ann : List Norm := [{ live := [4, 0, 3], fix := [] }]
noncomputable def spec_l4Nums_c : C := irOf Tryz.prog Tryz.f150 [] spec_l4Nums_ann []
theorem spec_l4Nums_l : lightC Tryz.prog [] Tryz.f150.ntmps spec_l4Nums_ann [] 0 (bodyOf Tryz.f150) = some (spec_l4Nums_c, 1) := by kernel_rfl
def spec_l4Nums_rv : List (Nat × Option (Nat × Bool)) := [(2, none)]
abbrev spec_l4Nums_V0 := (Int) × LP × (List Int)
def spec_l4Nums_enc0 (v : spec_l4Nums_V0) : Env × Heap := ([(4, SV.int .i64 v.1), (0, SV.es KP v.2.1), (3, SV.own 0)], [Blk.arr I6 v.2.2 0])
def spec_l4Nums_step0 (fuel : Nat) (g0 : spec_l4Nums_V0 → spec_l4Nums_R) (v : spec_l4Nums_V0) : spec_l4Nums_R :=
 cond (decide (v.1 < (zz (List.length v.2.1))))
 (tst (decide (0 ≤ v.1)) <|
  tst (decide (v.1 < (zz (List.length v.2.1)))) <|
  tst (decide (0 ≤ v.1)) <|
  tst (decide (v.1 < (zz (List.length v.2.1)))) <|
  tst (decide (0 ≤ (List.getD v.2.1 (Int.toNat v.1) (0, (0, ()))).1)) <|
  tst (decide ((List.getD v.2.1 (Int.toNat v.1) (0, (0, ()))).1 < (zz (List.length v.2.2)))) <|
  tst (decide (Int.toNat (List.getD v.2.1 (Int.toNat v.1) (0, (0, ()))).1 < List.length v.2.2)) <|
  tst (decide (0 ≤ v.1)) <|
  tst (decide (v.1 < (zz (List.length v.2.1)))) <|
  tst (decide (0 ≤ (List.getD v.2.1 (Int.toNat v.1) (0, (0, ()))).1)) <|
  tst (decide ((List.getD v.2.1 (Int.toNat v.1) (0, (0, ()))).1 < (zz (List.length v.2.2)))) <|
  tst (decide (Int.toNat (List.getD v.2.1 (Int.toNat v.1) (0, (0, ()))).1 < List.length v.2.2)) <|
  g0 (w64 (v.1 + (1 : Int)), v.2.1, List.set v.2.2 (Int.toNat (List.getD v.2.1 (Int.toNat v.1) (0, (0, ()))).1) (w64 (List.getD v.2.2 (Int.toNat (List.getD v.2.1 (Int.toNat v.1) (0, (0, ()))).1) 0 + (List.getD v.2.1 (Int.toNat v.1) (0, (0, ()))).2.1))))
 (some (((v.2.2, ()), ())))
def spec_l4Nums_st0 (fuel : Nat) (g0 : spec_l4Nums_V0 → spec_l4Nums_R) : spec_l4Nums_V0 → spec_l4Nums_R := spec_l4Nums_step0 fuel g0
theorem spec_l4Nums_lp0 (fuel : Nat) (G) : spec_l4Nums_c.lp (spec_l4Nums_T fuel) 0 fuel G (endF spec_l4Nums_rv spec_l4Nums_rs) 0 spec_l4Nums_enc0 = iter (spec_l4Nums_st0 fuel) fuel := C.lp_iter fun g v => by kernel_rfl
def spec_l4Nums_pre (fuel : Nat) (X0 : spec_l4Nums_V0 → spec_l4Nums_R) (x0 : LP) : spec_l4Nums_R :=
 X0 ((0 : Int), x0, List.replicate (Int.toNat (128 : Int)) 0)
def spec_l4Nums_fn (fuel : Nat) (x : ((LP × Unit) × Unit)) : spec_l4Nums_R := spec_l4Nums_pre fuel (iter (spec_l4Nums_st0 fuel) fuel) x.1.1
theorem spec_l4Nums_run (fuel : Nat) (x : PsT spec_l4Nums_ps) : run (spec_l4Nums_T fuel) 0 fuel spec_l4Nums_c (env0 (svPs spec_l4Nums_ps x) 0) [] (endF spec_l4Nums_rv spec_l4Nums_rs) = spec_l4Nums_fn fuel x :=
  (show run (spec_l4Nums_T fuel) 0 fuel spec_l4Nums_c (env0 (svPs spec_l4Nums_ps x) 0) [] (endF spec_l4Nums_rv spec_l4Nums_rs) = spec_l4Nums_pre fuel (spec_l4Nums_c.lp (spec_l4Nums_T fuel) 0 fuel (fun _ _ _ => none) (endF spec_l4Nums_rv spec_l4Nums_rs) 0 spec_l4Nums_enc0) x.1.1 by kernel_rfl).trans (by rw [spec_l4Nums_lp0]; rfl)
def spec_l4Nums_tf (fuel : Nat) : TF := ⟨spec_l4Nums_ps, spec_l4Nums_rs, true, spec_l4Nums_fn fuel⟩
theorem spec_l4Nums_spec (fuel : Nat) : FnSpec Tryz.prog 150 (spec_l4Nums_tf fuel) :=
  fn_spec (T := spec_l4Nums_T fuel) (c := bodyOf Tryz.f150) (fn := Tryz.f150) (TabOK.of (entNil) (methNil)) mixed (by kernel_rfl) (by kernel_rfl) spec_l4Nums_l (by kernel_rfl) (Nat.le_of_ble_eq_true (by kernel_rfl)) (rv := spec_l4Nums_rv) (by kernel_rfl) (spec_l4Nums_run fuel)
theorem spec_l4Nums_ok (fuel : Nat) : EntryOK Tryz.prog 150 (spec_l4Nums_tf fuel).te := EntryOK.tf rfl (spec_l4Nums_spec fuel) (isFn (fn := Tryz.f150) (by kernel_rfl) (by kernel_rfl) (by kernel_rfl))
end Go.Proofs.YtdgdoeknpakmlaaGreat.Den
namespace Go.Proofs.YtdgdoeknpakmlaaGreat.Den
open Go Go.RowKit
set_option linter.unusedVariables false
set_option linter.unusedSimpArgs false
abbrev spec_l4List_R := Option ((LP × Unit) × Unit)
def spec_l4List_T (fuel : Nat) : Tab := Tab.of [] []
abbrev spec_l4List_ps : List Pm := [{ cs := [(Kd.list I6, false)], ag := false }]
abbrev spec_l4List_rs : List Pm := [{ cs := [(Kd.list KP, true)], ag := false }]
def spec_l4List_ann : List Norm := [{ live := [4, 0, 3], fix := [(3, none, KP, true)] }]
noncomputable def spec_l4List_c : C := irOf Tryz.prog Tryz.f151 [] spec_l4List_ann []
theorem spec_l4List_l : lightC Tryz.prog [] Tryz.f151.ntmps spec_l4List_ann [] 0 (bodyOf Tryz.f151) = some (spec_l4List_c, 1) := by kernel_rfl
def spec_l4List_rv : List (Nat × Option (Nat × Bool)) := [(2, none)]
abbrev spec_l4List_V0 := (Int) × (List Int) × LP
def spec_l4List_enc0 (v : spec_l4List_V0) : Env × Heap := ([(4, SV.int .i64 v.1), (0, SV.es I6 v.2.1), (3, SV.own 0)], [Blk.arr KP v.2.2 0])
def spec_l4List_step0 (fuel : Nat) (g0 : spec_l4List_V0 → spec_l4List_R) (v : spec_l4List_V0) : spec_l4List_R :=
 cond (decide (v.1 < (zz (List.length v.2.1))))
 (tst (decide (0 ≤ v.1)) <|
  tst (decide (v.1 < (zz (List.length v.2.1)))) <|
  cond (decide (List.getD v.2.1 (Int.toNat v.1) 0 > (0 : Int)))
  (tst (decide (0 ≤ v.1)) <|
   tst (decide (v.1 < (zz (List.length v.2.1)))) <|
   tst (decide (List.length v.2.2 + 1 < LIM)) <|
   g0 (w64 (v.1 + (1 : Int)), v.2.1, v.2.2 ++ [(v.1, List.getD v.2.1 (Int.toNat v.1) 0, ())]))
  (g0 (w64 (v.1 + (1 : Int)), v.2.1, v.2.2)))
 (some (((v.2.2, ()), ())))
def spec_l4List_st0 (fuel : Nat) (g0 : spec_l4List_V0 → spec_l4List_R) : spec_l4List_V0 → spec_l4List_R := spec_l4List_step0 fuel g0
theorem spec_l4List_lp0 (fuel : Nat) (G) : spec_l4List_c.lp (spec_l4List_T fuel) 0 fuel G (endF spec_l4List_rv spec_l4List_rs) 0 spec_l4List_enc0 = iter (spec_l4List_st0 fuel) fuel := C.lp_iter fun g v => by kernel_rfl
def spec_l4List_pre (fuel : Nat) (X0 : spec_l4List_V0 → spec_l4List_R) (x0 : List Int) : spec_l4List_R :=
 X0 ((1 : Int), x0, [])
def spec_l4List_fn (fuel : Nat) (x : (((List Int) × Unit) × Unit)) : spec_l4List_R := spec_l4List_pre fuel (iter (spec_l4List_st0 fuel) fuel) x.1.1
theorem spec_l4List_run (fuel : Nat) (x : PsT spec_l4List_ps) : run (spec_l4List_T fuel) 0 fuel spec_l4List_c (env0 (svPs spec_l4List_ps x) 0) [] (endF spec_l4List_rv spec_l4List_rs) = spec_l4List_fn fuel x :=
  (show run (spec_l4List_T fuel) 0 fuel spec_l4List_c (env0 (svPs spec_l4List_ps x) 0) [] (endF spec_l4List_rv spec_l4List_rs) = spec_l4List_pre fuel (spec_l4List_c.lp (spec_l4List_T fuel) 0 fuel (fun _ _ _ => none) (endF spec_l4List_rv spec_l4List_rs) 0 spec_l4List_enc0) x.1.1 by kernel_rfl).trans (by rw [spec_l4List_lp0]; rfl)
def spec_l4List_tf (fuel : Nat) : TF := ⟨spec_l4List_ps, spec_l4List_rs, true, spec_l4List_fn fuel⟩
theorem spec_l4List_spec (fuel : Nat) : FnSpec Tryz.prog 151 (spec_l4List_tf fuel) :=
  fn_spec (T := spec_l4List_T fuel) (c := bodyOf Tryz.f151) (fn := Tryz.f151) (TabOK.of (entNil) (methNil)) mixed (by kernel_rfl) (by kernel_rfl) spec_l4List_l (by kernel_rfl) (Nat.le_of_ble_eq_true (by kernel_rfl)) (rv := spec_l4List_rv) (by kernel_rfl) (spec_l4List_run fuel)
theorem spec_l4List_ok (fuel : Nat) : EntryOK Tryz.prog 151 (spec_l4List_tf fuel).te := EntryOK.tf rfl (spec_l4List_spec fuel) (isFn (fn := Tryz.f151) (by kernel_rfl) (by kernel_rfl) (by kernel_rfl))
def spec_l4Squeeze_T (fuel : Nat) : Tab := Tab.of [] []
abbrev spec_l4Squeeze_ps : List Pm := [{ cs := [(I6, false)], ag := false }]
abbrev spec_l4Squeeze_rs : List Pm := []
def spec_l4Squeeze_ann : List Norm := [{ live := [5, 0, 1], fix := [] }]
noncomputable def spec_l4Squeeze_c : C := irOf Tryz.prog Tryz.f152 [] spec_l4Squeeze_ann []
theorem spec_l4Squeeze_l : lightC Tryz.prog [] Tryz.f152.ntmps spec_l4Squeeze_ann [] 0 (bodyOf Tryz.f152) = some (spec_l4Squeeze_c, 1) := by kernel_rfl
def spec_l4Squeeze_rv : List (Nat × Option (Nat × Bool)) := [(4, none)]
abbrev spec_l4Squeeze_V0 := (Int) × (Int) × (List Int)
def spec_l4Squeeze_enc0 (v : spec_l4Squeeze_V0) : Env × Heap := ([(5, SV.int .i64 v.1), (0, SV.own 0), (1, SV.int .i64 v.2.1)], [Blk.arr I6 v.2.2 0])
def spec_l4Squeeze_step0 (fuel : Nat) (g0 : spec_l4Squeeze_V0 → Option ((List Int) × Unit)) (v : spec_l4Squeeze_V0) : Option ((List Int) × Unit) :=
 cond (decide (v.1 ≥ (2 : Int)))
 (tst (decide (0 ≤ v.1)) <|
  tst (decide (v.1 < (zz (List.length v.2.2)))) <|
  tst (decide (Int.toNat v.1 < List.length v.2.2)) <|
  tst (decide (0 ≤ w64 (v.1 + (1 : Int)))) <|
  tst (decide (w64 (v.1 + (1 : Int)) < (zz (List.length v.2.2)))) <|
  tst (decide (Int.toNat (w64 (v.1 + (1 : Int))) < List.length v.2.2)) <|
  cond (decide (w64 (List.getD v.2.2 (Int.toNat v.1) 0 + List.getD v.2.2 (Int.toNat (w64 (v.1 + (1 : Int)))) 0) > (0 : Int)))
  (tst (decide (0 ≤ w64 (Int.tdiv v.1 (2 : Int)))) <|
   tst (decide (w64 (Int.tdiv v.1 (2 : Int)) < (zz (List.length v.2.2)))) <|
   tst (decide (Int.toNat (w64 (Int.tdiv v.1 (2 : Int))) < List.length v.2.2)) <|
   cond (decide (w64 (w64 (List.getD v.2.2 (Int.toNat v.1) 0 + List.getD v.2.2 (Int.toNat (w64 (v.1 + (1 : Int)))) 0) + List.getD v.2.2 (Int.toNat (w64 (Int.tdiv v.1 (2 : Int)))) 0) ≤ w64 (Int.tdiv v.2.1 (8 : Int))))
   (tst (decide (0 ≤ w64 (Int.tdiv v.1 (2 : Int)))) <|
    tst (decide (w64 (Int.tdiv v.1 (2 : Int)) < (zz (List.length v.2.2)))) <|
    tst (decide (Int.toNat (w64 (Int.tdiv v.1 (2 : Int))) < List.length v.2.2)) <|
    tst (decide (0 ≤ w64 (Int.tdiv v.1 (2 : Int)))) <|
    tst (decide (w64 (Int.tdiv v.1 (2 : Int)) < (zz (List.length v.2.2)))) <|
    tst (decide (Int.toNat (w64 (Int.tdiv v.1 (2 : Int))) < List.length v.2.2)) <|
    tst (decide (0 ≤ v.1)) <|
    tst (decide (v.1 < (zz (List.length (List.set v.2.2 (Int.toNat (w64 (Int.tdiv v.1 (2 : Int)))) (w64 (List.getD v.2.2 (Int.toNat (w64 (Int.tdiv v.1 (2 : Int)))) 0 + w64 (List.getD v.2.2 (Int.toNat v.1) 0 + List.getD v.2.2 (Int.toNat (w64 (v.1 + (1 : Int)))) 0)))))))) <|
    tst (decide (Int.toNat v.1 < List.length (List.set v.2.2 (Int.toNat (w64 (Int.tdiv v.1 (2 : Int)))) (w64 (List.getD v.2.2 (Int.toNat (w64 (Int.tdiv v.1 (2 : Int)))) 0 + w64 (List.getD v.2.2 (Int.toNat v.1) 0 + List.getD v.2.2 (Int.toNat (w64 (v.1 + (1 : Int)))) 0)))))) <|
    tst (decide (0 ≤ w64 (v.1 + (1 : Int)))) <|
    tst (decide (w64 (v.1 + (1 : Int)) < (zz (List.length (List.set (List.set v.2.2 (Int.toNat (w64 (Int.tdiv v.1 (2 : Int)))) (w64 (List.getD v.2.2 (Int.toNat (w64 (Int.tdiv v.1 (2 : Int)))) 0 + w64 (List.getD v.2.2 (Int.toNat v.1) 0 + List.getD v.2.2 (Int.toNat (w64 (v.1 + (1 : Int)))) 0)))) (Int.toNat v.1) (0 : Int)))))) <|
    tst (decide (Int.toNat (w64 (v.1 + (1 : Int))) < List.length (List.set (List.set v.2.2 (Int.toNat (w64 (Int.tdiv v.1 (2 : Int)))) (w64 (List.getD v.2.2 (Int.toNat (w64 (Int.tdiv v.1 (2 : Int)))) 0 + w64 (List.getD v.2.2 (Int.toNat v.1) 0 + List.getD v.2.2 (Int.toNat (w64 (v.1 + (1 : Int)))) 0)))) (Int.toNat v.1) (0 : Int)))) <|
    g0 (w64 (v.1 - (2 : Int)), v.2.1, List.set (List.set (List.set v.2.2 (Int.toNat (w64 (Int.tdiv v.1 (2 : Int)))) (w64 (List.getD v.2.2 (Int.toNat (w64 (Int.tdiv v.1 (2 : Int)))) 0 + w64 (List.getD v.2.2 (Int.toNat v.1) 0 + List.getD v.2.2 (Int.toNat (w64 (v.1 + (1 : Int)))) 0)))) (Int.toNat v.1) (0 : Int)) (Int.toNat (w64 (v.1 + (1 : Int)))) (0 : Int)))
   (g0 (w64 (v.1 - (2 : Int)), v.2.1, v.2.2)))
  (g0 (w64 (v.1 - (2 : Int)), v.2.1, v.2.2)))
 (some ((v.2.2, ())))
def spec_l4Squeeze_st0 (fuel : Nat) (g0 : spec_l4Squeeze_V0 → Option ((List Int) × Unit)) : spec_l4Squeeze_V0 → Option ((List Int) × Unit) := spec_l4Squeeze_step0 fuel g0
theorem spec_l4Squeeze_lp0 (fuel : Nat) (G) : spec_l4Squeeze_c.lp (spec_l4Squeeze_T fuel) 1 fuel G (endS spec_l4Squeeze_rv I6 true spec_l4Squeeze_rs) 0 spec_l4Squeeze_enc0 = iter (spec_l4Squeeze_st0 fuel) fuel := C.lp_iter fun g v => by kernel_rfl
def spec_l4Squeeze_pre (fuel : Nat) (X0 : spec_l4Squeeze_V0 → Option ((List Int) × Unit)) (d0 : List Int) (x0 : Int) : Option ((List Int) × Unit) :=
 X0 (w64 ((zz (List.length d0)) - (2 : Int)), x0, d0)
def spec_l4Squeeze_fn (fuel : Nat) (z : (List Int) × Unit × ((Int × Unit) × Unit)) : Option ((List Int) × Unit) := spec_l4Squeeze_pre fuel (iter (spec_l4Squeeze_st0 fuel) fuel) z.1 z.2.2.1.1
theorem spec_l4Squeeze_run (fuel : Nat) (c : List (Kd.T I6)) (d : CsT []) (x : PsT spec_l4Squeeze_ps) : run (spec_l4Squeeze_T fuel) 1 fuel spec_l4Squeeze_c ((0, firstV false 0 (svCs [] d)) :: env0 (svPs spec_l4Squeeze_ps x) 1) [.arr I6 c 0] (endS spec_l4Squeeze_rv I6 true spec_l4Squeeze_rs) = spec_l4Squeeze_fn fuel (c, d, x) :=
  (show run (spec_l4Squeeze_T fuel) 1 fuel spec_l4Squeeze_c ((0, firstV false 0 (svCs [] d)) :: env0 (svPs spec_l4Squeeze_ps x) 1) [.arr I6 c 0] (endS spec_l4Squeeze_rv I6 true spec_l4Squeeze_rs) = spec_l4Squeeze_pre fuel (spec_l4Squeeze_c.lp (spec_l4Squeeze_T fuel) 1 fuel (fun _ _ _ => none) (endS spec_l4Squeeze_rv I6 true spec_l4Squeeze_rs) 0 spec_l4Squeeze_enc0) c x.1.1 by kernel_rfl).trans (by rw [spec_l4Squeeze_lp0]; rfl)
def spec_l4Squeeze_tf (fuel : Nat) : TFS := ⟨I6, false, [], spec_l4Squeeze_ps, spec_l4Squeeze_rs, true, spec_l4Squeeze_fn fuel⟩
theorem spec_l4Squeeze_spec (fuel : Nat) : FnSpecS Tryz.prog 152 (spec_l4Squeeze_tf fuel) :=
  fn_specS (T := spec_l4Squeeze_T fuel) (c := bodyOf Tryz.f152) (fn := Tryz.f152) (TabOK.of (entNil) (methNil)) mixed (by kernel_rfl) (by kernel_rfl) spec_l4Squeeze_l (by kernel_rfl) (Nat.le_of_ble_eq_true (by kernel_rfl)) (rv := spec_l4Squeeze_rv) (by kernel_rfl) (spec_l4Squeeze_run fuel)
theorem spec_l4Squeeze_ok (fuel : Nat) : EntryOK Tryz.prog 152 (spec_l4Squeeze_tf fuel).te := EntryOK.tfs (spec_l4Squeeze_spec fuel) (isFn (fn := Tryz.f152) (by kernel_rfl) (by kernel_rfl) (by kernel_rfl))
def spec_RankAdd_T (fuel : Nat) : Tab := Tab.of [(107, (spec_l6In_tf fuel).te), (144, (spec_RankOk_tf fuel).te), (150, (spec_l4Nums_tf fuel).te), (151, (spec_l4List_tf fuel).te), (152, (spec_l4Squeeze_tf fuel).te)] []
abbrev spec_RankAdd_ps : List Pm := [{ cs := [(Kd.list KP, false), (I6, false)], ag := true }, { cs := [(I6, false)], ag := false }]
abbrev spec_RankAdd_rs : List Pm := [{ cs := [(Kd.list KP, true), (I6, false)], ag := true }, { cs := [(Kd.bool, false)], ag := false }]
def spec_RankAdd_ann : List Norm := []
noncomputable def spec_RankAdd_c : C := irOf Tryz.prog Tryz.f111 [41] spec_RankAdd_ann []
theorem spec_RankAdd_l : lightC Tryz.prog [41] Tryz.f111.ntmps spec_RankAdd_ann [] 0 (bodyOf Tryz.f111) = some (spec_RankAdd_c, 0) := by kernel_rfl
def spec_RankAdd_rv : List (Nat × Option (Nat × Bool)) := [(4, some (2, true)), (5, none)]
def spec_RankAdd_pre (fuel : Nat) (x0 : LP) (x1 : Int) (x2 : Int) : Option ((LP × (Int × Unit)) × ((Bool × Unit) × Unit)) :=
 Option.bind (spec_RankOk_fn fuel ((x0, x1, ()), ())) fun y_1 =>
 cond (!y_1.1.1)
  (some ((([], (0 : Int), ()), (false, ()), ())))
  (Option.bind (spec_l6In_fn fuel ((x2, ()), ((0 : Int), ()), ((63 : Int), ()), ())) fun y_3 =>
   cond (!y_3.1.1)
    (some ((([], (0 : Int), ()), (false, ()), ())))
    (cond (decide (x1 ≥ (2000 : Int)))
     (some ((([], (0 : Int), ()), (false, ()), ())))
     (Option.bind (spec_l4Nums_fn fuel ((x0, ()), ())) fun y_6 =>
      tst (decide (0 ≤ w64 ((64 : Int) + x2))) <|
       tst (decide (w64 ((64 : Int) + x2) < (zz (List.length y_6.1.1)))) <|
       tst (decide (Int.toNat (w64 ((64 : Int) + x2)) < List.length y_6.1.1)) <|
       tst (decide (0 ≤ w64 ((64 : Int) + x2))) <|
       tst (decide (w64 ((64 : Int) + x2) < (zz (List.length y_6.1.1)))) <|
       tst (decide (Int.toNat (w64 ((64 : Int) + x2)) < List.length y_6.1.1)) <|
       Option.bind (spec_l4Squeeze_fn fuel (List.set y_6.1.1 (Int.toNat (w64 ((64 : Int) + x2))) (w64 (List.getD y_6.1.1 (Int.toNat (w64 ((64 : Int) + x2))) 0 + (1 : Int))), (), (w64 (x1 + (1 : Int)), ()), ())) fun y_7 =>
       Option.bind (spec_l4List_fn fuel ((y_7.1, ()), ())) fun y_8 =>
        some (((y_8.1.1, w64 (x1 + (1 : Int)), ()), (true, ()), ())))))
def spec_RankAdd_fn (fuel : Nat) (x : ((LP × (Int × Unit)) × ((Int × Unit) × Unit))) : Option ((LP × (Int × Unit)) × ((Bool × Unit) × Unit)) := spec_RankAdd_pre fuel x.1.1 x.1.2.1 x.2.1.1
theorem spec_RankAdd_run (fuel : Nat) (x : PsT spec_RankAdd_ps) : run (spec_RankAdd_T fuel) 0 fuel spec_RankAdd_c (env0 (svPs spec_RankAdd_ps x) 0) [] (endF spec_RankAdd_rv spec_RankAdd_rs) = spec_RankAdd_fn fuel x := by kernel_rfl
def spec_RankAdd_tf (fuel : Nat) : TF := ⟨spec_RankAdd_ps, spec_RankAdd_rs, true, spec_RankAdd_fn fuel⟩
theorem spec_RankAdd_spec (fuel : Nat) : FnSpec Tryz.prog 111 (spec_RankAdd_tf fuel) :=
  fn_spec (T := spec_RankAdd_T fuel) (c := bodyOf Tryz.f111) (fn := Tryz.f111) (TabOK.of (entCons (spec_l6In_ok fuel) (entCons (spec_RankOk_ok fuel) (entCons (spec_l4Nums_ok fuel) (entCons (spec_l4List_ok fuel) (entCons (spec_l4Squeeze_ok fuel) entNil))))) (methNil)) mixed (by kernel_rfl) (by kernel_rfl) spec_RankAdd_l (by kernel_rfl) (Nat.le_of_ble_eq_true (by kernel_rfl)) (rv := spec_RankAdd_rv) (by kernel_rfl) (spec_RankAdd_run fuel)
theorem spec_RankAdd_ok (fuel : Nat) : EntryOK Tryz.prog 111 (spec_RankAdd_tf fuel).te := EntryOK.tf rfl (spec_RankAdd_spec fuel) (isFn (fn := Tryz.f111) (by kernel_rfl) (by kernel_rfl) (by kernel_rfl))
def spec_SumAdd_T (fuel : Nat) : Tab := Tab.of [(98, (spec_SumOk_tf fuel).te), (107, (spec_l6In_tf fuel).te), (108, (spec_RoughAdd_tf fuel).te), (109, (spec_FewAdd_tf fuel).te), (110, (spec_TopAdd_tf fuel).te), (111, (spec_RankAdd_tf fuel).te)] []
abbrev spec_SumAdd_ps : List Pm := [{ cs := [(Kd.list (Kd.list I6), false), (Kd.list I6, false), (Kd.list KP, false), (I6, false), (I6, false), (Kd.list KP, false), (I6, false)], ag := true }, { cs := [(I6, false)], ag := false }]
abbrev spec_SumAdd_rs : List Pm := [{ cs := [(Kd.list (Kd.list I6), false), (Kd.list I6, true), (Kd.list KP, true), (I6, false), (I6, false), (Kd.list KP, true), (I6, false)], ag := true }, { cs := [(Kd.bool, false)], ag := false }]
def spec_SumAdd_ann : List Norm := []
noncomputable def spec_SumAdd_c : C := irOf Tryz.prog Tryz.f61 [] spec_SumAdd_ann []
theorem spec_SumAdd_l : lightC Tryz.prog [] Tryz.f61.ntmps spec_SumAdd_ann [] 0 (bodyOf Tryz.f61) = some (spec_SumAdd_c, 0) := by kernel_rfl
def spec_SumAdd_rv : List (Nat × Option (Nat × Bool)) := [(4, some (7, true)), (5, none)]
def spec_SumAdd_pre (fuel : Nat) (x0 : List (List Int)) (x1 : List Int) (x2 : LP) (x3 : Int) (x4 : Int) (x5 : LP) (x6 : Int) (x7 : Int) : Option (SumY × ((Bool × Unit) × Unit)) :=
 Option.bind (spec_SumOk_fn fuel ((x0, x1, x2, x3, x4, x5, x6, ()), ())) fun y_1 =>
 cond (!y_1.1.1)
  (some ((([], [], [], (0 : Int), (0 : Int), [], (0 : Int), ()), (false, ()), ())))
  (Option.bind (spec_l6In_fn fuel ((x7, ()), ((0 : Int), ()), ((63 : Int), ()), ())) fun y_3 =>
   cond (!y_3.1.1)
    (some ((([], [], [], (0 : Int), (0 : Int), [], (0 : Int), ()), (false, ()), ())))
    (cond (decide (x4 ≥ (2000 : Int)))
     (some ((([], [], [], (0 : Int), (0 : Int), [], (0 : Int), ()), (false, ()), ())))
     (Option.bind (spec_RoughAdd_fn fuel ((x0, ()), (x7, ()), ((1 : Int), ()), ())) fun y_6 =>
      Option.bind (spec_FewAdd_fn fuel ((x1, ()), (x7, ()), ())) fun y_7 =>
       Option.bind (spec_TopAdd_fn fuel ((x2, x3, x4, ()), (x7, ()), ())) fun y_8 =>
        Option.bind (spec_RankAdd_fn fuel ((x5, x6, ()), (x7, ()), ())) fun y_9 =>
         some (((y_6.1.1, y_7.1.1, y_8.1.1, y_8.1.2.1, y_8.1.2.2.1, y_9.1.1, y_9.1.2.1, ()), (true, ()), ())))))
def spec_SumAdd_fn (fuel : Nat) (x : (SumY × ((Int × Unit) × Unit))) : Option (SumY × ((Bool × Unit) × Unit)) := spec_SumAdd_pre fuel x.1.1 x.1.2.1 x.1.2.2.1 x.1.2.2.2.1 x.1.2.2.2.2.1 x.1.2.2.2.2.2.1 x.1.2.2.2.2.2.2.1 x.2.1.1
theorem spec_SumAdd_run (fuel : Nat) (x : PsT spec_SumAdd_ps) : run (spec_SumAdd_T fuel) 0 fuel spec_SumAdd_c (env0 (svPs spec_SumAdd_ps x) 0) [] (endF spec_SumAdd_rv spec_SumAdd_rs) = spec_SumAdd_fn fuel x := by kernel_rfl
def spec_SumAdd_tf (fuel : Nat) : TF := ⟨spec_SumAdd_ps, spec_SumAdd_rs, false, spec_SumAdd_fn fuel⟩
theorem spec_SumAdd_spec (fuel : Nat) : FnSpec Tryz.prog 61 (spec_SumAdd_tf fuel) :=
  fn_spec (T := spec_SumAdd_T fuel) (c := bodyOf Tryz.f61) (fn := Tryz.f61) (TabOK.of (entCons (spec_SumOk_ok fuel) (entCons (spec_l6In_ok fuel) (entCons (spec_RoughAdd_ok fuel) (entCons (spec_FewAdd_ok fuel) (entCons (spec_TopAdd_ok fuel) (entCons (spec_RankAdd_ok fuel) entNil)))))) (methNil)) mixed (by kernel_rfl) (by kernel_rfl) spec_SumAdd_l (by kernel_rfl) (Nat.le_of_ble_eq_true (by kernel_rfl)) (rv := spec_SumAdd_rv) (by kernel_rfl) (spec_SumAdd_run fuel)
theorem spec_SumAdd_ok (fuel : Nat) : EntryOK Tryz.prog 61 (spec_SumAdd_tf fuel).te := EntryOK.tf rfl (spec_SumAdd_spec fuel) (isFn (fn := Tryz.f61) (by kernel_rfl) (by kernel_rfl) (by kernel_rfl))
def spec_RoughNew_T (fuel : Nat) : Tab := Tab.of [] []
abbrev spec_RoughNew_ps : List Pm := []
abbrev spec_RoughNew_rs : List Pm := [{ cs := [(Kd.list (Kd.list I6), false)], ag := true }]
def spec_RoughNew_ann : List Norm := [{ live := [2, 1, 0], fix := [] }]
noncomputable def spec_RoughNew_c : C := irOf Tryz.prog Tryz.f134 [] spec_RoughNew_ann []
theorem spec_RoughNew_l : lightC Tryz.prog [] Tryz.f134.ntmps spec_RoughNew_ann [] 0 (bodyOf Tryz.f134) = some (spec_RoughNew_c, 1) := by kernel_rfl
def spec_RoughNew_rv : List (Nat × Option (Nat × Bool)) := [(0, some (1, true))]
def spec_RoughNew_pre (fuel : Nat)  : Option (((List (List Int)) × Unit) × Unit) :=
 some ((([List.replicate (Int.toNat (8 : Int)) 0, List.replicate (Int.toNat (8 : Int)) 0, List.replicate (Int.toNat (8 : Int)) 0], ()), ()))
def spec_RoughNew_fn (fuel : Nat) (x : Unit) : Option (((List (List Int)) × Unit) × Unit) := spec_RoughNew_pre fuel
theorem spec_RoughNew_run (fuel : Nat) (x : PsT spec_RoughNew_ps) : run (spec_RoughNew_T fuel) 0 (fuel + 6) spec_RoughNew_c (env0 (svPs spec_RoughNew_ps x) 0) [] (endF spec_RoughNew_rv spec_RoughNew_rs) = spec_RoughNew_fn fuel x := by kernel_rfl
def spec_RoughNew_tf (fuel : Nat) : TF := ⟨spec_RoughNew_ps, spec_RoughNew_rs, false, spec_RoughNew_fn fuel⟩
theorem spec_RoughNew_spec (fuel : Nat) : FnSpec Tryz.prog 134 (spec_RoughNew_tf fuel) :=
  fn_spec (T := spec_RoughNew_T fuel) (c := bodyOf Tryz.f134) (fn := Tryz.f134) (TabOK.of (entNil) (methNil)) mixed (by kernel_rfl) (by kernel_rfl) spec_RoughNew_l (by kernel_rfl) (Nat.le_of_ble_eq_true (by kernel_rfl)) (rv := spec_RoughNew_rv) (by kernel_rfl) (spec_RoughNew_run fuel)
theorem spec_RoughNew_ok (fuel : Nat) : EntryOK Tryz.prog 134 (spec_RoughNew_tf fuel).te := EntryOK.tf rfl (spec_RoughNew_spec fuel) (isFn (fn := Tryz.f134) (by kernel_rfl) (by kernel_rfl) (by kernel_rfl))
def spec_SumNew_T (fuel : Nat) : Tab := Tab.of [(134, (spec_RoughNew_tf fuel).te)] []
abbrev spec_SumNew_ps : List Pm := []
abbrev spec_SumNew_rs : List Pm := [{ cs := [(Kd.list (Kd.list I6), false), (Kd.list I6, true), (Kd.list KP, true), (I6, false), (I6, false), (Kd.list KP, true), (I6, false)], ag := true }]
def spec_SumNew_ann : List Norm := []
noncomputable def spec_SumNew_c : C := irOf Tryz.prog Tryz.f79 [] spec_SumNew_ann []
theorem spec_SumNew_l : lightC Tryz.prog [] Tryz.f79.ntmps spec_SumNew_ann [] 0 (bodyOf Tryz.f79) = some (spec_SumNew_c, 0) := by kernel_rfl
def spec_SumNew_rv : List (Nat × Option (Nat × Bool)) := [(0, some (7, true))]
def spec_SumNew_pre (fuel : Nat)  : Option (SumY × Unit) :=
 Option.bind (spec_RoughNew_fn fuel ()) fun y_1 =>
 some (((y_1.1.1, [], [], (0 : Int), (0 : Int), [], (0 : Int), ()), ()))
def spec_SumNew_fn (fuel : Nat) (x : Unit) : Option (SumY × Unit) := spec_SumNew_pre fuel
theorem spec_SumNew_run (fuel : Nat) (x : PsT spec_SumNew_ps) : run (spec_SumNew_T fuel) 0 fuel spec_SumNew_c (env0 (svPs spec_SumNew_ps x) 0) [] (endF spec_SumNew_rv spec_SumNew_rs) = spec_SumNew_fn fuel x := by kernel_rfl
def spec_SumNew_tf (fuel : Nat) : TF := ⟨spec_SumNew_ps, spec_SumNew_rs, false, spec_SumNew_fn fuel⟩
theorem spec_SumNew_spec (fuel : Nat) : FnSpec Tryz.prog 79 (spec_SumNew_tf fuel) :=
  fn_spec (T := spec_SumNew_T fuel) (c := bodyOf Tryz.f79) (fn := Tryz.f79) (TabOK.of (entCons (spec_RoughNew_ok fuel) entNil) (methNil)) mixed (by kernel_rfl) (by kernel_rfl) spec_SumNew_l (by kernel_rfl) (Nat.le_of_ble_eq_true (by kernel_rfl)) (rv := spec_SumNew_rv) (by kernel_rfl) (spec_SumNew_run fuel)
theorem spec_SumNew_ok (fuel : Nat) : EntryOK Tryz.prog 79 (spec_SumNew_tf fuel).te := EntryOK.tf rfl (spec_SumNew_spec fuel) (isFn (fn := Tryz.f79) (by kernel_rfl) (by kernel_rfl) (by kernel_rfl))
abbrev spec_SumOf_R := Option (SumY × ((Bool × Unit) × Unit))
def spec_SumOf_T (fuel : Nat) : Tab := Tab.of [(61, (spec_SumAdd_tf fuel).te), (79, (spec_SumNew_tf fuel).te)] []
abbrev spec_SumOf_ps : List Pm := [{ cs := [(Kd.list I6, false)], ag := false }]
abbrev spec_SumOf_rs : List Pm := [{ cs := [(Kd.list (Kd.list I6), false), (Kd.list I6, true), (Kd.list KP, true), (I6, false), (I6, false), (Kd.list KP, true), (I6, false)], ag := true }, { cs := [(Kd.bool, false)], ag := false }]
def spec_SumOf_ann : List Norm := [{ live := [5, 0, 4, 2], fix := [] }]
def spec_SumOf_cuts : List (Nat × Norm) := [(1000005, { live := [4, 0, 5, 2], fix := [(4, some 1, I6, false), (4, some 2, KP, false), (4, some 5, KP, false)] })]
noncomputable def spec_SumOf_c : C := irOf Tryz.prog Tryz.f29 [] spec_SumOf_ann spec_SumOf_cuts
theorem spec_SumOf_l : lightC Tryz.prog [] Tryz.f29.ntmps spec_SumOf_ann spec_SumOf_cuts 0 (bodyOf Tryz.f29) = some (spec_SumOf_c, 1) := by kernel_rfl
def spec_SumOf_rv : List (Nat × Option (Nat × Bool)) := [(2, some (7, true)), (3, none)]
abbrev spec_SumOf_V0 := (Int) × (List Int) × (List (List Int)) × (Int) × (Int) × (Int) × (Int) × (Int) × (Int) × (List Int) × LP × LP
def spec_SumOf_enc0 (v : spec_SumOf_V0) : Env × Heap := ([(5, SV.int .i64 v.1), (0, SV.es I6 v.2.1), (4, SV.ptr 0 0), (2, SV.ptr 1 0)], [Blk.cells [SV.es (Kd.list I6) v.2.2.1, SV.own 2, SV.own 3, SV.int .i64 v.2.2.2.1, SV.int .i64 v.2.2.2.2.1, SV.own 4, SV.int .i64 v.2.2.2.2.2.1] 0 7, Blk.cells [SV.nils, SV.nils, SV.nils, SV.int .i64 v.2.2.2.2.2.2.1, SV.int .i64 v.2.2.2.2.2.2.2.1, SV.nils, SV.int .i64 v.2.2.2.2.2.2.2.2.1] 0 7, Blk.arr I6 v.2.2.2.2.2.2.2.2.2.1 0, Blk.arr KP v.2.2.2.2.2.2.2.2.2.2.1 0, Blk.arr KP v.2.2.2.2.2.2.2.2.2.2.2 0])
def spec_SumOf_step0 (fuel : Nat) (g0 : spec_SumOf_V0 → spec_SumOf_R) (v : spec_SumOf_V0) : spec_SumOf_R :=
 cond (decide (v.1 < (zz (List.length v.2.1))))
 (tst (decide (0 ≤ v.1)) <|
  tst (decide (v.1 < (zz (List.length v.2.1)))) <|
  Option.bind (spec_SumAdd_fn fuel ((v.2.2.1, v.2.2.2.2.2.2.2.2.2.1, v.2.2.2.2.2.2.2.2.2.2.1, v.2.2.2.1, v.2.2.2.2.1, v.2.2.2.2.2.2.2.2.2.2.2, v.2.2.2.2.2.1, ()), (List.getD v.2.1 (Int.toNat v.1) 0, ()), ())) fun y_2 =>
  cond (!y_2.2.1.1)
   (some ((([], [], [], (0 : Int), (0 : Int), [], (0 : Int), ()), (false, ()), ())))
   (g0 (w64 (v.1 + (1 : Int)), v.2.1, y_2.1.1, y_2.1.2.2.2.1, y_2.1.2.2.2.2.1, y_2.1.2.2.2.2.2.2.1, v.2.2.2.2.2.2.1, v.2.2.2.2.2.2.2.1, v.2.2.2.2.2.2.2.2.1, y_2.1.2.1, y_2.1.2.2.1, y_2.1.2.2.2.2.2.1)))
 (some (((v.2.2.1, v.2.2.2.2.2.2.2.2.2.1, v.2.2.2.2.2.2.2.2.2.2.1, v.2.2.2.1, v.2.2.2.2.1, v.2.2.2.2.2.2.2.2.2.2.2, v.2.2.2.2.2.1, ()), (true, ()), ())))
def spec_SumOf_st0 (fuel : Nat) (g0 : spec_SumOf_V0 → spec_SumOf_R) : spec_SumOf_V0 → spec_SumOf_R := spec_SumOf_step0 fuel g0
theorem spec_SumOf_lp0 (fuel : Nat) (G) : spec_SumOf_c.lp (spec_SumOf_T fuel) 0 fuel G (endF spec_SumOf_rv spec_SumOf_rs) 0 spec_SumOf_enc0 = iter (spec_SumOf_st0 fuel) fuel := C.lp_iter fun g v => by kernel_rfl
def spec_SumOf_pre (fuel : Nat) (X0 : spec_SumOf_V0 → spec_SumOf_R) (x0 : List Int) : spec_SumOf_R :=
 Option.bind (spec_SumNew_fn fuel ()) fun y_1 =>
 X0 ((0 : Int), x0, y_1.1.1, y_1.1.2.2.2.1, y_1.1.2.2.2.2.1, y_1.1.2.2.2.2.2.2.1, (0 : Int), (0 : Int), (0 : Int), y_1.1.2.1, y_1.1.2.2.1, y_1.1.2.2.2.2.2.1)
def spec_SumOf_fn (fuel : Nat) (x : (((List Int) × Unit) × Unit)) : spec_SumOf_R := spec_SumOf_pre fuel (iter (spec_SumOf_st0 fuel) fuel) x.1.1
theorem spec_SumOf_run (fuel : Nat) (x : PsT spec_SumOf_ps) : run (spec_SumOf_T fuel) 0 fuel spec_SumOf_c (env0 (svPs spec_SumOf_ps x) 0) [] (endF spec_SumOf_rv spec_SumOf_rs) = spec_SumOf_fn fuel x :=
  (show run (spec_SumOf_T fuel) 0 fuel spec_SumOf_c (env0 (svPs spec_SumOf_ps x) 0) [] (endF spec_SumOf_rv spec_SumOf_rs) = spec_SumOf_pre fuel (spec_SumOf_c.lp (spec_SumOf_T fuel) 0 fuel (fun _ _ _ => none) (endF spec_SumOf_rv spec_SumOf_rs) 0 spec_SumOf_enc0) x.1.1 by kernel_rfl).trans (by rw [spec_SumOf_lp0]; rfl)
def spec_SumOf_tf (fuel : Nat) : TF := ⟨spec_SumOf_ps, spec_SumOf_rs, false, spec_SumOf_fn fuel⟩
theorem spec_SumOf_spec (fuel : Nat) : FnSpec Tryz.prog 29 (spec_SumOf_tf fuel) :=
  fn_spec (T := spec_SumOf_T fuel) (c := bodyOf Tryz.f29) (fn := Tryz.f29) (TabOK.of (entCons (spec_SumAdd_ok fuel) (entCons (spec_SumNew_ok fuel) entNil)) (methNil)) mixed (by kernel_rfl) (by kernel_rfl) spec_SumOf_l (by kernel_rfl) (Nat.le_of_ble_eq_true (by kernel_rfl)) (rv := spec_SumOf_rv) (by kernel_rfl) (spec_SumOf_run fuel)
theorem spec_SumOf_ok (fuel : Nat) : EntryOK Tryz.prog 29 (spec_SumOf_tf fuel).te := EntryOK.tf rfl (spec_SumOf_spec fuel) (isFn (fn := Tryz.f29) (by kernel_rfl) (by kernel_rfl) (by kernel_rfl))
def impl_RoughNew_T (fuel : Nat) : Tab := Tab.of [] []
abbrev impl_RoughNew_ps : List Pm := []
abbrev impl_RoughNew_rs : List Pm := [{ cs := [(Kd.list (Kd.list I6), false)], ag := true }]
def impl_RoughNew_ann : List Norm := [{ live := [6, 5, 1, 0], fix := [] }]
noncomputable def impl_RoughNew_c : C := irOf Tryz.prog Tryz.f83 [3] impl_RoughNew_ann []
theorem impl_RoughNew_l : lightC Tryz.prog [3] Tryz.f83.ntmps impl_RoughNew_ann [] 0 (bodyOf Tryz.f83) = some (impl_RoughNew_c, 1) := by kernel_rfl
def impl_RoughNew_rv : List (Nat × Option (Nat × Bool)) := [(0, some (1, true))]
def impl_RoughNew_pre (fuel : Nat)  : Option (((List (List Int)) × Unit) × Unit) :=
 some ((([List.replicate (Int.toNat (8 : Int)) 0, List.replicate (Int.toNat (8 : Int)) 0, List.replicate (Int.toNat (8 : Int)) 0], ()), ()))
def impl_RoughNew_fn (fuel : Nat) (x : Unit) : Option (((List (List Int)) × Unit) × Unit) := impl_RoughNew_pre fuel
theorem impl_RoughNew_run (fuel : Nat) (x : PsT impl_RoughNew_ps) : run (impl_RoughNew_T fuel) 0 (fuel + 6) impl_RoughNew_c (env0 (svPs impl_RoughNew_ps x) 0) [] (endF impl_RoughNew_rv impl_RoughNew_rs) = impl_RoughNew_fn fuel x := by kernel_rfl
def impl_RoughNew_tf (fuel : Nat) : TF := ⟨impl_RoughNew_ps, impl_RoughNew_rs, false, impl_RoughNew_fn fuel⟩
theorem impl_RoughNew_spec (fuel : Nat) : FnSpec Tryz.prog 83 (impl_RoughNew_tf fuel) :=
  fn_spec (T := impl_RoughNew_T fuel) (c := bodyOf Tryz.f83) (fn := Tryz.f83) (TabOK.of (entNil) (methNil)) mixed (by kernel_rfl) (by kernel_rfl) impl_RoughNew_l (by kernel_rfl) (Nat.le_of_ble_eq_true (by kernel_rfl)) (rv := impl_RoughNew_rv) (by kernel_rfl) (impl_RoughNew_run fuel)
theorem impl_RoughNew_ok (fuel : Nat) : EntryOK Tryz.prog 83 (impl_RoughNew_tf fuel).te := EntryOK.tf rfl (impl_RoughNew_spec fuel) (isFn (fn := Tryz.f83) (by kernel_rfl) (by kernel_rfl) (by kernel_rfl))
def impl_SumNew_T (fuel : Nat) : Tab := Tab.of [(83, (impl_RoughNew_tf fuel).te)] []
abbrev impl_SumNew_ps : List Pm := []
abbrev impl_SumNew_rs : List Pm := [{ cs := [(Kd.list (Kd.list I6), false), (Kd.list I6, false), (Kd.list KP, false), (I6, false), (I6, false), (Kd.list KP, false), (I6, false)], ag := true }]
def impl_SumNew_ann : List Norm := []
noncomputable def impl_SumNew_c : C := irOf Tryz.prog Tryz.f36 [] impl_SumNew_ann []
theorem impl_SumNew_l : lightC Tryz.prog [] Tryz.f36.ntmps impl_SumNew_ann [] 0 (bodyOf Tryz.f36) = some (impl_SumNew_c, 0) := by kernel_rfl
def impl_SumNew_rv : List (Nat × Option (Nat × Bool)) := [(0, some (7, true))]
def impl_SumNew_pre (fuel : Nat)  : Option (SumY × Unit) :=
 Option.bind (impl_RoughNew_fn fuel ()) fun y_1 =>
 some (((y_1.1.1, [], [], (0 : Int), (0 : Int), [], (0 : Int), ()), ()))
def impl_SumNew_fn (fuel : Nat) (x : Unit) : Option (SumY × Unit) := impl_SumNew_pre fuel
theorem impl_SumNew_run (fuel : Nat) (x : PsT impl_SumNew_ps) : run (impl_SumNew_T fuel) 0 fuel impl_SumNew_c (env0 (svPs impl_SumNew_ps x) 0) [] (endF impl_SumNew_rv impl_SumNew_rs) = impl_SumNew_fn fuel x := by kernel_rfl
def impl_SumNew_tf (fuel : Nat) : TF := ⟨impl_SumNew_ps, impl_SumNew_rs, false, impl_SumNew_fn fuel⟩
theorem impl_SumNew_spec (fuel : Nat) : FnSpec Tryz.prog 36 (impl_SumNew_tf fuel) :=
  fn_spec (T := impl_SumNew_T fuel) (c := bodyOf Tryz.f36) (fn := Tryz.f36) (TabOK.of (entCons (impl_RoughNew_ok fuel) entNil) (methNil)) mixed (by kernel_rfl) (by kernel_rfl) impl_SumNew_l (by kernel_rfl) (Nat.le_of_ble_eq_true (by kernel_rfl)) (rv := impl_SumNew_rv) (by kernel_rfl) (impl_SumNew_run fuel)
theorem impl_SumNew_ok (fuel : Nat) : EntryOK Tryz.prog 36 (impl_SumNew_tf fuel).te := EntryOK.tf rfl (impl_SumNew_spec fuel) (isFn (fn := Tryz.f36) (by kernel_rfl) (by kernel_rfl) (by kernel_rfl))
def impl_Sum_ways_T (fuel : Nat) : Tab := Tab.of [] []
abbrev impl_Sum_ways_ps : Sh := (.agg (.cell (Kd.list (Kd.list I6)) 0 (.cell (Kd.list I6) 0 (.cell (Kd.list KP) 0 (.cell I6 0 (.cell I6 0 (.cell (Kd.list KP) 0 (.cell I6 0 .nil))))))) .nil)
abbrev impl_Sum_ways_rs : Sh := (.agg (.ifc 27 (.agg (.cell (Kd.list (Kd.list I6)) 0 .nil) .nil) (.ifc 29 (.agg (.cell (Kd.list I6) 0 .nil) .nil) (.ifc 32 (.agg (.cell (Kd.list KP) 0 (.cell I6 0 (.cell I6 0 .nil))) .nil) (.ifc 35 (.agg (.cell (Kd.list KP) 0 (.cell I6 0 .nil)) .nil) .nil)))) .nil)
def impl_Sum_ways_ann : List Norm := []
noncomputable def impl_Sum_ways_c : C := irOf Tryz.prog Tryz.f82 [] impl_Sum_ways_ann []
theorem impl_Sum_ways_l : lightC Tryz.prog [] Tryz.f82.ntmps impl_Sum_ways_ann [] 0 (bodyOf Tryz.f82) = some (impl_Sum_ways_c, 0) := by kernel_rfl
def impl_Sum_ways_rv : List (Nat × Option (Nat × Bool)) := [(2, some (4, true))]
def impl_Sum_ways_pre (fuel : Nat) (x0 : List (List Int)) (x1 : List Int) (x2 : LP) (x3 : Int) (x4 : Int) (x5 : LP) (x6 : Int) : Option (((((List (List Int)) × Unit) × Unit) × ((((List Int) × Unit) × Unit) × (((LP × (Int × (Int × Unit))) × Unit) × (((LP × (Int × Unit)) × Unit) × Unit)))) × Unit) :=
 some (((((x0, ()), ()), ((x1, ()), ()), ((x2, x3, x4, ()), ()), ((x5, x6, ()), ()), ()), ()))
def impl_Sum_ways_fn (fuel : Nat) (x : (SumY × Unit)) : Option (((((List (List Int)) × Unit) × Unit) × ((((List Int) × Unit) × Unit) × (((LP × (Int × (Int × Unit))) × Unit) × (((LP × (Int × Unit)) × Unit) × Unit)))) × Unit) := impl_Sum_ways_pre fuel x.1.1 x.1.2.1 x.1.2.2.1 x.1.2.2.2.1 x.1.2.2.2.2.1 x.1.2.2.2.2.2.1 x.1.2.2.2.2.2.2.1
theorem impl_Sum_ways_run (fuel : Nat) (x : Sh.T impl_Sum_ways_ps) : run (impl_Sum_ways_T fuel) 0 fuel impl_Sum_ways_c (env0 (svS impl_Sum_ways_ps x) 0) [] (endG impl_Sum_ways_rv impl_Sum_ways_rs) = impl_Sum_ways_fn fuel x := by kernel_rfl
def impl_Sum_ways_tf (fuel : Nat) : TG := ⟨impl_Sum_ways_ps, impl_Sum_ways_rs, false, impl_Sum_ways_fn fuel⟩
theorem impl_Sum_ways_spec (fuel : Nat) : FnSpecG Tryz.prog 82 (impl_Sum_ways_tf fuel) :=
  fn_specG (T := impl_Sum_ways_T fuel) (c := bodyOf Tryz.f82) (fn := Tryz.f82) (TabOK.of (entNil) (methNil)) mixed (by kernel_rfl) (by kernel_rfl) impl_Sum_ways_l (by kernel_rfl) (Nat.le_of_ble_eq_true (by kernel_rfl)) (rv := impl_Sum_ways_rv) (by kernel_rfl) (fun x y h => (impl_Sum_ways_run fuel x).trans h)
theorem impl_Sum_ways_ok (fuel : Nat) : EntryOK Tryz.prog 82 (impl_Sum_ways_tf fuel).te := EntryOK.tg rfl (impl_Sum_ways_spec fuel) (isFn (fn := Tryz.f82) (by kernel_rfl) (by kernel_rfl) (by kernel_rfl))
def impl_sumFrom_T (fuel : Nat) : Tab := Tab.of [] []
abbrev impl_sumFrom_ps : Sh := (.agg (.ifc 27 (.agg (.cell (Kd.list (Kd.list I6)) 0 .nil) .nil) (.ifc 29 (.agg (.cell (Kd.list I6) 0 .nil) .nil) (.ifc 32 (.agg (.cell (Kd.list KP) 0 (.cell I6 0 (.cell I6 0 .nil))) .nil) (.ifc 35 (.agg (.cell (Kd.list KP) 0 (.cell I6 0 .nil)) .nil) .nil)))) .nil)
abbrev impl_sumFrom_rs : Sh := (.agg (.cell (Kd.list (Kd.list I6)) 0 (.cell (Kd.list I6) 0 (.cell (Kd.list KP) 0 (.cell I6 0 (.cell I6 0 (.cell (Kd.list KP) 0 (.cell I6 0 .nil))))))) .nil)
def impl_sumFrom_ann : List Norm := [{ live := [11, 10, 3, 2], fix := [] }]
noncomputable def impl_sumFrom_c : C := irOf Tryz.prog Tryz.f104 [] impl_sumFrom_ann []
theorem impl_sumFrom_l : lightC Tryz.prog [] Tryz.f104.ntmps impl_sumFrom_ann [] 0 (bodyOf Tryz.f104) = some (impl_sumFrom_c, 1) := by kernel_rfl
def impl_sumFrom_rv : List (Nat × Option (Nat × Bool)) := [(2, some (7, true))]
def impl_sumFrom_pre (fuel : Nat) (x0 : List (List Int)) (x1 : List Int) (x2 : LP) (x3 : Int) (x4 : Int) (x5 : LP) (x6 : Int) : Option (SumY × Unit) :=
 some (((x0, x1, x2, x3, x4, x5, x6, ()), ()))
def impl_sumFrom_fn (fuel : Nat) (x : (((((List (List Int)) × Unit) × Unit) × ((((List Int) × Unit) × Unit) × (((LP × (Int × (Int × Unit))) × Unit) × (((LP × (Int × Unit)) × Unit) × Unit)))) × Unit)) : Option (SumY × Unit) := impl_sumFrom_pre fuel x.1.1.1.1 x.1.2.1.1.1 x.1.2.2.1.1.1 x.1.2.2.1.1.2.1 x.1.2.2.1.1.2.2.1 x.1.2.2.2.1.1.1 x.1.2.2.2.1.1.2.1
theorem impl_sumFrom_run (fuel : Nat) (x : Sh.T impl_sumFrom_ps) : run (impl_sumFrom_T fuel) 0 (fuel + 6) impl_sumFrom_c (env0 (svS impl_sumFrom_ps x) 0) [] (endG impl_sumFrom_rv impl_sumFrom_rs) = impl_sumFrom_fn fuel x := by kernel_rfl
def impl_sumFrom_tf (fuel : Nat) : TG := ⟨impl_sumFrom_ps, impl_sumFrom_rs, false, impl_sumFrom_fn fuel⟩
theorem impl_sumFrom_spec (fuel : Nat) : FnSpecG Tryz.prog 104 (impl_sumFrom_tf fuel) :=
  fn_specG (T := impl_sumFrom_T fuel) (c := bodyOf Tryz.f104) (fn := Tryz.f104) (TabOK.of (entNil) (methNil)) mixed (by kernel_rfl) (by kernel_rfl) impl_sumFrom_l (by kernel_rfl) (Nat.le_of_ble_eq_true (by kernel_rfl)) (rv := impl_sumFrom_rv) (by kernel_rfl) (fun x y h => (impl_sumFrom_run fuel x).trans h)
theorem impl_sumFrom_ok (fuel : Nat) : EntryOK Tryz.prog 104 (impl_sumFrom_tf fuel).te := EntryOK.tg rfl (impl_sumFrom_spec fuel) (isFn (fn := Tryz.f104) (by kernel_rfl) (by kernel_rfl) (by kernel_rfl))
def impl_RoughPlace_T (fuel : Nat) : Tab := Tab.of [(86, (impl_isThing_tf fuel).te)] []
abbrev impl_RoughPlace_ps : List Pm := [{ cs := [(I6, false)], ag := false }, { cs := [(I6, false)], ag := false }]
abbrev impl_RoughPlace_rs : List Pm := [{ cs := [(I6, false)], ag := false }]
def impl_RoughPlace_ann : List Norm := []
noncomputable def impl_RoughPlace_c : C := irOf Tryz.prog Tryz.f43 [] impl_RoughPlace_ann []
theorem impl_RoughPlace_l : lightC Tryz.prog [] Tryz.f43.ntmps impl_RoughPlace_ann [] 0 (bodyOf Tryz.f43) = some (impl_RoughPlace_c, 0) := by kernel_rfl
def impl_RoughPlace_rv : List (Nat × Option (Nat × Bool)) := [(4, none)]
def impl_RoughPlace_pre (fuel : Nat) (x0 : Int) (x1 : Int) : Option ((Int × Unit) × Unit) :=
 Option.bind (impl_isThing_fn fuel ((x1, ()), ())) fun y_1 =>
 cond (!y_1.1.1)
  (some ((((-1 : Int), ()), ())))
  (cond (x0 == (0 : Int))
   (some (((Int.tmod (w64 (w64 ((3 : Int) * x1) + w64 (Int.tdiv x1 (8 : Int)))) (8 : Int), ()), ())))
   (cond (x0 == (1 : Int))
    (some (((Int.tmod (w64 (w64 (w64 ((5 : Int) * x1) + w64 (Int.tdiv x1 (16 : Int))) + (1 : Int))) (8 : Int), ()), ())))
    (cond (x0 == (2 : Int))
     (some (((Int.tmod (w64 (w64 (x1 + w64 (Int.tdiv x1 (4 : Int))) + (2 : Int))) (8 : Int), ()), ())))
     (some ((((-1 : Int), ()), ()))))))
def impl_RoughPlace_fn (fuel : Nat) (x : ((Int × Unit) × ((Int × Unit) × Unit))) : Option ((Int × Unit) × Unit) := impl_RoughPlace_pre fuel x.1.1 x.2.1.1
theorem impl_RoughPlace_run (fuel : Nat) (x : PsT impl_RoughPlace_ps) : run (impl_RoughPlace_T fuel) 0 fuel impl_RoughPlace_c (env0 (svPs impl_RoughPlace_ps x) 0) [] (endF impl_RoughPlace_rv impl_RoughPlace_rs) = impl_RoughPlace_fn fuel x := by kernel_rfl
def impl_RoughPlace_tf (fuel : Nat) : TF := ⟨impl_RoughPlace_ps, impl_RoughPlace_rs, true, impl_RoughPlace_fn fuel⟩
theorem impl_RoughPlace_spec (fuel : Nat) : FnSpec Tryz.prog 43 (impl_RoughPlace_tf fuel) :=
  fn_spec (T := impl_RoughPlace_T fuel) (c := bodyOf Tryz.f43) (fn := Tryz.f43) (TabOK.of (entCons (impl_isThing_ok fuel) entNil) (methNil)) mixed (by kernel_rfl) (by kernel_rfl) impl_RoughPlace_l (by kernel_rfl) (Nat.le_of_ble_eq_true (by kernel_rfl)) (rv := impl_RoughPlace_rv) (by kernel_rfl) (impl_RoughPlace_run fuel)
theorem impl_RoughPlace_ok (fuel : Nat) : EntryOK Tryz.prog 43 (impl_RoughPlace_tf fuel).te := EntryOK.tf rfl (impl_RoughPlace_spec fuel) (isFn (fn := Tryz.f43) (by kernel_rfl) (by kernel_rfl) (by kernel_rfl))
abbrev impl_rowAll_R := Option ((Int × Unit) × ((Bool × Unit) × Unit))
def impl_rowAll_T (fuel : Nat) : Tab := Tab.of [] []
abbrev impl_rowAll_ps : List Pm := [{ cs := [(Kd.list I6, false)], ag := false }]
abbrev impl_rowAll_rs : List Pm := [{ cs := [(I6, false)], ag := false }, { cs := [(Kd.bool, false)], ag := false }]
def impl_rowAll_ann : List Norm := [{ live := [12, 11, 10, 4], fix := [] }]
noncomputable def impl_rowAll_c : C := irOf Tryz.prog Tryz.f91 [] impl_rowAll_ann []
theorem impl_rowAll_l : lightC Tryz.prog [] Tryz.f91.ntmps impl_rowAll_ann [] 0 (bodyOf Tryz.f91) = some (impl_rowAll_c, 1) := by kernel_rfl
def impl_rowAll_rv : List (Nat × Option (Nat × Bool)) := [(2, none), (3, none)]
abbrev impl_rowAll_V0 := (Int) × (Int) × (List Int) × (Int)
def impl_rowAll_enc0 (v : impl_rowAll_V0) : Env × Heap := ([(12, SV.int .i64 v.1), (11, SV.int .i64 v.2.1), (10, SV.es I6 v.2.2.1), (4, SV.int .i64 v.2.2.2)], [])
def impl_rowAll_step0 (fuel : Nat) (g0 : impl_rowAll_V0 → impl_rowAll_R) (v : impl_rowAll_V0) : impl_rowAll_R :=
 cond (decide (v.1 < v.2.1))
 (tst (decide (0 ≤ v.1)) <|
  tst (decide (v.1 < (zz (List.length v.2.2.1)))) <|
  cond (decide (List.getD v.2.2.1 (Int.toNat v.1) 0 < (0 : Int)))
  (some ((((0 : Int), ()), (false, ()), ())))
  (cond (decide (List.getD v.2.2.1 (Int.toNat v.1) 0 > (2000 : Int)))
   (some ((((0 : Int), ()), (false, ()), ())))
   (g0 (w64 (v.1 + (1 : Int)), v.2.1, v.2.2.1, w64 (v.2.2.2 + List.getD v.2.2.1 (Int.toNat v.1) 0)))))
 (some (((v.2.2.2, ()), (decide (v.2.2.2 ≤ (2000 : Int)), ()), ())))
def impl_rowAll_st0 (fuel : Nat) (g0 : impl_rowAll_V0 → impl_rowAll_R) : impl_rowAll_V0 → impl_rowAll_R := impl_rowAll_step0 fuel g0
theorem impl_rowAll_lp0 (fuel : Nat) (G) : impl_rowAll_c.lp (impl_rowAll_T fuel) 0 fuel G (endF impl_rowAll_rv impl_rowAll_rs) 0 impl_rowAll_enc0 = iter (impl_rowAll_st0 fuel) fuel := C.lp_iter fun g v => by kernel_rfl
def impl_rowAll_pre (fuel : Nat) (X0 : impl_rowAll_V0 → impl_rowAll_R) (x0 : List Int) : impl_rowAll_R :=
 cond ((zz (List.length x0)) != (8 : Int))
 (some ((((0 : Int), ()), (false, ()), ())))
 (X0 ((0 : Int), (zz (List.length x0)), x0, (0 : Int)))
def impl_rowAll_fn (fuel : Nat) (x : (((List Int) × Unit) × Unit)) : impl_rowAll_R := impl_rowAll_pre fuel (iter (impl_rowAll_st0 fuel) fuel) x.1.1
theorem impl_rowAll_run (fuel : Nat) (x : PsT impl_rowAll_ps) : run (impl_rowAll_T fuel) 0 fuel impl_rowAll_c (env0 (svPs impl_rowAll_ps x) 0) [] (endF impl_rowAll_rv impl_rowAll_rs) = impl_rowAll_fn fuel x :=
  (show run (impl_rowAll_T fuel) 0 fuel impl_rowAll_c (env0 (svPs impl_rowAll_ps x) 0) [] (endF impl_rowAll_rv impl_rowAll_rs) = impl_rowAll_pre fuel (impl_rowAll_c.lp (impl_rowAll_T fuel) 0 fuel (fun _ _ _ => none) (endF impl_rowAll_rv impl_rowAll_rs) 0 impl_rowAll_enc0) x.1.1 by kernel_rfl).trans (by rw [impl_rowAll_lp0]; rfl)
def impl_rowAll_tf (fuel : Nat) : TF := ⟨impl_rowAll_ps, impl_rowAll_rs, true, impl_rowAll_fn fuel⟩
theorem impl_rowAll_spec (fuel : Nat) : FnSpec Tryz.prog 91 (impl_rowAll_tf fuel) :=
  fn_spec (T := impl_rowAll_T fuel) (c := bodyOf Tryz.f91) (fn := Tryz.f91) (TabOK.of (entNil) (methNil)) mixed (by kernel_rfl) (by kernel_rfl) impl_rowAll_l (by kernel_rfl) (Nat.le_of_ble_eq_true (by kernel_rfl)) (rv := impl_rowAll_rv) (by kernel_rfl) (impl_rowAll_run fuel)
theorem impl_rowAll_ok (fuel : Nat) : EntryOK Tryz.prog 91 (impl_rowAll_tf fuel).te := EntryOK.tf rfl (impl_rowAll_spec fuel) (isFn (fn := Tryz.f91) (by kernel_rfl) (by kernel_rfl) (by kernel_rfl))
def impl_RoughOk_T (fuel : Nat) : Tab := Tab.of [(91, (impl_rowAll_tf fuel).te)] []
abbrev impl_RoughOk_ps : List Pm := [{ cs := [(Kd.list (Kd.list I6), false)], ag := true }]
abbrev impl_RoughOk_rs : List Pm := [{ cs := [(Kd.bool, false)], ag := false }]
def impl_RoughOk_ann : List Norm := [{ live := [24, 23, 22, 3], fix := [] }]
noncomputable def impl_RoughOk_c : C := irOf Tryz.prog Tryz.f89 [] impl_RoughOk_ann []
theorem impl_RoughOk_l : lightC Tryz.prog [] Tryz.f89.ntmps impl_RoughOk_ann [] 0 (bodyOf Tryz.f89) = some (impl_RoughOk_c, 1) := by kernel_rfl
def impl_RoughOk_rv : List (Nat × Option (Nat × Bool)) := [(2, none)]
abbrev impl_RoughOk_V0 := (Int) × (Int) × (List (List Int)) × (Int)
def impl_RoughOk_enc0 (v : impl_RoughOk_V0) : Env × Heap := ([(24, SV.int .i64 v.1), (23, SV.int .i64 v.2.1), (22, SV.es (Kd.list I6) v.2.2.1), (3, SV.int .i64 v.2.2.2)], [])
def impl_RoughOk_step0 (fuel : Nat) (g0 : impl_RoughOk_V0 → Option ((Bool × Unit) × Unit)) (v : impl_RoughOk_V0) : Option ((Bool × Unit) × Unit) :=
 cond (decide (v.1 < v.2.1))
 (tst (decide (0 ≤ v.1)) <|
  tst (decide (v.1 < (zz (List.length v.2.2.1)))) <|
  Option.bind (impl_rowAll_fn fuel ((List.getD v.2.2.1 (Int.toNat v.1) [], ()), ())) fun y_2 =>
  cond (!y_2.2.1.1)
   (some (((false, ()), ())))
   (cond (y_2.1.1 != v.2.2.2)
    (some (((false, ()), ())))
    (g0 (w64 (v.1 + (1 : Int)), v.2.1, v.2.2.1, v.2.2.2))))
 (some (((true, ()), ())))
def impl_RoughOk_st0 (fuel : Nat) (g0 : impl_RoughOk_V0 → Option ((Bool × Unit) × Unit)) : impl_RoughOk_V0 → Option ((Bool × Unit) × Unit) := impl_RoughOk_step0 fuel g0
theorem impl_RoughOk_lp0 (fuel : Nat) (G) : impl_RoughOk_c.lp (impl_RoughOk_T fuel) 0 fuel G (endF impl_RoughOk_rv impl_RoughOk_rs) 0 impl_RoughOk_enc0 = iter (impl_RoughOk_st0 fuel) fuel := C.lp_iter fun g v => by kernel_rfl
def impl_RoughOk_pre (fuel : Nat) (X0 : impl_RoughOk_V0 → Option ((Bool × Unit) × Unit)) (x0 : List (List Int)) : Option ((Bool × Unit) × Unit) :=
 cond ((zz (List.length x0)) != (3 : Int))
 (some (((false, ()), ())))
 (tst (decide ((0 : Int) < (zz (List.length x0)))) <|
  Option.bind (impl_rowAll_fn fuel ((List.getD x0 (Int.toNat (0 : Int)) [], ()), ())) fun y_2 =>
  X0 ((0 : Int), (zz (List.length x0)), x0, y_2.1.1))
def impl_RoughOk_fn (fuel : Nat) (x : (((List (List Int)) × Unit) × Unit)) : Option ((Bool × Unit) × Unit) := impl_RoughOk_pre fuel (iter (impl_RoughOk_st0 fuel) fuel) x.1.1
theorem impl_RoughOk_run (fuel : Nat) (x : PsT impl_RoughOk_ps) : run (impl_RoughOk_T fuel) 0 fuel impl_RoughOk_c (env0 (svPs impl_RoughOk_ps x) 0) [] (endF impl_RoughOk_rv impl_RoughOk_rs) = impl_RoughOk_fn fuel x :=
  (show run (impl_RoughOk_T fuel) 0 fuel impl_RoughOk_c (env0 (svPs impl_RoughOk_ps x) 0) [] (endF impl_RoughOk_rv impl_RoughOk_rs) = impl_RoughOk_pre fuel (impl_RoughOk_c.lp (impl_RoughOk_T fuel) 0 fuel (fun _ _ _ => none) (endF impl_RoughOk_rv impl_RoughOk_rs) 0 impl_RoughOk_enc0) x.1.1 by kernel_rfl).trans (by rw [impl_RoughOk_lp0]; rfl)
def impl_RoughOk_tf (fuel : Nat) : TF := ⟨impl_RoughOk_ps, impl_RoughOk_rs, true, impl_RoughOk_fn fuel⟩
theorem impl_RoughOk_spec (fuel : Nat) : FnSpec Tryz.prog 89 (impl_RoughOk_tf fuel) :=
  fn_spec (T := impl_RoughOk_T fuel) (c := bodyOf Tryz.f89) (fn := Tryz.f89) (TabOK.of (entCons (impl_rowAll_ok fuel) entNil) (methNil)) mixed (by kernel_rfl) (by kernel_rfl) impl_RoughOk_l (by kernel_rfl) (Nat.le_of_ble_eq_true (by kernel_rfl)) (rv := impl_RoughOk_rv) (by kernel_rfl) (impl_RoughOk_run fuel)
theorem impl_RoughOk_ok (fuel : Nat) : EntryOK Tryz.prog 89 (impl_RoughOk_tf fuel).te := EntryOK.tf rfl (impl_RoughOk_spec fuel) (isFn (fn := Tryz.f89) (by kernel_rfl) (by kernel_rfl) (by kernel_rfl))
end Go.Proofs.YtdgdoeknpakmlaaGreat.Den
namespace Go.Proofs.YtdgdoeknpakmlaaGreat.Den
open Go Go.RowKit
set_option linter.unusedVariables false
set_option linter.unusedSimpArgs false
def impl_RoughAll_T (fuel : Nat) : Tab := Tab.of [(89, (impl_RoughOk_tf fuel).te), (91, (impl_rowAll_tf fuel).te)] []
abbrev impl_RoughAll_ps : List Pm := [{ cs := [(Kd.list (Kd.list I6), false)], ag := true }]
abbrev impl_RoughAll_rs : List Pm := [{ cs := [(I6, false)], ag := false }]
def impl_RoughAll_ann : List Norm := []
noncomputable def impl_RoughAll_c : C := irOf Tryz.prog Tryz.f47 [] impl_RoughAll_ann []
theorem impl_RoughAll_l : lightC Tryz.prog [] Tryz.f47.ntmps impl_RoughAll_ann [] 0 (bodyOf Tryz.f47) = some (impl_RoughAll_c, 0) := by kernel_rfl
def impl_RoughAll_rv : List (Nat × Option (Nat × Bool)) := [(2, none)]
def impl_RoughAll_pre (fuel : Nat) (x0 : List (List Int)) : Option ((Int × Unit) × Unit) :=
 Option.bind (impl_RoughOk_fn fuel ((x0, ()), ())) fun y_1 =>
 cond (!y_1.1.1)
  (some ((((-1 : Int), ()), ())))
  (tst (decide ((0 : Int) < (zz (List.length x0)))) <|
   Option.bind (impl_rowAll_fn fuel ((List.getD x0 (Int.toNat (0 : Int)) [], ()), ())) fun y_3 =>
   some (((y_3.1.1, ()), ())))
def impl_RoughAll_fn (fuel : Nat) (x : (((List (List Int)) × Unit) × Unit)) : Option ((Int × Unit) × Unit) := impl_RoughAll_pre fuel x.1.1
theorem impl_RoughAll_run (fuel : Nat) (x : PsT impl_RoughAll_ps) : run (impl_RoughAll_T fuel) 0 fuel impl_RoughAll_c (env0 (svPs impl_RoughAll_ps x) 0) [] (endF impl_RoughAll_rv impl_RoughAll_rs) = impl_RoughAll_fn fuel x := by kernel_rfl
def impl_RoughAll_tf (fuel : Nat) : TF := ⟨impl_RoughAll_ps, impl_RoughAll_rs, true, impl_RoughAll_fn fuel⟩
theorem impl_RoughAll_spec (fuel : Nat) : FnSpec Tryz.prog 47 (impl_RoughAll_tf fuel) :=
  fn_spec (T := impl_RoughAll_T fuel) (c := bodyOf Tryz.f47) (fn := Tryz.f47) (TabOK.of (entCons (impl_RoughOk_ok fuel) (entCons (impl_rowAll_ok fuel) entNil)) (methNil)) mixed (by kernel_rfl) (by kernel_rfl) impl_RoughAll_l (by kernel_rfl) (Nat.le_of_ble_eq_true (by kernel_rfl)) (rv := impl_RoughAll_rv) (by kernel_rfl) (impl_RoughAll_run fuel)
theorem impl_RoughAll_ok (fuel : Nat) : EntryOK Tryz.prog 47 (impl_RoughAll_tf fuel).te := EntryOK.tf rfl (impl_RoughAll_spec fuel) (isFn (fn := Tryz.f47) (by kernel_rfl) (by kernel_rfl) (by kernel_rfl))
def impl_plus_T (fuel : Nat) : Tab := Tab.of [] []
abbrev impl_plus_ps : List Pm := [{ cs := [(I6, false)], ag := false }, { cs := [(I6, false)], ag := false }]
abbrev impl_plus_rs : List Pm := [{ cs := [(I6, false)], ag := false }]
def impl_plus_ann : List Norm := []
noncomputable def impl_plus_c : C := irOf Tryz.prog Tryz.f163 [] impl_plus_ann []
theorem impl_plus_l : lightC Tryz.prog [] Tryz.f163.ntmps impl_plus_ann [] 0 (bodyOf Tryz.f163) = some (impl_plus_c, 0) := by kernel_rfl
def impl_plus_rv : List (Nat × Option (Nat × Bool)) := [(4, none)]
def impl_plus_pre (fuel : Nat) (x0 : Int) (x1 : Int) : Option ((Int × Unit) × Unit) :=
 some (((w64 (x0 + x1), ()), ()))
def impl_plus_fn (fuel : Nat) (x : ((Int × Unit) × ((Int × Unit) × Unit))) : Option ((Int × Unit) × Unit) := impl_plus_pre fuel x.1.1 x.2.1.1
theorem impl_plus_run (fuel : Nat) (x : PsT impl_plus_ps) : run (impl_plus_T fuel) 0 fuel impl_plus_c (env0 (svPs impl_plus_ps x) 0) [] (endF impl_plus_rv impl_plus_rs) = impl_plus_fn fuel x := by kernel_rfl
def impl_plus_tf (fuel : Nat) : TF := ⟨impl_plus_ps, impl_plus_rs, true, impl_plus_fn fuel⟩
theorem impl_plus_spec (fuel : Nat) : FnSpec Tryz.prog 163 (impl_plus_tf fuel) :=
  fn_spec (T := impl_plus_T fuel) (c := bodyOf Tryz.f163) (fn := Tryz.f163) (TabOK.of (entNil) (methNil)) mixed (by kernel_rfl) (by kernel_rfl) impl_plus_l (by kernel_rfl) (Nat.le_of_ble_eq_true (by kernel_rfl)) (rv := impl_plus_rv) (by kernel_rfl) (impl_plus_run fuel)
theorem impl_plus_ok (fuel : Nat) : EntryOK Tryz.prog 163 (impl_plus_tf fuel).te := EntryOK.tf rfl (impl_plus_spec fuel) (isFn (fn := Tryz.f163) (by kernel_rfl) (by kernel_rfl) (by kernel_rfl))
def impl_joinRows_int_T (fuel : Nat) : Tab := Tab.of [(163, (impl_plus_tf fuel).te)] []
abbrev impl_joinRows_int_ps : Sh := (.cell (Kd.list I6) 0 (.cell (Kd.list I6) 0 (.fnc 163 .nil)))
abbrev impl_joinRows_int_rs : Sh := (.cell (Kd.list I6) 1 .nil)
def impl_joinRows_int_ann : List Norm := [{ live := [14, 13, 7, 2, 0, 1], fix := [] }]
noncomputable def impl_joinRows_int_c : C := irOf Tryz.prog Tryz.f162 [] impl_joinRows_int_ann []
theorem impl_joinRows_int_l : lightC Tryz.prog [] Tryz.f162.ntmps impl_joinRows_int_ann [] 0 (bodyOf Tryz.f162) = some (impl_joinRows_int_c, 1) := by kernel_rfl
def impl_joinRows_int_rv : List (Nat × Option (Nat × Bool)) := [(6, none)]
abbrev impl_joinRows_int_V0 := (Int) × (Int) × (List Int) × (List Int) × (List Int)
def impl_joinRows_int_enc0 (v : impl_joinRows_int_V0) : Env × Heap := ([(14, SV.int .i64 v.1), (13, SV.int .i64 v.2.1), (7, SV.own 0), (2, SV.fn (Fn.func 163) [] []), (0, SV.es I6 v.2.2.1), (1, SV.es I6 v.2.2.2.1)], [Blk.arr I6 v.2.2.2.2 0])
def impl_joinRows_int_step0 (fuel : Nat) (g0 : impl_joinRows_int_V0 → Option ((List Int) × Unit)) (v : impl_joinRows_int_V0) : Option ((List Int) × Unit) :=
 cond (decide (v.1 < v.2.1))
 (tst (decide (0 ≤ v.1)) <|
  tst (decide (v.1 < (zz (List.length v.2.2.1)))) <|
  tst (decide (0 ≤ v.1)) <|
  tst (decide (v.1 < (zz (List.length v.2.2.2.1)))) <|
  Option.bind (impl_plus_fn fuel ((List.getD v.2.2.1 (Int.toNat v.1) 0, ()), (List.getD v.2.2.2.1 (Int.toNat v.1) 0, ()), ())) fun y_2 =>
  tst (decide (0 ≤ v.1)) <|
   tst (decide (v.1 < (zz (List.length v.2.2.2.2)))) <|
   tst (decide (Int.toNat v.1 < List.length v.2.2.2.2)) <|
   g0 (w64 (v.1 + (1 : Int)), v.2.1, v.2.2.1, v.2.2.2.1, List.set v.2.2.2.2 (Int.toNat v.1) y_2.1.1))
 (some ((v.2.2.2.2, ())))
def impl_joinRows_int_st0 (fuel : Nat) (g0 : impl_joinRows_int_V0 → Option ((List Int) × Unit)) : impl_joinRows_int_V0 → Option ((List Int) × Unit) := impl_joinRows_int_step0 fuel g0
theorem impl_joinRows_int_lp0 (fuel : Nat) (G) : impl_joinRows_int_c.lp (impl_joinRows_int_T fuel) 0 fuel G (endG impl_joinRows_int_rv impl_joinRows_int_rs) 0 impl_joinRows_int_enc0 = iter (impl_joinRows_int_st0 fuel) fuel := C.lp_iter fun g v => by kernel_rfl
def impl_joinRows_int_pre (fuel : Nat) (X0 : impl_joinRows_int_V0 → Option ((List Int) × Unit)) (x0 : List Int) (x1 : List Int) : Option ((List Int) × Unit) :=
 tst (decide (0 ≤ (zz (List.length x0)))) <|
 tst (decide ((zz (List.length x0)) ≤ (zz (List.length x0)))) <|
 tst (decide (Int.toNat (zz (List.length x0)) < LIM)) <|
 X0 ((0 : Int), (zz (List.length (List.replicate (Int.toNat (zz (List.length x0))) (Kd.dflt I6)))), x0, x1, List.replicate (Int.toNat (zz (List.length x0))) 0)
def impl_joinRows_int_fn (fuel : Nat) (x : ((List Int) × ((List Int) × Unit))) : Option ((List Int) × Unit) := impl_joinRows_int_pre fuel (iter (impl_joinRows_int_st0 fuel) fuel) x.1 x.2.1
theorem impl_joinRows_int_run (fuel : Nat) (x : Sh.T impl_joinRows_int_ps) : run (impl_joinRows_int_T fuel) 0 fuel impl_joinRows_int_c (env0 (svS impl_joinRows_int_ps x) 0) [] (endG impl_joinRows_int_rv impl_joinRows_int_rs) = impl_joinRows_int_fn fuel x :=
  (show run (impl_joinRows_int_T fuel) 0 fuel impl_joinRows_int_c (env0 (svS impl_joinRows_int_ps x) 0) [] (endG impl_joinRows_int_rv impl_joinRows_int_rs) = impl_joinRows_int_pre fuel (impl_joinRows_int_c.lp (impl_joinRows_int_T fuel) 0 fuel (fun _ _ _ => none) (endG impl_joinRows_int_rv impl_joinRows_int_rs) 0 impl_joinRows_int_enc0) x.1 x.2.1 by kernel_rfl).trans (by rw [impl_joinRows_int_lp0]; rfl)
def impl_joinRows_int_tf (fuel : Nat) : TG := ⟨impl_joinRows_int_ps, impl_joinRows_int_rs, true, impl_joinRows_int_fn fuel⟩
theorem impl_joinRows_int_spec (fuel : Nat) : FnSpecG Tryz.prog 162 (impl_joinRows_int_tf fuel) :=
  fn_specG (T := impl_joinRows_int_T fuel) (c := bodyOf Tryz.f162) (fn := Tryz.f162) (TabOK.of (entCons (impl_plus_ok fuel) entNil) (methNil)) mixed (by kernel_rfl) (by kernel_rfl) impl_joinRows_int_l (by kernel_rfl) (Nat.le_of_ble_eq_true (by kernel_rfl)) (rv := impl_joinRows_int_rv) (by kernel_rfl) (fun x y h => (impl_joinRows_int_run fuel x).trans h)
theorem impl_joinRows_int_ok (fuel : Nat) : EntryOK Tryz.prog 162 (impl_joinRows_int_tf fuel).te := EntryOK.tg rfl (impl_joinRows_int_spec fuel) (isFn (fn := Tryz.f162) (by kernel_rfl) (by kernel_rfl) (by kernel_rfl))
def impl_roughSum_1_T (fuel : Nat) : Tab := Tab.of [(162, (impl_joinRows_int_tf fuel).te)] []
abbrev impl_roughSum_1_ps : List Pm := [{ cs := [(Kd.list I6, false)], ag := false }, { cs := [(Kd.list I6, false)], ag := false }]
abbrev impl_roughSum_1_rs : List Pm := [{ cs := [(Kd.list I6, true)], ag := false }]
def impl_roughSum_1_ann : List Norm := []
noncomputable def impl_roughSum_1_c : C := irOf Tryz.prog Tryz.f161 [] impl_roughSum_1_ann []
theorem impl_roughSum_1_l : lightC Tryz.prog [] Tryz.f161.ntmps impl_roughSum_1_ann [] 0 (bodyOf Tryz.f161) = some (impl_roughSum_1_c, 0) := by kernel_rfl
def impl_roughSum_1_rv : List (Nat × Option (Nat × Bool)) := [(4, none)]
def impl_roughSum_1_pre (fuel : Nat) (x0 : List Int) (x1 : List Int) : Option (((List Int) × Unit) × Unit) :=
 Option.bind (impl_joinRows_int_fn fuel (x0, x1, ())) fun y_1 =>
 some (((y_1.1, ()), ()))
def impl_roughSum_1_fn (fuel : Nat) (x : (((List Int) × Unit) × (((List Int) × Unit) × Unit))) : Option (((List Int) × Unit) × Unit) := impl_roughSum_1_pre fuel x.1.1 x.2.1.1
theorem impl_roughSum_1_run (fuel : Nat) (x : PsT impl_roughSum_1_ps) : run (impl_roughSum_1_T fuel) 0 fuel impl_roughSum_1_c (env0 (svPs impl_roughSum_1_ps x) 0) [] (endF impl_roughSum_1_rv impl_roughSum_1_rs) = impl_roughSum_1_fn fuel x := by kernel_rfl
def impl_roughSum_1_tf (fuel : Nat) : TF := ⟨impl_roughSum_1_ps, impl_roughSum_1_rs, true, impl_roughSum_1_fn fuel⟩
theorem impl_roughSum_1_spec (fuel : Nat) : FnSpec Tryz.prog 161 (impl_roughSum_1_tf fuel) :=
  fn_spec (T := impl_roughSum_1_T fuel) (c := bodyOf Tryz.f161) (fn := Tryz.f161) (TabOK.of (entCons (impl_joinRows_int_ok fuel) entNil) (methNil)) mixed (by kernel_rfl) (by kernel_rfl) impl_roughSum_1_l (by kernel_rfl) (Nat.le_of_ble_eq_true (by kernel_rfl)) (rv := impl_roughSum_1_rv) (by kernel_rfl) (impl_roughSum_1_run fuel)
theorem impl_roughSum_1_ok (fuel : Nat) : EntryOK Tryz.prog 161 (impl_roughSum_1_tf fuel).te := EntryOK.tf rfl (impl_roughSum_1_spec fuel) (isFn (fn := Tryz.f161) (by kernel_rfl) (by kernel_rfl) (by kernel_rfl))
def impl_joinRows_ints_T (fuel : Nat) : Tab := Tab.of [(161, (impl_roughSum_1_tf fuel).te)] []
abbrev impl_joinRows_ints_ps : Sh := (.cell (Kd.list (Kd.list I6)) 5 (.cell (Kd.list (Kd.list I6)) 5 (.fnc 161 .nil)))
abbrev impl_joinRows_ints_rs : Sh := (.cell (Kd.list (Kd.list I6)) 5 .nil)
def impl_joinRows_ints_ann : List Norm := [{ live := [14, 13, 7, 2, 0, 1], fix := [] }]
noncomputable def impl_joinRows_ints_c : C := irOf Tryz.prog Tryz.f160 [11] impl_joinRows_ints_ann []
theorem impl_joinRows_ints_l : lightC Tryz.prog [11] Tryz.f160.ntmps impl_joinRows_ints_ann [] 0 (bodyOf Tryz.f160) = some (impl_joinRows_ints_c, 1) := by kernel_rfl
def impl_joinRows_ints_rv : List (Nat × Option (Nat × Bool)) := [(6, none)]
def impl_joinRows_ints_pre (fuel : Nat) (x0 : List Int) (x1 : List Int) (x2 : List Int) (x3 : List Int) (x4 : List Int) (x5 : List Int) : Option ((List (List Int)) × Unit) :=
 Option.bind (impl_roughSum_1_fn fuel ((x0, ()), (x3, ()), ())) fun y_1 =>
 Option.bind (impl_roughSum_1_fn fuel ((x1, ()), (x4, ()), ())) fun y_2 =>
  Option.bind (impl_roughSum_1_fn fuel ((x2, ()), (x5, ()), ())) fun y_3 =>
   some (([y_1.1.1, y_2.1.1, y_3.1.1], ()))
def impl_joinRows_ints_fn (fuel : Nat) (x : ((List (List Int)) × ((List (List Int)) × Unit))) : Option ((List (List Int)) × Unit) := lit3 x.1 fun x0 x1 x2 => lit3 x.2.1 fun x3 x4 x5 => impl_joinRows_ints_pre fuel x0 x1 x2 x3 x4 x5
theorem impl_joinRows_ints_run (fuel : Nat) (x0 : List Int) (x1 : List Int) (x2 : List Int) (x3 : List Int) (x4 : List Int) (x5 : List Int) : run (impl_joinRows_ints_T fuel) 0 (fuel + 6) impl_joinRows_ints_c (env0 (svS impl_joinRows_ints_ps ([x0, x1, x2], [x3, x4, x5], ())) 0) [] (endG impl_joinRows_ints_rv impl_joinRows_ints_rs) = impl_joinRows_ints_pre fuel x0 x1 x2 x3 x4 x5 := by kernel_rfl
def impl_joinRows_ints_tf (fuel : Nat) : TG := ⟨impl_joinRows_ints_ps, impl_joinRows_ints_rs, true, impl_joinRows_ints_fn fuel⟩
theorem impl_joinRows_ints_spec (fuel : Nat) : FnSpecG Tryz.prog 160 (impl_joinRows_ints_tf fuel) :=
  fn_specG (T := impl_joinRows_ints_T fuel) (c := bodyOf Tryz.f160) (fn := Tryz.f160) (TabOK.of (entCons (impl_roughSum_1_ok fuel) entNil) (methNil)) mixed (by kernel_rfl) (by kernel_rfl) impl_joinRows_ints_l (by kernel_rfl) (Nat.le_of_ble_eq_true (by kernel_rfl)) (rv := impl_joinRows_ints_rv) (by kernel_rfl) (fun x y h => by
    obtain ⟨l0, l1, ⟨⟩⟩ := x
    obtain ⟨x0, x1, x2, rfl, h⟩ := lit3_some (show lit3 l0 (fun x0 x1 x2 => lit3 l1 fun x3 x4 x5 => impl_joinRows_ints_pre fuel x0 x1 x2 x3 x4 x5) = some y from h)
    obtain ⟨x3, x4, x5, rfl, h⟩ := lit3_some (show lit3 l1 (fun x3 x4 x5 => impl_joinRows_ints_pre fuel x0 x1 x2 x3 x4 x5) = some y from h)
    exact (impl_joinRows_ints_run fuel x0 x1 x2 x3 x4 x5).trans h)
theorem impl_joinRows_ints_ok (fuel : Nat) : EntryOK Tryz.prog 160 (impl_joinRows_ints_tf fuel).te := EntryOK.tg rfl (impl_joinRows_ints_spec fuel) (isFn (fn := Tryz.f160) (by kernel_rfl) (by kernel_rfl) (by kernel_rfl))
def impl_roughSum_T (fuel : Nat) : Tab := Tab.of [(160, (impl_joinRows_ints_tf fuel).te)] []
abbrev impl_roughSum_ps : Sh := (.agg (.cell (Kd.list (Kd.list I6)) 0 .nil) (.agg (.cell (Kd.list (Kd.list I6)) 0 .nil) .nil))
abbrev impl_roughSum_rs : Sh := (.agg (.cell (Kd.list (Kd.list I6)) 5 .nil) .nil)
def impl_roughSum_ann : List Norm := []
noncomputable def impl_roughSum_c : C := irOf Tryz.prog Tryz.f112 [] impl_roughSum_ann []
theorem impl_roughSum_l : lightC Tryz.prog [] Tryz.f112.ntmps impl_roughSum_ann [] 0 (bodyOf Tryz.f112) = some (impl_roughSum_c, 0) := by kernel_rfl
def impl_roughSum_rv : List (Nat × Option (Nat × Bool)) := [(4, some (1, true))]
def impl_roughSum_pre (fuel : Nat) (x0 : List (List Int)) (x1 : List (List Int)) : Option (((List (List Int)) × Unit) × Unit) :=
 Option.bind (impl_joinRows_ints_fn fuel (x0, x1, ())) fun y_1 =>
 some ((([List.getD y_1.1 0 [], List.getD y_1.1 1 [], List.getD y_1.1 2 []], ()), ()))
def impl_roughSum_fn (fuel : Nat) (x : (((List (List Int)) × Unit) × (((List (List Int)) × Unit) × Unit))) : Option (((List (List Int)) × Unit) × Unit) := impl_roughSum_pre fuel x.1.1 x.2.1.1
theorem impl_roughSum_run (fuel : Nat) (x : Sh.T impl_roughSum_ps) : run (impl_roughSum_T fuel) 0 fuel impl_roughSum_c (env0 (svS impl_roughSum_ps x) 0) [] (endG impl_roughSum_rv impl_roughSum_rs) = impl_roughSum_fn fuel x := by kernel_rfl
def impl_roughSum_tf (fuel : Nat) : TG := ⟨impl_roughSum_ps, impl_roughSum_rs, true, impl_roughSum_fn fuel⟩
theorem impl_roughSum_spec (fuel : Nat) : FnSpecG Tryz.prog 112 (impl_roughSum_tf fuel) :=
  fn_specG (T := impl_roughSum_T fuel) (c := bodyOf Tryz.f112) (fn := Tryz.f112) (TabOK.of (entCons (impl_joinRows_ints_ok fuel) entNil) (methNil)) mixed (by kernel_rfl) (by kernel_rfl) impl_roughSum_l (by kernel_rfl) (Nat.le_of_ble_eq_true (by kernel_rfl)) (rv := impl_roughSum_rv) (by kernel_rfl) (fun x y h => (impl_roughSum_run fuel x).trans h)
theorem impl_roughSum_ok (fuel : Nat) : EntryOK Tryz.prog 112 (impl_roughSum_tf fuel).te := EntryOK.tg rfl (impl_roughSum_spec fuel) (isFn (fn := Tryz.f112) (by kernel_rfl) (by kernel_rfl) (by kernel_rfl))
def impl_RoughAdd_T (fuel : Nat) : Tab := Tab.of [(43, (impl_RoughPlace_tf fuel).te), (47, (impl_RoughAll_tf fuel).te), (83, (impl_RoughNew_tf fuel).te), (86, (impl_isThing_tf fuel).te), (89, (impl_RoughOk_tf fuel).te), (112, (impl_roughSum_tf fuel).te)] []
abbrev impl_RoughAdd_ps : List Pm := [{ cs := [(Kd.list (Kd.list I6), false)], ag := true }, { cs := [(I6, false)], ag := false }, { cs := [(I6, false)], ag := false }]
abbrev impl_RoughAdd_rs : List Pm := [{ cs := [(Kd.list (Kd.list I6), false)], ag := true }, { cs := [(Kd.bool, false)], ag := false }]
def impl_RoughAdd_ann : List Norm := [{ live := [36, 35, 8, 1, 2, 6], fix := [] }]
noncomputable def impl_RoughAdd_c : C := irOf Tryz.prog Tryz.f62 [] impl_RoughAdd_ann []
theorem impl_RoughAdd_l : lightC Tryz.prog [] Tryz.f62.ntmps impl_RoughAdd_ann [] 0 (bodyOf Tryz.f62) = some (impl_RoughAdd_c, 1) := by kernel_rfl
def impl_RoughAdd_rv : List (Nat × Option (Nat × Bool)) := [(6, some (1, true)), (7, none)]
def impl_RoughAdd_pre (fuel : Nat) (x0 : List (List Int)) (x1 : Int) (x2 : Int) : Option (((List (List Int)) × Unit) × ((Bool × Unit) × Unit)) :=
 Option.bind (impl_RoughOk_fn fuel ((x0, ()), ())) fun y_1 =>
 cond (!y_1.1.1)
  (some ((([], ()), (false, ()), ())))
  (Option.bind (impl_isThing_fn fuel ((x1, ()), ())) fun y_3 =>
   cond (!y_3.1.1)
    (some ((([], ()), (false, ()), ())))
    (cond (decide (x2 < (0 : Int)))
     (some ((([], ()), (false, ()), ())))
     (Option.bind (impl_RoughAll_fn fuel ((x0, ()), ())) fun y_6 =>
      cond (decide (x2 > w64 ((2000 : Int) - y_6.1.1)))
       (some ((([], ()), (false, ()), ())))
       (Option.bind (impl_RoughNew_fn fuel ()) fun y_8 =>
        Option.bind (impl_roughSum_fn fuel ((x0, ()), (y_8.1.1, ()), ())) fun y_9 =>
         Option.bind (impl_RoughPlace_fn fuel (((0 : Int), ()), (x1, ()), ())) fun y_10 =>
          tst (decide (0 ≤ y_10.1.1)) <|
           tst (decide (y_10.1.1 < (zz (List.length (List.getD y_9.1.1 0 []))))) <|
           tst (decide (Int.toNat y_10.1.1 < List.length (List.getD y_9.1.1 0 []))) <|
           tst (decide (0 ≤ y_10.1.1)) <|
           tst (decide (y_10.1.1 < (zz (List.length (List.getD y_9.1.1 0 []))))) <|
           tst (decide (Int.toNat y_10.1.1 < List.length (List.getD y_9.1.1 0 []))) <|
           let z1_4 := List.set (List.getD y_9.1.1 0 []) (Int.toNat y_10.1.1) (w64 (List.getD (List.getD y_9.1.1 0 []) (Int.toNat y_10.1.1) 0 + x2))
           Option.bind (impl_RoughPlace_fn fuel (((1 : Int), ()), (x1, ()), ())) fun y_11 =>
           tst (decide (0 ≤ y_11.1.1)) <|
            tst (decide (y_11.1.1 < (zz (List.length (List.getD y_9.1.1 1 []))))) <|
            tst (decide (Int.toNat y_11.1.1 < List.length (List.getD y_9.1.1 1 []))) <|
            tst (decide (0 ≤ y_11.1.1)) <|
            tst (decide (y_11.1.1 < (zz (List.length (List.getD y_9.1.1 1 []))))) <|
            tst (decide (Int.toNat y_11.1.1 < List.length (List.getD y_9.1.1 1 []))) <|
            let z2_5 := List.set (List.getD y_9.1.1 1 []) (Int.toNat y_11.1.1) (w64 (List.getD (List.getD y_9.1.1 1 []) (Int.toNat y_11.1.1) 0 + x2))
            Option.bind (impl_RoughPlace_fn fuel (((2 : Int), ()), (x1, ()), ())) fun y_12 =>
            tst (decide (0 ≤ y_12.1.1)) <|
             tst (decide (y_12.1.1 < (zz (List.length (List.getD y_9.1.1 2 []))))) <|
             tst (decide (Int.toNat y_12.1.1 < List.length (List.getD y_9.1.1 2 []))) <|
             tst (decide (0 ≤ y_12.1.1)) <|
             tst (decide (y_12.1.1 < (zz (List.length (List.getD y_9.1.1 2 []))))) <|
             tst (decide (Int.toNat y_12.1.1 < List.length (List.getD y_9.1.1 2 []))) <|
             let z3_6 := List.set (List.getD y_9.1.1 2 []) (Int.toNat y_12.1.1) (w64 (List.getD (List.getD y_9.1.1 2 []) (Int.toNat y_12.1.1) 0 + x2))
             some ((([z1_4, z2_5, z3_6], ()), (true, ()), ()))))))
def impl_RoughAdd_fn (fuel : Nat) (x : (((List (List Int)) × Unit) × ((Int × Unit) × ((Int × Unit) × Unit)))) : Option (((List (List Int)) × Unit) × ((Bool × Unit) × Unit)) := impl_RoughAdd_pre fuel x.1.1 x.2.1.1 x.2.2.1.1
theorem impl_RoughAdd_run (fuel : Nat) (x : PsT impl_RoughAdd_ps) : run (impl_RoughAdd_T fuel) 0 (fuel + 6) impl_RoughAdd_c (env0 (svPs impl_RoughAdd_ps x) 0) [] (endF impl_RoughAdd_rv impl_RoughAdd_rs) = impl_RoughAdd_fn fuel x := by kernel_rfl
def impl_RoughAdd_tf (fuel : Nat) : TF := ⟨impl_RoughAdd_ps, impl_RoughAdd_rs, false, impl_RoughAdd_fn fuel⟩
theorem impl_RoughAdd_spec (fuel : Nat) : FnSpec Tryz.prog 62 (impl_RoughAdd_tf fuel) :=
  fn_spec (T := impl_RoughAdd_T fuel) (c := bodyOf Tryz.f62) (fn := Tryz.f62) (TabOK.of (entCons (impl_RoughPlace_ok fuel) (entCons (impl_RoughAll_ok fuel) (entCons (impl_RoughNew_ok fuel) (entCons (impl_isThing_ok fuel) (entCons (impl_RoughOk_ok fuel) (entCons (impl_roughSum_ok fuel) entNil)))))) (methNil)) mixed (by kernel_rfl) (by kernel_rfl) impl_RoughAdd_l (by kernel_rfl) (Nat.le_of_ble_eq_true (by kernel_rfl)) (rv := impl_RoughAdd_rv) (by kernel_rfl) (impl_RoughAdd_run fuel)
theorem impl_RoughAdd_ok (fuel : Nat) : EntryOK Tryz.prog 62 (impl_RoughAdd_tf fuel).te := EntryOK.tf rfl (impl_RoughAdd_spec fuel) (isFn (fn := Tryz.f62) (by kernel_rfl) (by kernel_rfl) (by kernel_rfl))
def impl_Rough_with_T (fuel : Nat) : Tab := Tab.of [(62, (impl_RoughAdd_tf fuel).te)] []
abbrev impl_Rough_with_ps : Sh := (.agg (.cell (Kd.list (Kd.list I6)) 0 .nil) (.cell I6 0 .nil))
abbrev impl_Rough_with_rs : Sh := (.ifc 27 (.agg (.cell (Kd.list (Kd.list I6)) 0 .nil) .nil) (.cell Kd.bool 0 .nil))
def impl_Rough_with_ann : List Norm := []
noncomputable def impl_Rough_with_c : C := irOf Tryz.prog Tryz.f233 [] impl_Rough_with_ann []
theorem impl_Rough_with_l : lightC Tryz.prog [] Tryz.f233.ntmps impl_Rough_with_ann [] 0 (bodyOf Tryz.f233) = some (impl_Rough_with_c, 0) := by kernel_rfl
def impl_Rough_with_rv : List (Nat × Option (Nat × Bool)) := [(4, none), (5, none)]
def impl_Rough_with_pre (fuel : Nat) (x0 : List (List Int)) (x1 : Int) : Option ((((List (List Int)) × Unit) × Unit) × (Bool × Unit)) :=
 Option.bind (impl_RoughAdd_fn fuel ((x0, ()), (x1, ()), ((1 : Int), ()), ())) fun y_1 =>
 some ((((y_1.1.1, ()), ()), y_1.2.1.1, ()))
def impl_Rough_with_fn (fuel : Nat) (x : (((List (List Int)) × Unit) × (Int × Unit))) : Option ((((List (List Int)) × Unit) × Unit) × (Bool × Unit)) := impl_Rough_with_pre fuel x.1.1 x.2.1
theorem impl_Rough_with_run (fuel : Nat) (x : Sh.T impl_Rough_with_ps) : run (impl_Rough_with_T fuel) 0 fuel impl_Rough_with_c (env0 (svS impl_Rough_with_ps x) 0) [] (endG impl_Rough_with_rv impl_Rough_with_rs) = impl_Rough_with_fn fuel x := by kernel_rfl
def impl_Rough_with_tf (fuel : Nat) : TG := ⟨impl_Rough_with_ps, impl_Rough_with_rs, false, impl_Rough_with_fn fuel⟩
theorem impl_Rough_with_spec (fuel : Nat) : FnSpecG Tryz.prog 233 (impl_Rough_with_tf fuel) :=
  fn_specG (T := impl_Rough_with_T fuel) (c := bodyOf Tryz.f233) (fn := Tryz.f233) (TabOK.of (entCons (impl_RoughAdd_ok fuel) entNil) (methNil)) mixed (by kernel_rfl) (by kernel_rfl) impl_Rough_with_l (by kernel_rfl) (Nat.le_of_ble_eq_true (by kernel_rfl)) (rv := impl_Rough_with_rv) (by kernel_rfl) (fun x y h => (impl_Rough_with_run fuel x).trans h)
theorem impl_Rough_with_ok (fuel : Nat) : EntryOK Tryz.prog 233 (impl_Rough_with_tf fuel).te := EntryOK.tg rfl (impl_Rough_with_spec fuel) (isFn (fn := Tryz.f233) (by kernel_rfl) (by kernel_rfl) (by kernel_rfl))
def impl_FewOk_T (fuel : Nat) : Tab := Tab.of [] []
abbrev impl_FewOk_ps : List Pm := [{ cs := [(Kd.list I6, false)], ag := true }]
abbrev impl_FewOk_rs : List Pm := [{ cs := [(Kd.bool, false)], ag := false }]
def impl_FewOk_ann : List Norm := [{ live := [13, 12, 11, 3], fix := [] }]
noncomputable def impl_FewOk_c : C := irOf Tryz.prog Tryz.f84 [] impl_FewOk_ann []
theorem impl_FewOk_l : lightC Tryz.prog [] Tryz.f84.ntmps impl_FewOk_ann [] 0 (bodyOf Tryz.f84) = some (impl_FewOk_c, 1) := by kernel_rfl
def impl_FewOk_rv : List (Nat × Option (Nat × Bool)) := [(2, none)]
abbrev impl_FewOk_V0 := (Int) × (Int) × (List Int) × (Int)
def impl_FewOk_enc0 (v : impl_FewOk_V0) : Env × Heap := ([(13, SV.int .i64 v.1), (12, SV.int .i64 v.2.1), (11, SV.es I6 v.2.2.1), (3, SV.int .i64 v.2.2.2)], [])
def impl_FewOk_step0 (fuel : Nat) (g0 : impl_FewOk_V0 → Option ((Bool × Unit) × Unit)) (v : impl_FewOk_V0) : Option ((Bool × Unit) × Unit) :=
 cond (decide (v.1 < v.2.1))
 (tst (decide (0 ≤ v.1)) <|
  tst (decide (v.1 < (zz (List.length v.2.2.1)))) <|
  cond (decide (List.getD v.2.2.1 (Int.toNat v.1) 0 ≤ v.2.2.2))
  (some (((false, ()), ())))
  (cond (decide (List.getD v.2.2.1 (Int.toNat v.1) 0 ≥ (64 : Int)))
   (some (((false, ()), ())))
   (g0 (w64 (v.1 + (1 : Int)), v.2.1, v.2.2.1, List.getD v.2.2.1 (Int.toNat v.1) 0))))
 (some (((true, ()), ())))
def impl_FewOk_st0 (fuel : Nat) (g0 : impl_FewOk_V0 → Option ((Bool × Unit) × Unit)) : impl_FewOk_V0 → Option ((Bool × Unit) × Unit) := impl_FewOk_step0 fuel g0
theorem impl_FewOk_lp0 (fuel : Nat) (G) : impl_FewOk_c.lp (impl_FewOk_T fuel) 0 fuel G (endF impl_FewOk_rv impl_FewOk_rs) 0 impl_FewOk_enc0 = iter (impl_FewOk_st0 fuel) fuel := C.lp_iter fun g v => by kernel_rfl
def impl_FewOk_pre (fuel : Nat) (X0 : impl_FewOk_V0 → Option ((Bool × Unit) × Unit)) (x0 : List Int) : Option ((Bool × Unit) × Unit) :=
 cond (decide ((zz (List.length x0)) > (6 : Int)))
 (some (((false, ()), ())))
 (X0 ((0 : Int), (zz (List.length x0)), x0, (-1 : Int)))
def impl_FewOk_fn (fuel : Nat) (x : (((List Int) × Unit) × Unit)) : Option ((Bool × Unit) × Unit) := impl_FewOk_pre fuel (iter (impl_FewOk_st0 fuel) fuel) x.1.1
theorem impl_FewOk_run (fuel : Nat) (x : PsT impl_FewOk_ps) : run (impl_FewOk_T fuel) 0 fuel impl_FewOk_c (env0 (svPs impl_FewOk_ps x) 0) [] (endF impl_FewOk_rv impl_FewOk_rs) = impl_FewOk_fn fuel x :=
  (show run (impl_FewOk_T fuel) 0 fuel impl_FewOk_c (env0 (svPs impl_FewOk_ps x) 0) [] (endF impl_FewOk_rv impl_FewOk_rs) = impl_FewOk_pre fuel (impl_FewOk_c.lp (impl_FewOk_T fuel) 0 fuel (fun _ _ _ => none) (endF impl_FewOk_rv impl_FewOk_rs) 0 impl_FewOk_enc0) x.1.1 by kernel_rfl).trans (by rw [impl_FewOk_lp0]; rfl)
def impl_FewOk_tf (fuel : Nat) : TF := ⟨impl_FewOk_ps, impl_FewOk_rs, true, impl_FewOk_fn fuel⟩
theorem impl_FewOk_spec (fuel : Nat) : FnSpec Tryz.prog 84 (impl_FewOk_tf fuel) :=
  fn_spec (T := impl_FewOk_T fuel) (c := bodyOf Tryz.f84) (fn := Tryz.f84) (TabOK.of (entNil) (methNil)) mixed (by kernel_rfl) (by kernel_rfl) impl_FewOk_l (by kernel_rfl) (Nat.le_of_ble_eq_true (by kernel_rfl)) (rv := impl_FewOk_rv) (by kernel_rfl) (impl_FewOk_run fuel)
theorem impl_FewOk_ok (fuel : Nat) : EntryOK Tryz.prog 84 (impl_FewOk_tf fuel).te := EntryOK.tf rfl (impl_FewOk_spec fuel) (isFn (fn := Tryz.f84) (by kernel_rfl) (by kernel_rfl) (by kernel_rfl))
def impl_FewMark_T (fuel : Nat) : Tab := Tab.of [(86, (impl_isThing_tf fuel).te)] []
abbrev impl_FewMark_ps : List Pm := [{ cs := [(I6, false)], ag := false }]
abbrev impl_FewMark_rs : List Pm := [{ cs := [(I6, false)], ag := false }]
def impl_FewMark_ann : List Norm := []
noncomputable def impl_FewMark_c : C := irOf Tryz.prog Tryz.f93 [] impl_FewMark_ann []
theorem impl_FewMark_l : lightC Tryz.prog [] Tryz.f93.ntmps impl_FewMark_ann [] 0 (bodyOf Tryz.f93) = some (impl_FewMark_c, 0) := by kernel_rfl
def impl_FewMark_rv : List (Nat × Option (Nat × Bool)) := [(2, none)]
def impl_FewMark_pre (fuel : Nat) (x0 : Int) : Option ((Int × Unit) × Unit) :=
 Option.bind (impl_isThing_fn fuel ((x0, ()), ())) fun y_1 =>
 cond (!y_1.1.1)
  (some ((((-1 : Int), ()), ())))
  (some (((Int.tmod (w64 (w64 ((37 : Int) * x0) + (11 : Int))) (64 : Int), ()), ())))
def impl_FewMark_fn (fuel : Nat) (x : ((Int × Unit) × Unit)) : Option ((Int × Unit) × Unit) := impl_FewMark_pre fuel x.1.1
theorem impl_FewMark_run (fuel : Nat) (x : PsT impl_FewMark_ps) : run (impl_FewMark_T fuel) 0 fuel impl_FewMark_c (env0 (svPs impl_FewMark_ps x) 0) [] (endF impl_FewMark_rv impl_FewMark_rs) = impl_FewMark_fn fuel x := by kernel_rfl
def impl_FewMark_tf (fuel : Nat) : TF := ⟨impl_FewMark_ps, impl_FewMark_rs, true, impl_FewMark_fn fuel⟩
theorem impl_FewMark_spec (fuel : Nat) : FnSpec Tryz.prog 93 (impl_FewMark_tf fuel) :=
  fn_spec (T := impl_FewMark_T fuel) (c := bodyOf Tryz.f93) (fn := Tryz.f93) (TabOK.of (entCons (impl_isThing_ok fuel) entNil) (methNil)) mixed (by kernel_rfl) (by kernel_rfl) impl_FewMark_l (by kernel_rfl) (Nat.le_of_ble_eq_true (by kernel_rfl)) (rv := impl_FewMark_rv) (by kernel_rfl) (impl_FewMark_run fuel)
theorem impl_FewMark_ok (fuel : Nat) : EntryOK Tryz.prog 93 (impl_FewMark_tf fuel).te := EntryOK.tf rfl (impl_FewMark_spec fuel) (isFn (fn := Tryz.f93) (by kernel_rfl) (by kernel_rfl) (by kernel_rfl))
def impl_FewAdd_T (fuel : Nat) : Tab := Tab.of [(84, (impl_FewOk_tf fuel).te), (86, (impl_isThing_tf fuel).te), (93, (impl_FewMark_tf fuel).te), (113, (impl_leastOf_tf fuel).te)] []
abbrev impl_FewAdd_ps : List Pm := [{ cs := [(Kd.list I6, false)], ag := true }, { cs := [(I6, false)], ag := false }]
abbrev impl_FewAdd_rs : List Pm := [{ cs := [(Kd.list I6, true)], ag := true }, { cs := [(Kd.bool, false)], ag := false }]
def impl_FewAdd_ann : List Norm := []
noncomputable def impl_FewAdd_c : C := irOf Tryz.prog Tryz.f63 [] impl_FewAdd_ann []
theorem impl_FewAdd_l : lightC Tryz.prog [] Tryz.f63.ntmps impl_FewAdd_ann [] 0 (bodyOf Tryz.f63) = some (impl_FewAdd_c, 0) := by kernel_rfl
def impl_FewAdd_rv : List (Nat × Option (Nat × Bool)) := [(4, some (1, true)), (5, none)]
def impl_FewAdd_pre (fuel : Nat) (x0 : List Int) (x1 : Int) : Option (((List Int) × Unit) × ((Bool × Unit) × Unit)) :=
 Option.bind (impl_FewOk_fn fuel ((x0, ()), ())) fun y_1 =>
 cond (!y_1.1.1)
  (some ((([], ()), (false, ()), ())))
  (Option.bind (impl_isThing_fn fuel ((x1, ()), ())) fun y_3 =>
   cond (!y_3.1.1)
    (some ((([], ()), (false, ()), ())))
    (Option.bind (impl_FewMark_fn fuel ((x1, ()), ())) fun y_5 =>
     Option.bind (impl_leastOf_fn fuel ((x0, ()), ([y_5.1.1], ()), ())) fun y_6 =>
      some (((y_6.1.1, ()), (true, ()), ()))))
def impl_FewAdd_fn (fuel : Nat) (x : (((List Int) × Unit) × ((Int × Unit) × Unit))) : Option (((List Int) × Unit) × ((Bool × Unit) × Unit)) := impl_FewAdd_pre fuel x.1.1 x.2.1.1
theorem impl_FewAdd_run (fuel : Nat) (x : PsT impl_FewAdd_ps) : run (impl_FewAdd_T fuel) 0 fuel impl_FewAdd_c (env0 (svPs impl_FewAdd_ps x) 0) [] (endF impl_FewAdd_rv impl_FewAdd_rs) = impl_FewAdd_fn fuel x := by kernel_rfl
def impl_FewAdd_tf (fuel : Nat) : TF := ⟨impl_FewAdd_ps, impl_FewAdd_rs, true, impl_FewAdd_fn fuel⟩
theorem impl_FewAdd_spec (fuel : Nat) : FnSpec Tryz.prog 63 (impl_FewAdd_tf fuel) :=
  fn_spec (T := impl_FewAdd_T fuel) (c := bodyOf Tryz.f63) (fn := Tryz.f63) (TabOK.of (entCons (impl_FewOk_ok fuel) (entCons (impl_isThing_ok fuel) (entCons (impl_FewMark_ok fuel) (entCons (impl_leastOf_ok fuel) entNil)))) (methNil)) mixed (by kernel_rfl) (by kernel_rfl) impl_FewAdd_l (by kernel_rfl) (Nat.le_of_ble_eq_true (by kernel_rfl)) (rv := impl_FewAdd_rv) (by kernel_rfl) (impl_FewAdd_run fuel)
theorem impl_FewAdd_ok (fuel : Nat) : EntryOK Tryz.prog 63 (impl_FewAdd_tf fuel).te := EntryOK.tf rfl (impl_FewAdd_spec fuel) (isFn (fn := Tryz.f63) (by kernel_rfl) (by kernel_rfl) (by kernel_rfl))
def impl_Few_with_T (fuel : Nat) : Tab := Tab.of [(63, (impl_FewAdd_tf fuel).te)] []
abbrev impl_Few_with_ps : Sh := (.agg (.cell (Kd.list I6) 0 .nil) (.cell I6 0 .nil))
abbrev impl_Few_with_rs : Sh := (.ifc 29 (.agg (.cell (Kd.list I6) 0 .nil) .nil) (.cell Kd.bool 0 .nil))
def impl_Few_with_ann : List Norm := []
noncomputable def impl_Few_with_c : C := irOf Tryz.prog Tryz.f235 [] impl_Few_with_ann []
theorem impl_Few_with_l : lightC Tryz.prog [] Tryz.f235.ntmps impl_Few_with_ann [] 0 (bodyOf Tryz.f235) = some (impl_Few_with_c, 0) := by kernel_rfl
def impl_Few_with_rv : List (Nat × Option (Nat × Bool)) := [(4, none), (5, none)]
def impl_Few_with_pre (fuel : Nat) (x0 : List Int) (x1 : Int) : Option ((((List Int) × Unit) × Unit) × (Bool × Unit)) :=
 Option.bind (impl_FewAdd_fn fuel ((x0, ()), (x1, ()), ())) fun y_1 =>
 some ((((y_1.1.1, ()), ()), y_1.2.1.1, ()))
def impl_Few_with_fn (fuel : Nat) (x : (((List Int) × Unit) × (Int × Unit))) : Option ((((List Int) × Unit) × Unit) × (Bool × Unit)) := impl_Few_with_pre fuel x.1.1 x.2.1
theorem impl_Few_with_run (fuel : Nat) (x : Sh.T impl_Few_with_ps) : run (impl_Few_with_T fuel) 0 fuel impl_Few_with_c (env0 (svS impl_Few_with_ps x) 0) [] (endG impl_Few_with_rv impl_Few_with_rs) = impl_Few_with_fn fuel x := by kernel_rfl
def impl_Few_with_tf (fuel : Nat) : TG := ⟨impl_Few_with_ps, impl_Few_with_rs, false, impl_Few_with_fn fuel⟩
theorem impl_Few_with_spec (fuel : Nat) : FnSpecG Tryz.prog 235 (impl_Few_with_tf fuel) :=
  fn_specG (T := impl_Few_with_T fuel) (c := bodyOf Tryz.f235) (fn := Tryz.f235) (TabOK.of (entCons (impl_FewAdd_ok fuel) entNil) (methNil)) mixed (by kernel_rfl) (by kernel_rfl) impl_Few_with_l (by kernel_rfl) (Nat.le_of_ble_eq_true (by kernel_rfl)) (rv := impl_Few_with_rv) (by kernel_rfl) (fun x y h => (impl_Few_with_run fuel x).trans h)
theorem impl_Few_with_ok (fuel : Nat) : EntryOK Tryz.prog 235 (impl_Few_with_tf fuel).te := EntryOK.tg rfl (impl_Few_with_spec fuel) (isFn (fn := Tryz.f235) (by kernel_rfl) (by kernel_rfl) (by kernel_rfl))
def impl_TopOk_T (fuel : Nat) : Tab := Tab.of [] []
abbrev impl_TopOk_ps : List Pm := [{ cs := [(Kd.list KP, false), (I6, false), (I6, false)], ag := true }]
abbrev impl_TopOk_rs : List Pm := [{ cs := [(Kd.bool, false)], ag := false }]
def impl_TopOk_ann : List Norm := [{ live := [37, 36, 35, 4, 3, 1], fix := [] }]
noncomputable def impl_TopOk_c : C := irOf Tryz.prog Tryz.f85 [] impl_TopOk_ann []
theorem impl_TopOk_l : lightC Tryz.prog [] Tryz.f85.ntmps impl_TopOk_ann [] 0 (bodyOf Tryz.f85) = some (impl_TopOk_c, 1) := by kernel_rfl
def impl_TopOk_rv : List (Nat × Option (Nat × Bool)) := [(2, none)]
abbrev impl_TopOk_V0 := (Int) × (Int) × LP × (Int) × (Int) × LP × (Int) × (Int)
def impl_TopOk_enc0 (v : impl_TopOk_V0) : Env × Heap := ([(37, SV.int .i64 v.1), (36, SV.int .i64 v.2.1), (35, SV.es KP v.2.2.1), (4, SV.int .i64 v.2.2.2.1), (3, SV.int .i64 v.2.2.2.2.1), (1, SV.ptr 0 0)], [Blk.cells [SV.es KP v.2.2.2.2.2.1, SV.int .i64 v.2.2.2.2.2.2.1, SV.int .i64 v.2.2.2.2.2.2.2] 0 3])
def impl_TopOk_step0 (fuel : Nat) (g0 : impl_TopOk_V0 → Option ((Bool × Unit) × Unit)) (v : impl_TopOk_V0) : Option ((Bool × Unit) × Unit) :=
 cond (decide (v.1 < v.2.1))
 (tst (decide (0 ≤ v.1)) <|
  tst (decide (v.1 < (zz (List.length v.2.2.1)))) <|
  cond (decide ((List.getD v.2.2.1 (Int.toNat v.1) (0, (0, ()))).1 ≤ v.2.2.2.1))
  (some (((false, ()), ())))
  (cond (decide ((List.getD v.2.2.1 (Int.toNat v.1) (0, (0, ()))).1 ≥ (64 : Int)))
   (some (((false, ()), ())))
   (cond (decide ((List.getD v.2.2.1 (Int.toNat v.1) (0, (0, ()))).2.1 < (1 : Int)))
    (some (((false, ()), ())))
    (cond (decide ((List.getD v.2.2.1 (Int.toNat v.1) (0, (0, ()))).2.1 > (2000 : Int)))
     (some (((false, ()), ())))
     (g0 (w64 (v.1 + (1 : Int)), v.2.1, v.2.2.1, (List.getD v.2.2.1 (Int.toNat v.1) (0, (0, ()))).1, w64 (v.2.2.2.2.1 + (List.getD v.2.2.1 (Int.toNat v.1) (0, (0, ()))).2.1), v.2.2.2.2.2.1, v.2.2.2.2.2.2.1, v.2.2.2.2.2.2.2))))))
 (some (((decide (v.2.2.2.2.1 ≤ v.2.2.2.2.2.2.2), ()), ())))
def impl_TopOk_st0 (fuel : Nat) (g0 : impl_TopOk_V0 → Option ((Bool × Unit) × Unit)) : impl_TopOk_V0 → Option ((Bool × Unit) × Unit) := impl_TopOk_step0 fuel g0
theorem impl_TopOk_lp0 (fuel : Nat) (G) : impl_TopOk_c.lp (impl_TopOk_T fuel) 0 fuel G (endF impl_TopOk_rv impl_TopOk_rs) 0 impl_TopOk_enc0 = iter (impl_TopOk_st0 fuel) fuel := C.lp_iter fun g v => by kernel_rfl
def impl_TopOk_pre (fuel : Nat) (X0 : impl_TopOk_V0 → Option ((Bool × Unit) × Unit)) (x0 : LP) (x1 : Int) (x2 : Int) : Option ((Bool × Unit) × Unit) :=
 cond (decide ((zz (List.length x0)) > (4 : Int)))
 (some (((false, ()), ())))
 (cond (decide (x1 < (0 : Int)))
  (some (((false, ()), ())))
  (cond (decide (x1 > (2000 : Int)))
   (some (((false, ()), ())))
   (cond (decide (x2 < (0 : Int)))
    (some (((false, ()), ())))
    (cond (decide (x2 > (2000 : Int)))
     (some (((false, ()), ())))
     (X0 ((0 : Int), (zz (List.length x0)), x0, (-1 : Int), w64 (x1 * (5 : Int)), x0, x1, x2))))))
def impl_TopOk_fn (fuel : Nat) (x : ((LP × (Int × (Int × Unit))) × Unit)) : Option ((Bool × Unit) × Unit) := impl_TopOk_pre fuel (iter (impl_TopOk_st0 fuel) fuel) x.1.1 x.1.2.1 x.1.2.2.1
theorem impl_TopOk_run (fuel : Nat) (x : PsT impl_TopOk_ps) : run (impl_TopOk_T fuel) 0 fuel impl_TopOk_c (env0 (svPs impl_TopOk_ps x) 0) [] (endF impl_TopOk_rv impl_TopOk_rs) = impl_TopOk_fn fuel x :=
  (show run (impl_TopOk_T fuel) 0 fuel impl_TopOk_c (env0 (svPs impl_TopOk_ps x) 0) [] (endF impl_TopOk_rv impl_TopOk_rs) = impl_TopOk_pre fuel (impl_TopOk_c.lp (impl_TopOk_T fuel) 0 fuel (fun _ _ _ => none) (endF impl_TopOk_rv impl_TopOk_rs) 0 impl_TopOk_enc0) x.1.1 x.1.2.1 x.1.2.2.1 by kernel_rfl).trans (by rw [impl_TopOk_lp0]; rfl)
def impl_TopOk_tf (fuel : Nat) : TF := ⟨impl_TopOk_ps, impl_TopOk_rs, true, impl_TopOk_fn fuel⟩
theorem impl_TopOk_spec (fuel : Nat) : FnSpec Tryz.prog 85 (impl_TopOk_tf fuel) :=
  fn_spec (T := impl_TopOk_T fuel) (c := bodyOf Tryz.f85) (fn := Tryz.f85) (TabOK.of (entNil) (methNil)) mixed (by kernel_rfl) (by kernel_rfl) impl_TopOk_l (by kernel_rfl) (Nat.le_of_ble_eq_true (by kernel_rfl)) (rv := impl_TopOk_rv) (by kernel_rfl) (impl_TopOk_run fuel)
theorem impl_TopOk_ok (fuel : Nat) : EntryOK Tryz.prog 85 (impl_TopOk_tf fuel).te := EntryOK.tf rfl (impl_TopOk_spec fuel) (isFn (fn := Tryz.f85) (by kernel_rfl) (by kernel_rfl) (by kernel_rfl))
def slices_Clone_impl_Pair_impl_Pair_T (fuel : Nat) : Tab := Tab.of [] []
abbrev slices_Clone_impl_Pair_impl_Pair_ps : List Pm := [{ cs := [(Kd.list KP, false)], ag := false }]
abbrev slices_Clone_impl_Pair_impl_Pair_rs : List Pm := [{ cs := [(Kd.list KP, true)], ag := false }]
def slices_Clone_impl_Pair_impl_Pair_ann : List Norm := []
noncomputable def slices_Clone_impl_Pair_impl_Pair_c : C := irOf Tryz.prog Tryz.f182 [] slices_Clone_impl_Pair_impl_Pair_ann []
theorem slices_Clone_impl_Pair_impl_Pair_l : lightC Tryz.prog [] Tryz.f182.ntmps slices_Clone_impl_Pair_impl_Pair_ann [] 0 (bodyOf Tryz.f182) = some (slices_Clone_impl_Pair_impl_Pair_c, 0) := by kernel_rfl
def slices_Clone_impl_Pair_impl_Pair_rv : List (Nat × Option (Nat × Bool)) := [(2, none)]
def slices_Clone_impl_Pair_impl_Pair_pre (fuel : Nat) (x0 : LP) : Option ((LP × Unit) × Unit) :=
 tst (decide (0 < List.length x0)) <|
 tst (decide (0 + List.length x0 < LIM)) <|
 some ((([] ++ x0, ()), ()))
def slices_Clone_impl_Pair_impl_Pair_fn (fuel : Nat) (x : ((LP × Unit) × Unit)) : Option ((LP × Unit) × Unit) := slices_Clone_impl_Pair_impl_Pair_pre fuel x.1.1
theorem slices_Clone_impl_Pair_impl_Pair_run (fuel : Nat) (x : PsT slices_Clone_impl_Pair_impl_Pair_ps) : run (slices_Clone_impl_Pair_impl_Pair_T fuel) 0 fuel slices_Clone_impl_Pair_impl_Pair_c (env0 (svPs slices_Clone_impl_Pair_impl_Pair_ps x) 0) [] (endF slices_Clone_impl_Pair_impl_Pair_rv slices_Clone_impl_Pair_impl_Pair_rs) = slices_Clone_impl_Pair_impl_Pair_fn fuel x := by kernel_rfl
def slices_Clone_impl_Pair_impl_Pair_tf (fuel : Nat) : TF := ⟨slices_Clone_impl_Pair_impl_Pair_ps, slices_Clone_impl_Pair_impl_Pair_rs, true, slices_Clone_impl_Pair_impl_Pair_fn fuel⟩
theorem slices_Clone_impl_Pair_impl_Pair_spec (fuel : Nat) : FnSpec Tryz.prog 182 (slices_Clone_impl_Pair_impl_Pair_tf fuel) :=
  fn_spec (T := slices_Clone_impl_Pair_impl_Pair_T fuel) (c := bodyOf Tryz.f182) (fn := Tryz.f182) (TabOK.of (entNil) (methNil)) mixed (by kernel_rfl) (by kernel_rfl) slices_Clone_impl_Pair_impl_Pair_l (by kernel_rfl) (Nat.le_of_ble_eq_true (by kernel_rfl)) (rv := slices_Clone_impl_Pair_impl_Pair_rv) (by kernel_rfl) (slices_Clone_impl_Pair_impl_Pair_run fuel)
theorem slices_Clone_impl_Pair_impl_Pair_ok (fuel : Nat) : EntryOK Tryz.prog 182 (slices_Clone_impl_Pair_impl_Pair_tf fuel).te := EntryOK.tf rfl (slices_Clone_impl_Pair_impl_Pair_spec fuel) (isFn (fn := Tryz.f182) (by kernel_rfl) (by kernel_rfl) (by kernel_rfl))
end Go.Proofs.YtdgdoeknpakmlaaGreat.Den
namespace Go.Proofs.YtdgdoeknpakmlaaGreat.Den
open Go Go.RowKit
set_option linter.unusedVariables false
set_option linter.unusedSimpArgs false
def cmp_isNaN_int_T (fuel : Nat) : Tab := Tab.of [] []
abbrev cmp_isNaN_int_ps : List Pm := [{ cs := [(I6, false)], ag := false }]
abbrev cmp_isNaN_int_rs : List Pm := [{ cs := [(Kd.bool, false)], ag := false }]
def cmp_isNaN_int_ann : List Norm := []
noncomputable def cmp_isNaN_int_c : C := irOf Tryz.prog Tryz.f200 [] cmp_isNaN_int_ann []
theorem cmp_isNaN_int_l : lightC Tryz.prog [] Tryz.f200.ntmps cmp_isNaN_int_ann [] 0 (bodyOf Tryz.f200) = some (cmp_isNaN_int_c, 0) := by kernel_rfl
def cmp_isNaN_int_rv : List (Nat × Option (Nat × Bool)) := [(2, none)]
def cmp_isNaN_int_pre (fuel : Nat) (x0 : Int) : Option ((Bool × Unit) × Unit) :=
 some (((x0 != x0, ()), ()))
def cmp_isNaN_int_fn (fuel : Nat) (x : ((Int × Unit) × Unit)) : Option ((Bool × Unit) × Unit) := cmp_isNaN_int_pre fuel x.1.1
theorem cmp_isNaN_int_run (fuel : Nat) (x : PsT cmp_isNaN_int_ps) : run (cmp_isNaN_int_T fuel) 0 fuel cmp_isNaN_int_c (env0 (svPs cmp_isNaN_int_ps x) 0) [] (endF cmp_isNaN_int_rv cmp_isNaN_int_rs) = cmp_isNaN_int_fn fuel x := by kernel_rfl
def cmp_isNaN_int_tf (fuel : Nat) : TF := ⟨cmp_isNaN_int_ps, cmp_isNaN_int_rs, true, cmp_isNaN_int_fn fuel⟩
theorem cmp_isNaN_int_spec (fuel : Nat) : FnSpec Tryz.prog 200 (cmp_isNaN_int_tf fuel) :=
  fn_spec (T := cmp_isNaN_int_T fuel) (c := bodyOf Tryz.f200) (fn := Tryz.f200) (TabOK.of (entNil) (methNil)) mixed (by kernel_rfl) (by kernel_rfl) cmp_isNaN_int_l (by kernel_rfl) (Nat.le_of_ble_eq_true (by kernel_rfl)) (rv := cmp_isNaN_int_rv) (by kernel_rfl) (cmp_isNaN_int_run fuel)
theorem cmp_isNaN_int_ok (fuel : Nat) : EntryOK Tryz.prog 200 (cmp_isNaN_int_tf fuel).te := EntryOK.tf rfl (cmp_isNaN_int_spec fuel) (isFn (fn := Tryz.f200) (by kernel_rfl) (by kernel_rfl) (by kernel_rfl))
def cmp_Compare_int_T (fuel : Nat) : Tab := Tab.of [(200, (cmp_isNaN_int_tf fuel).te)] []
abbrev cmp_Compare_int_ps : List Pm := [{ cs := [(I6, false)], ag := false }, { cs := [(I6, false)], ag := false }]
abbrev cmp_Compare_int_rs : List Pm := [{ cs := [(I6, false)], ag := false }]
def cmp_Compare_int_ann : List Norm := []
noncomputable def cmp_Compare_int_c : C := irOf Tryz.prog Tryz.f197 [] cmp_Compare_int_ann []
theorem cmp_Compare_int_l : lightC Tryz.prog [] Tryz.f197.ntmps cmp_Compare_int_ann [] 0 (bodyOf Tryz.f197) = some (cmp_Compare_int_c, 0) := by kernel_rfl
def cmp_Compare_int_rv : List (Nat × Option (Nat × Bool)) := [(4, none)]
def cmp_Compare_int_pre (fuel : Nat) (x0 : Int) (x1 : Int) : Option ((Int × Unit) × Unit) :=
 Option.bind (cmp_isNaN_int_fn fuel ((x0, ()), ())) fun y_1 =>
 Option.bind (cmp_isNaN_int_fn fuel ((x1, ()), ())) fun y_2 =>
  cond (y_1.1.1)
   (cond (y_2.1.1)
    (some ((((0 : Int), ()), ())))
    (some ((((-1 : Int), ()), ()))))
   (cond (y_2.1.1)
    (some ((((1 : Int), ()), ())))
    (cond (decide (x0 < x1))
     (some ((((-1 : Int), ()), ())))
     (cond (decide (x0 > x1))
      (some ((((1 : Int), ()), ())))
      (some ((((0 : Int), ()), ()))))))
def cmp_Compare_int_fn (fuel : Nat) (x : ((Int × Unit) × ((Int × Unit) × Unit))) : Option ((Int × Unit) × Unit) := cmp_Compare_int_pre fuel x.1.1 x.2.1.1
theorem cmp_Compare_int_run (fuel : Nat) (x : PsT cmp_Compare_int_ps) : run (cmp_Compare_int_T fuel) 0 fuel cmp_Compare_int_c (env0 (svPs cmp_Compare_int_ps x) 0) [] (endF cmp_Compare_int_rv cmp_Compare_int_rs) = cmp_Compare_int_fn fuel x := by kernel_rfl
def cmp_Compare_int_tf (fuel : Nat) : TF := ⟨cmp_Compare_int_ps, cmp_Compare_int_rs, true, cmp_Compare_int_fn fuel⟩
theorem cmp_Compare_int_spec (fuel : Nat) : FnSpec Tryz.prog 197 (cmp_Compare_int_tf fuel) :=
  fn_spec (T := cmp_Compare_int_T fuel) (c := bodyOf Tryz.f197) (fn := Tryz.f197) (TabOK.of (entCons (cmp_isNaN_int_ok fuel) entNil) (methNil)) mixed (by kernel_rfl) (by kernel_rfl) cmp_Compare_int_l (by kernel_rfl) (Nat.le_of_ble_eq_true (by kernel_rfl)) (rv := cmp_Compare_int_rv) (by kernel_rfl) (cmp_Compare_int_run fuel)
theorem cmp_Compare_int_ok (fuel : Nat) : EntryOK Tryz.prog 197 (cmp_Compare_int_tf fuel).te := EntryOK.tf rfl (cmp_Compare_int_spec fuel) (isFn (fn := Tryz.f197) (by kernel_rfl) (by kernel_rfl) (by kernel_rfl))
def impl_Pair_byThing_T (fuel : Nat) : Tab := Tab.of [(197, (cmp_Compare_int_tf fuel).te)] []
abbrev impl_Pair_byThing_ps : List Pm := [{ cs := [(I6, false), (I6, false)], ag := true }, { cs := [(I6, false), (I6, false)], ag := true }]
abbrev impl_Pair_byThing_rs : List Pm := [{ cs := [(I6, false)], ag := false }]
def impl_Pair_byThing_ann : List Norm := []
noncomputable def impl_Pair_byThing_c : C := irOf Tryz.prog Tryz.f193 [] impl_Pair_byThing_ann []
theorem impl_Pair_byThing_l : lightC Tryz.prog [] Tryz.f193.ntmps impl_Pair_byThing_ann [] 0 (bodyOf Tryz.f193) = some (impl_Pair_byThing_c, 0) := by kernel_rfl
def impl_Pair_byThing_rv : List (Nat × Option (Nat × Bool)) := [(4, none)]
def impl_Pair_byThing_pre (fuel : Nat) (x0 : Int) (x1 : Int) (x2 : Int) (x3 : Int) : Option ((Int × Unit) × Unit) :=
 Option.bind (cmp_Compare_int_fn fuel ((x0, ()), (x2, ()), ())) fun y_1 =>
 some (((y_1.1.1, ()), ()))
def impl_Pair_byThing_fn (fuel : Nat) (x : ((Int × (Int × Unit)) × ((Int × (Int × Unit)) × Unit))) : Option ((Int × Unit) × Unit) := impl_Pair_byThing_pre fuel x.1.1 x.1.2.1 x.2.1.1 x.2.1.2.1
theorem impl_Pair_byThing_run (fuel : Nat) (x : PsT impl_Pair_byThing_ps) : run (impl_Pair_byThing_T fuel) 0 fuel impl_Pair_byThing_c (env0 (svPs impl_Pair_byThing_ps x) 0) [] (endF impl_Pair_byThing_rv impl_Pair_byThing_rs) = impl_Pair_byThing_fn fuel x := by kernel_rfl
def impl_Pair_byThing_tf (fuel : Nat) : TF := ⟨impl_Pair_byThing_ps, impl_Pair_byThing_rs, true, impl_Pair_byThing_fn fuel⟩
theorem impl_Pair_byThing_spec (fuel : Nat) : FnSpec Tryz.prog 193 (impl_Pair_byThing_tf fuel) :=
  fn_spec (T := impl_Pair_byThing_T fuel) (c := bodyOf Tryz.f193) (fn := Tryz.f193) (TabOK.of (entCons (cmp_Compare_int_ok fuel) entNil) (methNil)) mixed (by kernel_rfl) (by kernel_rfl) impl_Pair_byThing_l (by kernel_rfl) (Nat.le_of_ble_eq_true (by kernel_rfl)) (rv := impl_Pair_byThing_rv) (by kernel_rfl) (impl_Pair_byThing_run fuel)
theorem impl_Pair_byThing_ok (fuel : Nat) : EntryOK Tryz.prog 193 (impl_Pair_byThing_tf fuel).te := EntryOK.tf rfl (impl_Pair_byThing_spec fuel) (isFn (fn := Tryz.f193) (by kernel_rfl) (by kernel_rfl) (by kernel_rfl))
def impl_Pair_byNum_T (fuel : Nat) : Tab := Tab.of [(197, (cmp_Compare_int_tf fuel).te)] []
abbrev impl_Pair_byNum_ps : List Pm := [{ cs := [(I6, false), (I6, false)], ag := true }, { cs := [(I6, false), (I6, false)], ag := true }]
abbrev impl_Pair_byNum_rs : List Pm := [{ cs := [(I6, false)], ag := false }]
def impl_Pair_byNum_ann : List Norm := []
noncomputable def impl_Pair_byNum_c : C := irOf Tryz.prog Tryz.f194 [] impl_Pair_byNum_ann []
theorem impl_Pair_byNum_l : lightC Tryz.prog [] Tryz.f194.ntmps impl_Pair_byNum_ann [] 0 (bodyOf Tryz.f194) = some (impl_Pair_byNum_c, 0) := by kernel_rfl
def impl_Pair_byNum_rv : List (Nat × Option (Nat × Bool)) := [(4, none)]
def impl_Pair_byNum_pre (fuel : Nat) (x0 : Int) (x1 : Int) (x2 : Int) (x3 : Int) : Option ((Int × Unit) × Unit) :=
 Option.bind (cmp_Compare_int_fn fuel ((x3, ()), (x1, ()), ())) fun y_1 =>
 some (((y_1.1.1, ()), ()))
def impl_Pair_byNum_fn (fuel : Nat) (x : ((Int × (Int × Unit)) × ((Int × (Int × Unit)) × Unit))) : Option ((Int × Unit) × Unit) := impl_Pair_byNum_pre fuel x.1.1 x.1.2.1 x.2.1.1 x.2.1.2.1
theorem impl_Pair_byNum_run (fuel : Nat) (x : PsT impl_Pair_byNum_ps) : run (impl_Pair_byNum_T fuel) 0 fuel impl_Pair_byNum_c (env0 (svPs impl_Pair_byNum_ps x) 0) [] (endF impl_Pair_byNum_rv impl_Pair_byNum_rs) = impl_Pair_byNum_fn fuel x := by kernel_rfl
def impl_Pair_byNum_tf (fuel : Nat) : TF := ⟨impl_Pair_byNum_ps, impl_Pair_byNum_rs, true, impl_Pair_byNum_fn fuel⟩
theorem impl_Pair_byNum_spec (fuel : Nat) : FnSpec Tryz.prog 194 (impl_Pair_byNum_tf fuel) :=
  fn_spec (T := impl_Pair_byNum_T fuel) (c := bodyOf Tryz.f194) (fn := Tryz.f194) (TabOK.of (entCons (cmp_Compare_int_ok fuel) entNil) (methNil)) mixed (by kernel_rfl) (by kernel_rfl) impl_Pair_byNum_l (by kernel_rfl) (Nat.le_of_ble_eq_true (by kernel_rfl)) (rv := impl_Pair_byNum_rv) (by kernel_rfl) (impl_Pair_byNum_run fuel)
theorem impl_Pair_byNum_ok (fuel : Nat) : EntryOK Tryz.prog 194 (impl_Pair_byNum_tf fuel).te := EntryOK.tf rfl (impl_Pair_byNum_spec fuel) (isFn (fn := Tryz.f194) (by kernel_rfl) (by kernel_rfl) (by kernel_rfl))
abbrev slices_insertionSortCmpFunc_impl_Pair_v0_R := Option (LP × Unit)
def slices_insertionSortCmpFunc_impl_Pair_v0_T (fuel : Nat) : Tab := Tab.of [(193, (impl_Pair_byThing_tf fuel).te), (194, (impl_Pair_byNum_tf fuel).te)] []
abbrev slices_insertionSortCmpFunc_impl_Pair_v0_ps : Sh := (.cell I6 0 (.cell I6 0 (.fnc 193 .nil)))
abbrev slices_insertionSortCmpFunc_impl_Pair_v0_rs : List Pm := []
def slices_insertionSortCmpFunc_impl_Pair_v0_ann : List Norm := [{ live := [8, 2, 1, 3, 0], fix := [] }, { live := [9, 1, 3, 0, 8, 2], fix := [] }]
noncomputable def slices_insertionSortCmpFunc_impl_Pair_v0_c : C := irOf Tryz.prog Tryz.f201 [] slices_insertionSortCmpFunc_impl_Pair_v0_ann []
theorem slices_insertionSortCmpFunc_impl_Pair_v0_l : lightC Tryz.prog [] Tryz.f201.ntmps slices_insertionSortCmpFunc_impl_Pair_v0_ann [] 0 (bodyOf Tryz.f201) = some (slices_insertionSortCmpFunc_impl_Pair_v0_c, 2) := by kernel_rfl
def slices_insertionSortCmpFunc_impl_Pair_v0_rv : List (Nat × Option (Nat × Bool)) := []
abbrev slices_insertionSortCmpFunc_impl_Pair_v0_V0 := (Int) × (Int) × (Int) × LP
abbrev slices_insertionSortCmpFunc_impl_Pair_v0_V1 := (Int) × (Int) × (Int) × (Int) × LP
def slices_insertionSortCmpFunc_impl_Pair_v0_enc0 (v : slices_insertionSortCmpFunc_impl_Pair_v0_V0) : Env × Heap := ([(8, SV.int .i64 v.1), (2, SV.int .i64 v.2.1), (1, SV.int .i64 v.2.2.1), (3, SV.fn (Fn.func 193) [] []), (0, SV.own 0)], [Blk.arr KP v.2.2.2 0])
def slices_insertionSortCmpFunc_impl_Pair_v0_enc1 (v : slices_insertionSortCmpFunc_impl_Pair_v0_V1) : Env × Heap := ([(9, SV.int .i64 v.1), (1, SV.int .i64 v.2.1), (3, SV.fn (Fn.func 193) [] []), (0, SV.own 0), (8, SV.int .i64 v.2.2.1), (2, SV.int .i64 v.2.2.2.1)], [Blk.arr KP v.2.2.2.2 0])
def slices_insertionSortCmpFunc_impl_Pair_v0_step1 (fuel : Nat) (g0 : slices_insertionSortCmpFunc_impl_Pair_v0_V0 → slices_insertionSortCmpFunc_impl_Pair_v0_R) (g1 : slices_insertionSortCmpFunc_impl_Pair_v0_V1 → slices_insertionSortCmpFunc_impl_Pair_v0_R) (v : slices_insertionSortCmpFunc_impl_Pair_v0_V1) : slices_insertionSortCmpFunc_impl_Pair_v0_R :=
 cond (decide (v.1 > v.2.1))
 (tst (decide (0 ≤ v.1)) <|
  tst (decide (v.1 < (zz (List.length v.2.2.2.2)))) <|
  tst (decide (Int.toNat v.1 < List.length v.2.2.2.2)) <|
  tst (decide (0 ≤ w64 (v.1 - (1 : Int)))) <|
  tst (decide (w64 (v.1 - (1 : Int)) < (zz (List.length v.2.2.2.2)))) <|
  tst (decide (Int.toNat (w64 (v.1 - (1 : Int))) < List.length v.2.2.2.2)) <|
  Option.bind (impl_Pair_byThing_fn fuel (((List.getD v.2.2.2.2 (Int.toNat v.1) (0, (0, ()))).1, (List.getD v.2.2.2.2 (Int.toNat v.1) (0, (0, ()))).2.1, ()), ((List.getD v.2.2.2.2 (Int.toNat (w64 (v.1 - (1 : Int)))) (0, (0, ()))).1, (List.getD v.2.2.2.2 (Int.toNat (w64 (v.1 - (1 : Int)))) (0, (0, ()))).2.1, ()), ())) fun y_2 =>
  cond (decide (y_2.1.1 < (0 : Int)))
   (tst (decide (0 ≤ w64 (v.1 - (1 : Int)))) <|
    tst (decide (w64 (v.1 - (1 : Int)) < (zz (List.length v.2.2.2.2)))) <|
    tst (decide (Int.toNat (w64 (v.1 - (1 : Int))) < List.length v.2.2.2.2)) <|
    tst (decide (0 ≤ v.1)) <|
    tst (decide (v.1 < (zz (List.length v.2.2.2.2)))) <|
    tst (decide (Int.toNat v.1 < List.length v.2.2.2.2)) <|
    tst (decide (0 ≤ v.1)) <|
    tst (decide (v.1 < (zz (List.length v.2.2.2.2)))) <|
    tst (decide (Int.toNat v.1 < List.length v.2.2.2.2)) <|
    tst (decide (0 ≤ w64 (v.1 - (1 : Int)))) <|
    tst (decide (w64 (v.1 - (1 : Int)) < (zz (List.length (List.set v.2.2.2.2 (Int.toNat v.1) ((List.getD v.2.2.2.2 (Int.toNat (w64 (v.1 - (1 : Int)))) (0, (0, ()))).1, (List.getD v.2.2.2.2 (Int.toNat (w64 (v.1 - (1 : Int)))) (0, (0, ()))).2.1, ())))))) <|
    tst (decide (Int.toNat (w64 (v.1 - (1 : Int))) < List.length (List.set v.2.2.2.2 (Int.toNat v.1) ((List.getD v.2.2.2.2 (Int.toNat (w64 (v.1 - (1 : Int)))) (0, (0, ()))).1, (List.getD v.2.2.2.2 (Int.toNat (w64 (v.1 - (1 : Int)))) (0, (0, ()))).2.1, ())))) <|
    g1 (w64 (v.1 - (1 : Int)), v.2.1, v.2.2.1, v.2.2.2.1, List.set (List.set v.2.2.2.2 (Int.toNat v.1) ((List.getD v.2.2.2.2 (Int.toNat (w64 (v.1 - (1 : Int)))) (0, (0, ()))).1, (List.getD v.2.2.2.2 (Int.toNat (w64 (v.1 - (1 : Int)))) (0, (0, ()))).2.1, ())) (Int.toNat (w64 (v.1 - (1 : Int)))) ((List.getD v.2.2.2.2 (Int.toNat v.1) (0, (0, ()))).1, (List.getD v.2.2.2.2 (Int.toNat v.1) (0, (0, ()))).2.1, ())))
   (g0 (w64 (v.2.2.1 + (1 : Int)), v.2.2.2.1, v.2.1, v.2.2.2.2)))
 (g0 (w64 (v.2.2.1 + (1 : Int)), v.2.2.2.1, v.2.1, v.2.2.2.2))
def slices_insertionSortCmpFunc_impl_Pair_v0_st1 (fuel : Nat) (g0 : slices_insertionSortCmpFunc_impl_Pair_v0_V0 → slices_insertionSortCmpFunc_impl_Pair_v0_R) (g1 : slices_insertionSortCmpFunc_impl_Pair_v0_V1 → slices_insertionSortCmpFunc_impl_Pair_v0_R) : slices_insertionSortCmpFunc_impl_Pair_v0_V1 → slices_insertionSortCmpFunc_impl_Pair_v0_R := slices_insertionSortCmpFunc_impl_Pair_v0_step1 fuel g0 g1
theorem slices_insertionSortCmpFunc_impl_Pair_v0_lp1 (fuel : Nat) (G) : slices_insertionSortCmpFunc_impl_Pair_v0_c.lp (slices_insertionSortCmpFunc_impl_Pair_v0_T fuel) 1 fuel G (endS slices_insertionSortCmpFunc_impl_Pair_v0_rv KP false slices_insertionSortCmpFunc_impl_Pair_v0_rs) 1 slices_insertionSortCmpFunc_impl_Pair_v0_enc1 = iter (slices_insertionSortCmpFunc_impl_Pair_v0_st1 fuel (fun v => G 0 (slices_insertionSortCmpFunc_impl_Pair_v0_enc0 v).1 (slices_insertionSortCmpFunc_impl_Pair_v0_enc0 v).2)) fuel := C.lp_iter fun g v =>
  (show run (slices_insertionSortCmpFunc_impl_Pair_v0_T fuel) 1 fuel (slices_insertionSortCmpFunc_impl_Pair_v0_c.bdAt 1) (slices_insertionSortCmpFunc_impl_Pair_v0_enc1 v).1 (slices_insertionSortCmpFunc_impl_Pair_v0_enc1 v).2 (loopK 1 (slices_insertionSortCmpFunc_impl_Pair_v0_c.nmAt 1) g (slices_insertionSortCmpFunc_impl_Pair_v0_c.contAt (slices_insertionSortCmpFunc_impl_Pair_v0_T fuel) 1 fuel G 0 1 (endS slices_insertionSortCmpFunc_impl_Pair_v0_rv KP false slices_insertionSortCmpFunc_impl_Pair_v0_rs))) = slices_insertionSortCmpFunc_impl_Pair_v0_step1 fuel (fun v => G 0 (slices_insertionSortCmpFunc_impl_Pair_v0_enc0 v).1 (slices_insertionSortCmpFunc_impl_Pair_v0_enc0 v).2) (fun v => g (slices_insertionSortCmpFunc_impl_Pair_v0_enc1 v).1 (slices_insertionSortCmpFunc_impl_Pair_v0_enc1 v).2) v by kernel_rfl)
def slices_insertionSortCmpFunc_impl_Pair_v0_step0 (fuel : Nat) (X1 : slices_insertionSortCmpFunc_impl_Pair_v0_V1 → slices_insertionSortCmpFunc_impl_Pair_v0_R) (g0 : slices_insertionSortCmpFunc_impl_Pair_v0_V0 → slices_insertionSortCmpFunc_impl_Pair_v0_R) (v : slices_insertionSortCmpFunc_impl_Pair_v0_V0) : slices_insertionSortCmpFunc_impl_Pair_v0_R :=
 cond (decide (v.1 < v.2.1))
 (X1 (v.1, v.2.2.1, v.1, v.2.1, v.2.2.2))
 (some ((v.2.2.2, ())))
def slices_insertionSortCmpFunc_impl_Pair_v0_st0 (fuel : Nat) (g0 : slices_insertionSortCmpFunc_impl_Pair_v0_V0 → slices_insertionSortCmpFunc_impl_Pair_v0_R) : slices_insertionSortCmpFunc_impl_Pair_v0_V0 → slices_insertionSortCmpFunc_impl_Pair_v0_R := slices_insertionSortCmpFunc_impl_Pair_v0_step0 fuel (iter (slices_insertionSortCmpFunc_impl_Pair_v0_st1 fuel g0) fuel) g0
theorem slices_insertionSortCmpFunc_impl_Pair_v0_lp0 (fuel : Nat) (G) : slices_insertionSortCmpFunc_impl_Pair_v0_c.lp (slices_insertionSortCmpFunc_impl_Pair_v0_T fuel) 1 fuel G (endS slices_insertionSortCmpFunc_impl_Pair_v0_rv KP false slices_insertionSortCmpFunc_impl_Pair_v0_rs) 0 slices_insertionSortCmpFunc_impl_Pair_v0_enc0 = iter (slices_insertionSortCmpFunc_impl_Pair_v0_st0 fuel) fuel := C.lp_iter fun g v =>
  (show run (slices_insertionSortCmpFunc_impl_Pair_v0_T fuel) 1 fuel (slices_insertionSortCmpFunc_impl_Pair_v0_c.bdAt 0) (slices_insertionSortCmpFunc_impl_Pair_v0_enc0 v).1 (slices_insertionSortCmpFunc_impl_Pair_v0_enc0 v).2 (loopK 1 (slices_insertionSortCmpFunc_impl_Pair_v0_c.nmAt 0) g (slices_insertionSortCmpFunc_impl_Pair_v0_c.contAt (slices_insertionSortCmpFunc_impl_Pair_v0_T fuel) 1 fuel G 0 0 (endS slices_insertionSortCmpFunc_impl_Pair_v0_rv KP false slices_insertionSortCmpFunc_impl_Pair_v0_rs))) = slices_insertionSortCmpFunc_impl_Pair_v0_step0 fuel (slices_insertionSortCmpFunc_impl_Pair_v0_c.lp (slices_insertionSortCmpFunc_impl_Pair_v0_T fuel) 1 fuel (fun m => bif Nat.beq m 0 then g else G m) (endS slices_insertionSortCmpFunc_impl_Pair_v0_rv KP false slices_insertionSortCmpFunc_impl_Pair_v0_rs) 1 slices_insertionSortCmpFunc_impl_Pair_v0_enc1) (fun v => g (slices_insertionSortCmpFunc_impl_Pair_v0_enc0 v).1 (slices_insertionSortCmpFunc_impl_Pair_v0_enc0 v).2) v by kernel_rfl).trans (by rw [slices_insertionSortCmpFunc_impl_Pair_v0_lp1]; rfl)
def slices_insertionSortCmpFunc_impl_Pair_v0_pre (fuel : Nat) (X0 : slices_insertionSortCmpFunc_impl_Pair_v0_V0 → slices_insertionSortCmpFunc_impl_Pair_v0_R) (d0 : LP) (x0 : Int) (x1 : Int) : slices_insertionSortCmpFunc_impl_Pair_v0_R :=
 X0 (w64 (x0 + (1 : Int)), x1, x0, d0)
def slices_insertionSortCmpFunc_impl_Pair_v0_fn (fuel : Nat) (z : LP × Unit × (Int × (Int × Unit))) : slices_insertionSortCmpFunc_impl_Pair_v0_R := slices_insertionSortCmpFunc_impl_Pair_v0_pre fuel (iter (slices_insertionSortCmpFunc_impl_Pair_v0_st0 fuel) fuel) z.1 z.2.2.1 z.2.2.2.1
theorem slices_insertionSortCmpFunc_impl_Pair_v0_run (fuel : Nat) (c : List (Kd.T KP)) (d : CsT []) (x : Sh.T slices_insertionSortCmpFunc_impl_Pair_v0_ps) : run (slices_insertionSortCmpFunc_impl_Pair_v0_T fuel) 1 fuel slices_insertionSortCmpFunc_impl_Pair_v0_c ((0, firstV false 0 (svCs [] d)) :: env0 (svS slices_insertionSortCmpFunc_impl_Pair_v0_ps x) 1) [.arr KP c 0] (endS slices_insertionSortCmpFunc_impl_Pair_v0_rv KP false slices_insertionSortCmpFunc_impl_Pair_v0_rs) = slices_insertionSortCmpFunc_impl_Pair_v0_fn fuel (c, d, x) :=
  (show run (slices_insertionSortCmpFunc_impl_Pair_v0_T fuel) 1 fuel slices_insertionSortCmpFunc_impl_Pair_v0_c ((0, firstV false 0 (svCs [] d)) :: env0 (svS slices_insertionSortCmpFunc_impl_Pair_v0_ps x) 1) [.arr KP c 0] (endS slices_insertionSortCmpFunc_impl_Pair_v0_rv KP false slices_insertionSortCmpFunc_impl_Pair_v0_rs) = slices_insertionSortCmpFunc_impl_Pair_v0_pre fuel (slices_insertionSortCmpFunc_impl_Pair_v0_c.lp (slices_insertionSortCmpFunc_impl_Pair_v0_T fuel) 1 fuel (fun _ _ _ => none) (endS slices_insertionSortCmpFunc_impl_Pair_v0_rv KP false slices_insertionSortCmpFunc_impl_Pair_v0_rs) 0 slices_insertionSortCmpFunc_impl_Pair_v0_enc0) c x.1 x.2.1 by kernel_rfl).trans (by rw [slices_insertionSortCmpFunc_impl_Pair_v0_lp0]; rfl)
def slices_insertionSortCmpFunc_impl_Pair_v0_tf (fuel : Nat) : TFT := ⟨KP, false, [], slices_insertionSortCmpFunc_impl_Pair_v0_ps, slices_insertionSortCmpFunc_impl_Pair_v0_rs, false, slices_insertionSortCmpFunc_impl_Pair_v0_fn fuel⟩
theorem slices_insertionSortCmpFunc_impl_Pair_v0_spec (fuel : Nat) : FnSpecT Tryz.prog 201 (slices_insertionSortCmpFunc_impl_Pair_v0_tf fuel) :=
  fn_specT (T := slices_insertionSortCmpFunc_impl_Pair_v0_T fuel) (c := bodyOf Tryz.f201) (fn := Tryz.f201) (TabOK.of (entCons (impl_Pair_byThing_ok fuel) (entCons (impl_Pair_byNum_ok fuel) entNil)) (methNil)) mixed (by kernel_rfl) (by kernel_rfl) slices_insertionSortCmpFunc_impl_Pair_v0_l (by kernel_rfl) (Nat.le_of_ble_eq_true (by kernel_rfl)) (rv := slices_insertionSortCmpFunc_impl_Pair_v0_rv) (by kernel_rfl) (slices_insertionSortCmpFunc_impl_Pair_v0_run fuel)
theorem slices_insertionSortCmpFunc_impl_Pair_v0_ok (fuel : Nat) : EntryOK Tryz.prog 201 (slices_insertionSortCmpFunc_impl_Pair_v0_tf fuel).te := EntryOK.tft (slices_insertionSortCmpFunc_impl_Pair_v0_spec fuel) (isFn (fn := Tryz.f201) (by kernel_rfl) (by kernel_rfl) (by kernel_rfl))
abbrev slices_insertionSortCmpFunc_impl_Pair_v1_R := Option (LP × Unit)
def slices_insertionSortCmpFunc_impl_Pair_v1_T (fuel : Nat) : Tab := Tab.of [(193, (impl_Pair_byThing_tf fuel).te), (194, (impl_Pair_byNum_tf fuel).te)] []
abbrev slices_insertionSortCmpFunc_impl_Pair_v1_ps : Sh := (.cell I6 0 (.cell I6 0 (.fnc 194 .nil)))
abbrev slices_insertionSortCmpFunc_impl_Pair_v1_rs : List Pm := []
def slices_insertionSortCmpFunc_impl_Pair_v1_ann : List Norm := [{ live := [8, 2, 1, 3, 0], fix := [] }, { live := [9, 1, 3, 0, 8, 2], fix := [] }]
noncomputable def slices_insertionSortCmpFunc_impl_Pair_v1_c : C := irOf Tryz.prog Tryz.f201 [] slices_insertionSortCmpFunc_impl_Pair_v1_ann []
theorem slices_insertionSortCmpFunc_impl_Pair_v1_l : lightC Tryz.prog [] Tryz.f201.ntmps slices_insertionSortCmpFunc_impl_Pair_v1_ann [] 0 (bodyOf Tryz.f201) = some (slices_insertionSortCmpFunc_impl_Pair_v1_c, 2) := by kernel_rfl
def slices_insertionSortCmpFunc_impl_Pair_v1_rv : List (Nat × Option (Nat × Bool)) := []
abbrev slices_insertionSortCmpFunc_impl_Pair_v1_V0 := (Int) × (Int) × (Int) × LP
abbrev slices_insertionSortCmpFunc_impl_Pair_v1_V1 := (Int) × (Int) × (Int) × (Int) × LP
def slices_insertionSortCmpFunc_impl_Pair_v1_enc0 (v : slices_insertionSortCmpFunc_impl_Pair_v1_V0) : Env × Heap := ([(8, SV.int .i64 v.1), (2, SV.int .i64 v.2.1), (1, SV.int .i64 v.2.2.1), (3, SV.fn (Fn.func 194) [] []), (0, SV.own 0)], [Blk.arr KP v.2.2.2 0])
def slices_insertionSortCmpFunc_impl_Pair_v1_enc1 (v : slices_insertionSortCmpFunc_impl_Pair_v1_V1) : Env × Heap := ([(9, SV.int .i64 v.1), (1, SV.int .i64 v.2.1), (3, SV.fn (Fn.func 194) [] []), (0, SV.own 0), (8, SV.int .i64 v.2.2.1), (2, SV.int .i64 v.2.2.2.1)], [Blk.arr KP v.2.2.2.2 0])
def slices_insertionSortCmpFunc_impl_Pair_v1_step1 (fuel : Nat) (g0 : slices_insertionSortCmpFunc_impl_Pair_v1_V0 → slices_insertionSortCmpFunc_impl_Pair_v1_R) (g1 : slices_insertionSortCmpFunc_impl_Pair_v1_V1 → slices_insertionSortCmpFunc_impl_Pair_v1_R) (v : slices_insertionSortCmpFunc_impl_Pair_v1_V1) : slices_insertionSortCmpFunc_impl_Pair_v1_R :=
 cond (decide (v.1 > v.2.1))
 (tst (decide (0 ≤ v.1)) <|
  tst (decide (v.1 < (zz (List.length v.2.2.2.2)))) <|
  tst (decide (Int.toNat v.1 < List.length v.2.2.2.2)) <|
  tst (decide (0 ≤ w64 (v.1 - (1 : Int)))) <|
  tst (decide (w64 (v.1 - (1 : Int)) < (zz (List.length v.2.2.2.2)))) <|
  tst (decide (Int.toNat (w64 (v.1 - (1 : Int))) < List.length v.2.2.2.2)) <|
  Option.bind (impl_Pair_byNum_fn fuel (((List.getD v.2.2.2.2 (Int.toNat v.1) (0, (0, ()))).1, (List.getD v.2.2.2.2 (Int.toNat v.1) (0, (0, ()))).2.1, ()), ((List.getD v.2.2.2.2 (Int.toNat (w64 (v.1 - (1 : Int)))) (0, (0, ()))).1, (List.getD v.2.2.2.2 (Int.toNat (w64 (v.1 - (1 : Int)))) (0, (0, ()))).2.1, ()), ())) fun y_2 =>
  cond (decide (y_2.1.1 < (0 : Int)))
   (tst (decide (0 ≤ w64 (v.1 - (1 : Int)))) <|
    tst (decide (w64 (v.1 - (1 : Int)) < (zz (List.length v.2.2.2.2)))) <|
    tst (decide (Int.toNat (w64 (v.1 - (1 : Int))) < List.length v.2.2.2.2)) <|
    tst (decide (0 ≤ v.1)) <|
    tst (decide (v.1 < (zz (List.length v.2.2.2.2)))) <|
    tst (decide (Int.toNat v.1 < List.length v.2.2.2.2)) <|
    tst (decide (0 ≤ v.1)) <|
    tst (decide (v.1 < (zz (List.length v.2.2.2.2)))) <|
    tst (decide (Int.toNat v.1 < List.length v.2.2.2.2)) <|
    tst (decide (0 ≤ w64 (v.1 - (1 : Int)))) <|
    tst (decide (w64 (v.1 - (1 : Int)) < (zz (List.length (List.set v.2.2.2.2 (Int.toNat v.1) ((List.getD v.2.2.2.2 (Int.toNat (w64 (v.1 - (1 : Int)))) (0, (0, ()))).1, (List.getD v.2.2.2.2 (Int.toNat (w64 (v.1 - (1 : Int)))) (0, (0, ()))).2.1, ())))))) <|
    tst (decide (Int.toNat (w64 (v.1 - (1 : Int))) < List.length (List.set v.2.2.2.2 (Int.toNat v.1) ((List.getD v.2.2.2.2 (Int.toNat (w64 (v.1 - (1 : Int)))) (0, (0, ()))).1, (List.getD v.2.2.2.2 (Int.toNat (w64 (v.1 - (1 : Int)))) (0, (0, ()))).2.1, ())))) <|
    g1 (w64 (v.1 - (1 : Int)), v.2.1, v.2.2.1, v.2.2.2.1, List.set (List.set v.2.2.2.2 (Int.toNat v.1) ((List.getD v.2.2.2.2 (Int.toNat (w64 (v.1 - (1 : Int)))) (0, (0, ()))).1, (List.getD v.2.2.2.2 (Int.toNat (w64 (v.1 - (1 : Int)))) (0, (0, ()))).2.1, ())) (Int.toNat (w64 (v.1 - (1 : Int)))) ((List.getD v.2.2.2.2 (Int.toNat v.1) (0, (0, ()))).1, (List.getD v.2.2.2.2 (Int.toNat v.1) (0, (0, ()))).2.1, ())))
   (g0 (w64 (v.2.2.1 + (1 : Int)), v.2.2.2.1, v.2.1, v.2.2.2.2)))
 (g0 (w64 (v.2.2.1 + (1 : Int)), v.2.2.2.1, v.2.1, v.2.2.2.2))
def slices_insertionSortCmpFunc_impl_Pair_v1_st1 (fuel : Nat) (g0 : slices_insertionSortCmpFunc_impl_Pair_v1_V0 → slices_insertionSortCmpFunc_impl_Pair_v1_R) (g1 : slices_insertionSortCmpFunc_impl_Pair_v1_V1 → slices_insertionSortCmpFunc_impl_Pair_v1_R) : slices_insertionSortCmpFunc_impl_Pair_v1_V1 → slices_insertionSortCmpFunc_impl_Pair_v1_R := slices_insertionSortCmpFunc_impl_Pair_v1_step1 fuel g0 g1
theorem slices_insertionSortCmpFunc_impl_Pair_v1_lp1 (fuel : Nat) (G) : slices_insertionSortCmpFunc_impl_Pair_v1_c.lp (slices_insertionSortCmpFunc_impl_Pair_v1_T fuel) 1 fuel G (endS slices_insertionSortCmpFunc_impl_Pair_v1_rv KP false slices_insertionSortCmpFunc_impl_Pair_v1_rs) 1 slices_insertionSortCmpFunc_impl_Pair_v1_enc1 = iter (slices_insertionSortCmpFunc_impl_Pair_v1_st1 fuel (fun v => G 0 (slices_insertionSortCmpFunc_impl_Pair_v1_enc0 v).1 (slices_insertionSortCmpFunc_impl_Pair_v1_enc0 v).2)) fuel := C.lp_iter fun g v =>
  (show run (slices_insertionSortCmpFunc_impl_Pair_v1_T fuel) 1 fuel (slices_insertionSortCmpFunc_impl_Pair_v1_c.bdAt 1) (slices_insertionSortCmpFunc_impl_Pair_v1_enc1 v).1 (slices_insertionSortCmpFunc_impl_Pair_v1_enc1 v).2 (loopK 1 (slices_insertionSortCmpFunc_impl_Pair_v1_c.nmAt 1) g (slices_insertionSortCmpFunc_impl_Pair_v1_c.contAt (slices_insertionSortCmpFunc_impl_Pair_v1_T fuel) 1 fuel G 0 1 (endS slices_insertionSortCmpFunc_impl_Pair_v1_rv KP false slices_insertionSortCmpFunc_impl_Pair_v1_rs))) = slices_insertionSortCmpFunc_impl_Pair_v1_step1 fuel (fun v => G 0 (slices_insertionSortCmpFunc_impl_Pair_v1_enc0 v).1 (slices_insertionSortCmpFunc_impl_Pair_v1_enc0 v).2) (fun v => g (slices_insertionSortCmpFunc_impl_Pair_v1_enc1 v).1 (slices_insertionSortCmpFunc_impl_Pair_v1_enc1 v).2) v by kernel_rfl)
def slices_insertionSortCmpFunc_impl_Pair_v1_step0 (fuel : Nat) (X1 : slices_insertionSortCmpFunc_impl_Pair_v1_V1 → slices_insertionSortCmpFunc_impl_Pair_v1_R) (g0 : slices_insertionSortCmpFunc_impl_Pair_v1_V0 → slices_insertionSortCmpFunc_impl_Pair_v1_R) (v : slices_insertionSortCmpFunc_impl_Pair_v1_V0) : slices_insertionSortCmpFunc_impl_Pair_v1_R :=
 cond (decide (v.1 < v.2.1))
 (X1 (v.1, v.2.2.1, v.1, v.2.1, v.2.2.2))
 (some ((v.2.2.2, ())))
def slices_insertionSortCmpFunc_impl_Pair_v1_st0 (fuel : Nat) (g0 : slices_insertionSortCmpFunc_impl_Pair_v1_V0 → slices_insertionSortCmpFunc_impl_Pair_v1_R) : slices_insertionSortCmpFunc_impl_Pair_v1_V0 → slices_insertionSortCmpFunc_impl_Pair_v1_R := slices_insertionSortCmpFunc_impl_Pair_v1_step0 fuel (iter (slices_insertionSortCmpFunc_impl_Pair_v1_st1 fuel g0) fuel) g0
theorem slices_insertionSortCmpFunc_impl_Pair_v1_lp0 (fuel : Nat) (G) : slices_insertionSortCmpFunc_impl_Pair_v1_c.lp (slices_insertionSortCmpFunc_impl_Pair_v1_T fuel) 1 fuel G (endS slices_insertionSortCmpFunc_impl_Pair_v1_rv KP false slices_insertionSortCmpFunc_impl_Pair_v1_rs) 0 slices_insertionSortCmpFunc_impl_Pair_v1_enc0 = iter (slices_insertionSortCmpFunc_impl_Pair_v1_st0 fuel) fuel := C.lp_iter fun g v =>
  (show run (slices_insertionSortCmpFunc_impl_Pair_v1_T fuel) 1 fuel (slices_insertionSortCmpFunc_impl_Pair_v1_c.bdAt 0) (slices_insertionSortCmpFunc_impl_Pair_v1_enc0 v).1 (slices_insertionSortCmpFunc_impl_Pair_v1_enc0 v).2 (loopK 1 (slices_insertionSortCmpFunc_impl_Pair_v1_c.nmAt 0) g (slices_insertionSortCmpFunc_impl_Pair_v1_c.contAt (slices_insertionSortCmpFunc_impl_Pair_v1_T fuel) 1 fuel G 0 0 (endS slices_insertionSortCmpFunc_impl_Pair_v1_rv KP false slices_insertionSortCmpFunc_impl_Pair_v1_rs))) = slices_insertionSortCmpFunc_impl_Pair_v1_step0 fuel (slices_insertionSortCmpFunc_impl_Pair_v1_c.lp (slices_insertionSortCmpFunc_impl_Pair_v1_T fuel) 1 fuel (fun m => bif Nat.beq m 0 then g else G m) (endS slices_insertionSortCmpFunc_impl_Pair_v1_rv KP false slices_insertionSortCmpFunc_impl_Pair_v1_rs) 1 slices_insertionSortCmpFunc_impl_Pair_v1_enc1) (fun v => g (slices_insertionSortCmpFunc_impl_Pair_v1_enc0 v).1 (slices_insertionSortCmpFunc_impl_Pair_v1_enc0 v).2) v by kernel_rfl).trans (by rw [slices_insertionSortCmpFunc_impl_Pair_v1_lp1]; rfl)
def slices_insertionSortCmpFunc_impl_Pair_v1_pre (fuel : Nat) (X0 : slices_insertionSortCmpFunc_impl_Pair_v1_V0 → slices_insertionSortCmpFunc_impl_Pair_v1_R) (d0 : LP) (x0 : Int) (x1 : Int) : slices_insertionSortCmpFunc_impl_Pair_v1_R :=
 X0 (w64 (x0 + (1 : Int)), x1, x0, d0)
def slices_insertionSortCmpFunc_impl_Pair_v1_fn (fuel : Nat) (z : LP × Unit × (Int × (Int × Unit))) : slices_insertionSortCmpFunc_impl_Pair_v1_R := slices_insertionSortCmpFunc_impl_Pair_v1_pre fuel (iter (slices_insertionSortCmpFunc_impl_Pair_v1_st0 fuel) fuel) z.1 z.2.2.1 z.2.2.2.1
theorem slices_insertionSortCmpFunc_impl_Pair_v1_run (fuel : Nat) (c : List (Kd.T KP)) (d : CsT []) (x : Sh.T slices_insertionSortCmpFunc_impl_Pair_v1_ps) : run (slices_insertionSortCmpFunc_impl_Pair_v1_T fuel) 1 fuel slices_insertionSortCmpFunc_impl_Pair_v1_c ((0, firstV false 0 (svCs [] d)) :: env0 (svS slices_insertionSortCmpFunc_impl_Pair_v1_ps x) 1) [.arr KP c 0] (endS slices_insertionSortCmpFunc_impl_Pair_v1_rv KP false slices_insertionSortCmpFunc_impl_Pair_v1_rs) = slices_insertionSortCmpFunc_impl_Pair_v1_fn fuel (c, d, x) :=
  (show run (slices_insertionSortCmpFunc_impl_Pair_v1_T fuel) 1 fuel slices_insertionSortCmpFunc_impl_Pair_v1_c ((0, firstV false 0 (svCs [] d)) :: env0 (svS slices_insertionSortCmpFunc_impl_Pair_v1_ps x) 1) [.arr KP c 0] (endS slices_insertionSortCmpFunc_impl_Pair_v1_rv KP false slices_insertionSortCmpFunc_impl_Pair_v1_rs) = slices_insertionSortCmpFunc_impl_Pair_v1_pre fuel (slices_insertionSortCmpFunc_impl_Pair_v1_c.lp (slices_insertionSortCmpFunc_impl_Pair_v1_T fuel) 1 fuel (fun _ _ _ => none) (endS slices_insertionSortCmpFunc_impl_Pair_v1_rv KP false slices_insertionSortCmpFunc_impl_Pair_v1_rs) 0 slices_insertionSortCmpFunc_impl_Pair_v1_enc0) c x.1 x.2.1 by kernel_rfl).trans (by rw [slices_insertionSortCmpFunc_impl_Pair_v1_lp0]; rfl)
def slices_insertionSortCmpFunc_impl_Pair_v1_tf (fuel : Nat) : TFT := ⟨KP, false, [], slices_insertionSortCmpFunc_impl_Pair_v1_ps, slices_insertionSortCmpFunc_impl_Pair_v1_rs, false, slices_insertionSortCmpFunc_impl_Pair_v1_fn fuel⟩
theorem slices_insertionSortCmpFunc_impl_Pair_v1_spec (fuel : Nat) : FnSpecT Tryz.prog 201 (slices_insertionSortCmpFunc_impl_Pair_v1_tf fuel) :=
  fn_specT (T := slices_insertionSortCmpFunc_impl_Pair_v1_T fuel) (c := bodyOf Tryz.f201) (fn := Tryz.f201) (TabOK.of (entCons (impl_Pair_byThing_ok fuel) (entCons (impl_Pair_byNum_ok fuel) entNil)) (methNil)) mixed (by kernel_rfl) (by kernel_rfl) slices_insertionSortCmpFunc_impl_Pair_v1_l (by kernel_rfl) (Nat.le_of_ble_eq_true (by kernel_rfl)) (rv := slices_insertionSortCmpFunc_impl_Pair_v1_rv) (by kernel_rfl) (slices_insertionSortCmpFunc_impl_Pair_v1_run fuel)
theorem slices_insertionSortCmpFunc_impl_Pair_v1_ok (fuel : Nat) : EntryOK Tryz.prog 201 (slices_insertionSortCmpFunc_impl_Pair_v1_tf fuel).te := EntryOK.tft (slices_insertionSortCmpFunc_impl_Pair_v1_spec fuel) (isFn (fn := Tryz.f201) (by kernel_rfl) (by kernel_rfl) (by kernel_rfl))
abbrev slices_pdqsortCmpFunc_impl_Pair_v0_R := Option (LP × Unit)
def slices_pdqsortCmpFunc_impl_Pair_v0_T (fuel : Nat) : Tab := Tab.of [(201, (slices_insertionSortCmpFunc_impl_Pair_v0_tf fuel).te), (201, (slices_insertionSortCmpFunc_impl_Pair_v1_tf fuel).te)] []
abbrev slices_pdqsortCmpFunc_impl_Pair_v0_ps : Sh := (.cell I6 0 (.cell I6 0 (.cell I6 0 (.fnc 193 .nil))))
abbrev slices_pdqsortCmpFunc_impl_Pair_v0_rs : List Pm := []
def slices_pdqsortCmpFunc_impl_Pair_v0_ann : List Norm := [{ live := [2, 1, 0, 4, 3, 10, 11], fix := [] }]
noncomputable def slices_pdqsortCmpFunc_impl_Pair_v0_c : C := irOf Tryz.prog Tryz.f198 [] slices_pdqsortCmpFunc_impl_Pair_v0_ann []
theorem slices_pdqsortCmpFunc_impl_Pair_v0_l : lightC Tryz.prog [] Tryz.f198.ntmps slices_pdqsortCmpFunc_impl_Pair_v0_ann [] 0 (bodyOf Tryz.f198) = some (slices_pdqsortCmpFunc_impl_Pair_v0_c, 1) := by kernel_rfl
def slices_pdqsortCmpFunc_impl_Pair_v0_rv : List (Nat × Option (Nat × Bool)) := []
abbrev slices_pdqsortCmpFunc_impl_Pair_v0_V0 := (Int) × (Int) × (Int) × (Bool) × (Bool) × LP
def slices_pdqsortCmpFunc_impl_Pair_v0_enc0 (v : slices_pdqsortCmpFunc_impl_Pair_v0_V0) : Env × Heap := ([(2, SV.int .i64 v.1), (1, SV.int .i64 v.2.1), (0, SV.own 0), (4, SV.fn (Fn.func 193) [] []), (3, SV.int .i64 v.2.2.1), (10, SV.bool v.2.2.2.1), (11, SV.bool v.2.2.2.2.1)], [Blk.arr KP v.2.2.2.2.2 0])
def slices_pdqsortCmpFunc_impl_Pair_v0_step0 (fuel : Nat) (g0 : slices_pdqsortCmpFunc_impl_Pair_v0_V0 → slices_pdqsortCmpFunc_impl_Pair_v0_R) (v : slices_pdqsortCmpFunc_impl_Pair_v0_V0) : slices_pdqsortCmpFunc_impl_Pair_v0_R :=
 cond (decide (w64 (v.1 - v.2.1) ≤ (12 : Int)))
 (Option.bind (slices_insertionSortCmpFunc_impl_Pair_v0_fn fuel (v.2.2.2.2.2, (), v.2.1, v.1, ())) fun y_2 =>
  some ((y_2.1, ())))
 (cond (v.2.2.1 == (0 : Int))
  (none)
  (cond (!v.2.2.2.1)
   (none)
   (none)))
def slices_pdqsortCmpFunc_impl_Pair_v0_st0 (fuel : Nat) (g0 : slices_pdqsortCmpFunc_impl_Pair_v0_V0 → slices_pdqsortCmpFunc_impl_Pair_v0_R) : slices_pdqsortCmpFunc_impl_Pair_v0_V0 → slices_pdqsortCmpFunc_impl_Pair_v0_R := slices_pdqsortCmpFunc_impl_Pair_v0_step0 fuel g0
theorem slices_pdqsortCmpFunc_impl_Pair_v0_lp0 (fuel : Nat) (G) : slices_pdqsortCmpFunc_impl_Pair_v0_c.lp (slices_pdqsortCmpFunc_impl_Pair_v0_T fuel) 1 fuel G (endS slices_pdqsortCmpFunc_impl_Pair_v0_rv KP false slices_pdqsortCmpFunc_impl_Pair_v0_rs) 0 slices_pdqsortCmpFunc_impl_Pair_v0_enc0 = iter (slices_pdqsortCmpFunc_impl_Pair_v0_st0 fuel) fuel := C.lp_iter fun g v => by kernel_rfl
def slices_pdqsortCmpFunc_impl_Pair_v0_pre (fuel : Nat) (X0 : slices_pdqsortCmpFunc_impl_Pair_v0_V0 → slices_pdqsortCmpFunc_impl_Pair_v0_R) (d0 : LP) (x0 : Int) (x1 : Int) (x2 : Int) : slices_pdqsortCmpFunc_impl_Pair_v0_R :=
 X0 (x1, x0, x2, true, true, d0)
def slices_pdqsortCmpFunc_impl_Pair_v0_fn (fuel : Nat) (z : LP × Unit × (Int × (Int × (Int × Unit)))) : slices_pdqsortCmpFunc_impl_Pair_v0_R := slices_pdqsortCmpFunc_impl_Pair_v0_pre fuel (iter (slices_pdqsortCmpFunc_impl_Pair_v0_st0 fuel) fuel) z.1 z.2.2.1 z.2.2.2.1 z.2.2.2.2.1
theorem slices_pdqsortCmpFunc_impl_Pair_v0_run (fuel : Nat) (c : List (Kd.T KP)) (d : CsT []) (x : Sh.T slices_pdqsortCmpFunc_impl_Pair_v0_ps) : run (slices_pdqsortCmpFunc_impl_Pair_v0_T fuel) 1 fuel slices_pdqsortCmpFunc_impl_Pair_v0_c ((0, firstV false 0 (svCs [] d)) :: env0 (svS slices_pdqsortCmpFunc_impl_Pair_v0_ps x) 1) [.arr KP c 0] (endS slices_pdqsortCmpFunc_impl_Pair_v0_rv KP false slices_pdqsortCmpFunc_impl_Pair_v0_rs) = slices_pdqsortCmpFunc_impl_Pair_v0_fn fuel (c, d, x) :=
  (show run (slices_pdqsortCmpFunc_impl_Pair_v0_T fuel) 1 fuel slices_pdqsortCmpFunc_impl_Pair_v0_c ((0, firstV false 0 (svCs [] d)) :: env0 (svS slices_pdqsortCmpFunc_impl_Pair_v0_ps x) 1) [.arr KP c 0] (endS slices_pdqsortCmpFunc_impl_Pair_v0_rv KP false slices_pdqsortCmpFunc_impl_Pair_v0_rs) = slices_pdqsortCmpFunc_impl_Pair_v0_pre fuel (slices_pdqsortCmpFunc_impl_Pair_v0_c.lp (slices_pdqsortCmpFunc_impl_Pair_v0_T fuel) 1 fuel (fun _ _ _ => none) (endS slices_pdqsortCmpFunc_impl_Pair_v0_rv KP false slices_pdqsortCmpFunc_impl_Pair_v0_rs) 0 slices_pdqsortCmpFunc_impl_Pair_v0_enc0) c x.1 x.2.1 x.2.2.1 by kernel_rfl).trans (by rw [slices_pdqsortCmpFunc_impl_Pair_v0_lp0]; rfl)
def slices_pdqsortCmpFunc_impl_Pair_v0_tf (fuel : Nat) : TFT := ⟨KP, false, [], slices_pdqsortCmpFunc_impl_Pair_v0_ps, slices_pdqsortCmpFunc_impl_Pair_v0_rs, false, slices_pdqsortCmpFunc_impl_Pair_v0_fn fuel⟩
theorem slices_pdqsortCmpFunc_impl_Pair_v0_spec (fuel : Nat) : FnSpecT Tryz.prog 198 (slices_pdqsortCmpFunc_impl_Pair_v0_tf fuel) :=
  fn_specT (T := slices_pdqsortCmpFunc_impl_Pair_v0_T fuel) (c := bodyOf Tryz.f198) (fn := Tryz.f198) (TabOK.of (entCons (slices_insertionSortCmpFunc_impl_Pair_v0_ok fuel) (entCons (slices_insertionSortCmpFunc_impl_Pair_v1_ok fuel) entNil)) (methNil)) mixed (by kernel_rfl) (by kernel_rfl) slices_pdqsortCmpFunc_impl_Pair_v0_l (by kernel_rfl) (Nat.le_of_ble_eq_true (by kernel_rfl)) (rv := slices_pdqsortCmpFunc_impl_Pair_v0_rv) (by kernel_rfl) (slices_pdqsortCmpFunc_impl_Pair_v0_run fuel)
theorem slices_pdqsortCmpFunc_impl_Pair_v0_ok (fuel : Nat) : EntryOK Tryz.prog 198 (slices_pdqsortCmpFunc_impl_Pair_v0_tf fuel).te := EntryOK.tft (slices_pdqsortCmpFunc_impl_Pair_v0_spec fuel) (isFn (fn := Tryz.f198) (by kernel_rfl) (by kernel_rfl) (by kernel_rfl))
abbrev slices_pdqsortCmpFunc_impl_Pair_v1_R := Option (LP × Unit)
def slices_pdqsortCmpFunc_impl_Pair_v1_T (fuel : Nat) : Tab := Tab.of [(201, (slices_insertionSortCmpFunc_impl_Pair_v0_tf fuel).te), (201, (slices_insertionSortCmpFunc_impl_Pair_v1_tf fuel).te)] []
abbrev slices_pdqsortCmpFunc_impl_Pair_v1_ps : Sh := (.cell I6 0 (.cell I6 0 (.cell I6 0 (.fnc 194 .nil))))
abbrev slices_pdqsortCmpFunc_impl_Pair_v1_rs : List Pm := []
def slices_pdqsortCmpFunc_impl_Pair_v1_ann : List Norm := [{ live := [2, 1, 0, 4, 3, 10, 11], fix := [] }]
noncomputable def slices_pdqsortCmpFunc_impl_Pair_v1_c : C := irOf Tryz.prog Tryz.f198 [] slices_pdqsortCmpFunc_impl_Pair_v1_ann []
theorem slices_pdqsortCmpFunc_impl_Pair_v1_l : lightC Tryz.prog [] Tryz.f198.ntmps slices_pdqsortCmpFunc_impl_Pair_v1_ann [] 0 (bodyOf Tryz.f198) = some (slices_pdqsortCmpFunc_impl_Pair_v1_c, 1) := by kernel_rfl
def slices_pdqsortCmpFunc_impl_Pair_v1_rv : List (Nat × Option (Nat × Bool)) := []
abbrev slices_pdqsortCmpFunc_impl_Pair_v1_V0 := (Int) × (Int) × (Int) × (Bool) × (Bool) × LP
def slices_pdqsortCmpFunc_impl_Pair_v1_enc0 (v : slices_pdqsortCmpFunc_impl_Pair_v1_V0) : Env × Heap := ([(2, SV.int .i64 v.1), (1, SV.int .i64 v.2.1), (0, SV.own 0), (4, SV.fn (Fn.func 194) [] []), (3, SV.int .i64 v.2.2.1), (10, SV.bool v.2.2.2.1), (11, SV.bool v.2.2.2.2.1)], [Blk.arr KP v.2.2.2.2.2 0])
def slices_pdqsortCmpFunc_impl_Pair_v1_step0 (fuel : Nat) (g0 : slices_pdqsortCmpFunc_impl_Pair_v1_V0 → slices_pdqsortCmpFunc_impl_Pair_v1_R) (v : slices_pdqsortCmpFunc_impl_Pair_v1_V0) : slices_pdqsortCmpFunc_impl_Pair_v1_R :=
 cond (decide (w64 (v.1 - v.2.1) ≤ (12 : Int)))
 (Option.bind (slices_insertionSortCmpFunc_impl_Pair_v1_fn fuel (v.2.2.2.2.2, (), v.2.1, v.1, ())) fun y_2 =>
  some ((y_2.1, ())))
 (cond (v.2.2.1 == (0 : Int))
  (none)
  (cond (!v.2.2.2.1)
   (none)
   (none)))
def slices_pdqsortCmpFunc_impl_Pair_v1_st0 (fuel : Nat) (g0 : slices_pdqsortCmpFunc_impl_Pair_v1_V0 → slices_pdqsortCmpFunc_impl_Pair_v1_R) : slices_pdqsortCmpFunc_impl_Pair_v1_V0 → slices_pdqsortCmpFunc_impl_Pair_v1_R := slices_pdqsortCmpFunc_impl_Pair_v1_step0 fuel g0
theorem slices_pdqsortCmpFunc_impl_Pair_v1_lp0 (fuel : Nat) (G) : slices_pdqsortCmpFunc_impl_Pair_v1_c.lp (slices_pdqsortCmpFunc_impl_Pair_v1_T fuel) 1 fuel G (endS slices_pdqsortCmpFunc_impl_Pair_v1_rv KP false slices_pdqsortCmpFunc_impl_Pair_v1_rs) 0 slices_pdqsortCmpFunc_impl_Pair_v1_enc0 = iter (slices_pdqsortCmpFunc_impl_Pair_v1_st0 fuel) fuel := C.lp_iter fun g v => by kernel_rfl
def slices_pdqsortCmpFunc_impl_Pair_v1_pre (fuel : Nat) (X0 : slices_pdqsortCmpFunc_impl_Pair_v1_V0 → slices_pdqsortCmpFunc_impl_Pair_v1_R) (d0 : LP) (x0 : Int) (x1 : Int) (x2 : Int) : slices_pdqsortCmpFunc_impl_Pair_v1_R :=
 X0 (x1, x0, x2, true, true, d0)
def slices_pdqsortCmpFunc_impl_Pair_v1_fn (fuel : Nat) (z : LP × Unit × (Int × (Int × (Int × Unit)))) : slices_pdqsortCmpFunc_impl_Pair_v1_R := slices_pdqsortCmpFunc_impl_Pair_v1_pre fuel (iter (slices_pdqsortCmpFunc_impl_Pair_v1_st0 fuel) fuel) z.1 z.2.2.1 z.2.2.2.1 z.2.2.2.2.1
theorem slices_pdqsortCmpFunc_impl_Pair_v1_run (fuel : Nat) (c : List (Kd.T KP)) (d : CsT []) (x : Sh.T slices_pdqsortCmpFunc_impl_Pair_v1_ps) : run (slices_pdqsortCmpFunc_impl_Pair_v1_T fuel) 1 fuel slices_pdqsortCmpFunc_impl_Pair_v1_c ((0, firstV false 0 (svCs [] d)) :: env0 (svS slices_pdqsortCmpFunc_impl_Pair_v1_ps x) 1) [.arr KP c 0] (endS slices_pdqsortCmpFunc_impl_Pair_v1_rv KP false slices_pdqsortCmpFunc_impl_Pair_v1_rs) = slices_pdqsortCmpFunc_impl_Pair_v1_fn fuel (c, d, x) :=
  (show run (slices_pdqsortCmpFunc_impl_Pair_v1_T fuel) 1 fuel slices_pdqsortCmpFunc_impl_Pair_v1_c ((0, firstV false 0 (svCs [] d)) :: env0 (svS slices_pdqsortCmpFunc_impl_Pair_v1_ps x) 1) [.arr KP c 0] (endS slices_pdqsortCmpFunc_impl_Pair_v1_rv KP false slices_pdqsortCmpFunc_impl_Pair_v1_rs) = slices_pdqsortCmpFunc_impl_Pair_v1_pre fuel (slices_pdqsortCmpFunc_impl_Pair_v1_c.lp (slices_pdqsortCmpFunc_impl_Pair_v1_T fuel) 1 fuel (fun _ _ _ => none) (endS slices_pdqsortCmpFunc_impl_Pair_v1_rv KP false slices_pdqsortCmpFunc_impl_Pair_v1_rs) 0 slices_pdqsortCmpFunc_impl_Pair_v1_enc0) c x.1 x.2.1 x.2.2.1 by kernel_rfl).trans (by rw [slices_pdqsortCmpFunc_impl_Pair_v1_lp0]; rfl)
def slices_pdqsortCmpFunc_impl_Pair_v1_tf (fuel : Nat) : TFT := ⟨KP, false, [], slices_pdqsortCmpFunc_impl_Pair_v1_ps, slices_pdqsortCmpFunc_impl_Pair_v1_rs, false, slices_pdqsortCmpFunc_impl_Pair_v1_fn fuel⟩
theorem slices_pdqsortCmpFunc_impl_Pair_v1_spec (fuel : Nat) : FnSpecT Tryz.prog 198 (slices_pdqsortCmpFunc_impl_Pair_v1_tf fuel) :=
  fn_specT (T := slices_pdqsortCmpFunc_impl_Pair_v1_T fuel) (c := bodyOf Tryz.f198) (fn := Tryz.f198) (TabOK.of (entCons (slices_insertionSortCmpFunc_impl_Pair_v0_ok fuel) (entCons (slices_insertionSortCmpFunc_impl_Pair_v1_ok fuel) entNil)) (methNil)) mixed (by kernel_rfl) (by kernel_rfl) slices_pdqsortCmpFunc_impl_Pair_v1_l (by kernel_rfl) (Nat.le_of_ble_eq_true (by kernel_rfl)) (rv := slices_pdqsortCmpFunc_impl_Pair_v1_rv) (by kernel_rfl) (slices_pdqsortCmpFunc_impl_Pair_v1_run fuel)
theorem slices_pdqsortCmpFunc_impl_Pair_v1_ok (fuel : Nat) : EntryOK Tryz.prog 198 (slices_pdqsortCmpFunc_impl_Pair_v1_tf fuel).te := EntryOK.tft (slices_pdqsortCmpFunc_impl_Pair_v1_spec fuel) (isFn (fn := Tryz.f198) (by kernel_rfl) (by kernel_rfl) (by kernel_rfl))
def math_bits_Len64_T (fuel : Nat) : Tab := Tab.of [] []
abbrev math_bits_Len64_ps : List Pm := [{ cs := [(Kd.int IntKind.u64, false)], ag := false }]
abbrev math_bits_Len64_rs : List Pm := [{ cs := [(I6, false)], ag := false }]
def math_bits_Len64_ann : List Norm := []
noncomputable def math_bits_Len64_c : C := irOf Tryz.prog Tryz.f210 [] math_bits_Len64_ann []
theorem math_bits_Len64_l : lightC Tryz.prog [] Tryz.f210.ntmps math_bits_Len64_ann [] 0 (bodyOf Tryz.f210) = some (math_bits_Len64_c, 0) := by kernel_rfl
def math_bits_Len64_rv : List (Nat × Option (Nat × Bool)) := [(2, none)]
def math_bits_Len64_pre (fuel : Nat) (x0 : Int) : Option ((Int × Unit) × Unit) :=
 cond (decide (x0 ≥ (4294967296 : Int)))
 (cond (decide (Int.fdiv x0 (2 ^ min (Int.toNat (32 : Int)) (IntKind.bits IntKind.u64)) ≥ (65536 : Int)))
  (cond (decide (Int.fdiv (Int.fdiv x0 (2 ^ min (Int.toNat (32 : Int)) (IntKind.bits IntKind.u64))) (2 ^ min (Int.toNat (16 : Int)) (IntKind.bits IntKind.u64)) ≥ (256 : Int)))
   (tst (decide (0 ≤ IntKind.wrap IntKind.u8 (Int.fdiv (Int.fdiv (Int.fdiv x0 (2 ^ min (Int.toNat (32 : Int)) (IntKind.bits IntKind.u64))) (2 ^ min (Int.toNat (16 : Int)) (IntKind.bits IntKind.u64))) (2 ^ min (Int.toNat (8 : Int)) (IntKind.bits IntKind.u64))))) <|
    tst (decide (IntKind.wrap IntKind.u8 (Int.fdiv (Int.fdiv (Int.fdiv x0 (2 ^ min (Int.toNat (32 : Int)) (IntKind.bits IntKind.u64))) (2 ^ min (Int.toNat (16 : Int)) (IntKind.bits IntKind.u64))) (2 ^ min (Int.toNat (8 : Int)) (IntKind.bits IntKind.u64))) < (zz 256))) <|
    some (((w64 (w64 (w64 ((32 : Int) + (16 : Int)) + (8 : Int)) + w64 (zz (List.getD [0, 1, 2, 2, 3, 3, 3, 3, 4, 4, 4, 4, 4, 4, 4, 4, 5, 5, 5, 5, 5, 5, 5, 5, 5, 5, 5, 5, 5, 5, 5, 5, 6, 6, 6, 6, 6, 6, 6, 6, 6, 6, 6, 6, 6, 6, 6, 6, 6, 6, 6, 6, 6, 6, 6, 6, 6, 6, 6, 6, 6, 6, 6, 6, 7, 7, 7, 7, 7, 7, 7, 7, 7, 7, 7, 7, 7, 7, 7, 7, 7, 7, 7, 7, 7, 7, 7, 7, 7, 7, 7, 7, 7, 7, 7, 7, 7, 7, 7, 7, 7, 7, 7, 7, 7, 7, 7, 7, 7, 7, 7, 7, 7, 7, 7, 7, 7, 7, 7, 7, 7, 7, 7, 7, 7, 7, 7, 7, 8, 8, 8, 8, 8, 8, 8, 8, 8, 8, 8, 8, 8, 8, 8, 8, 8, 8, 8, 8, 8, 8, 8, 8, 8, 8, 8, 8, 8, 8, 8, 8, 8, 8, 8, 8, 8, 8, 8, 8, 8, 8, 8, 8, 8, 8, 8, 8, 8, 8, 8, 8, 8, 8, 8, 8, 8, 8, 8, 8, 8, 8, 8, 8, 8, 8, 8, 8, 8, 8, 8, 8, 8, 8, 8, 8, 8, 8, 8, 8, 8, 8, 8, 8, 8, 8, 8, 8, 8, 8, 8, 8, 8, 8, 8, 8, 8, 8, 8, 8, 8, 8, 8, 8, 8, 8, 8, 8, 8, 8, 8, 8, 8, 8, 8, 8, 8, 8, 8, 8, 8, 8, 8, 8, 8, 8, 8, 8] (Int.toNat (IntKind.wrap IntKind.u8 (Int.fdiv (Int.fdiv (Int.fdiv x0 (2 ^ min (Int.toNat (32 : Int)) (IntKind.bits IntKind.u64))) (2 ^ min (Int.toNat (16 : Int)) (IntKind.bits IntKind.u64))) (2 ^ min (Int.toNat (8 : Int)) (IntKind.bits IntKind.u64))))) 0))), ()), ())))
   (tst (decide (0 ≤ IntKind.wrap IntKind.u8 (Int.fdiv (Int.fdiv x0 (2 ^ min (Int.toNat (32 : Int)) (IntKind.bits IntKind.u64))) (2 ^ min (Int.toNat (16 : Int)) (IntKind.bits IntKind.u64))))) <|
    tst (decide (IntKind.wrap IntKind.u8 (Int.fdiv (Int.fdiv x0 (2 ^ min (Int.toNat (32 : Int)) (IntKind.bits IntKind.u64))) (2 ^ min (Int.toNat (16 : Int)) (IntKind.bits IntKind.u64))) < (zz 256))) <|
    some (((w64 (w64 ((32 : Int) + (16 : Int)) + w64 (zz (List.getD [0, 1, 2, 2, 3, 3, 3, 3, 4, 4, 4, 4, 4, 4, 4, 4, 5, 5, 5, 5, 5, 5, 5, 5, 5, 5, 5, 5, 5, 5, 5, 5, 6, 6, 6, 6, 6, 6, 6, 6, 6, 6, 6, 6, 6, 6, 6, 6, 6, 6, 6, 6, 6, 6, 6, 6, 6, 6, 6, 6, 6, 6, 6, 6, 7, 7, 7, 7, 7, 7, 7, 7, 7, 7, 7, 7, 7, 7, 7, 7, 7, 7, 7, 7, 7, 7, 7, 7, 7, 7, 7, 7, 7, 7, 7, 7, 7, 7, 7, 7, 7, 7, 7, 7, 7, 7, 7, 7, 7, 7, 7, 7, 7, 7, 7, 7, 7, 7, 7, 7, 7, 7, 7, 7, 7, 7, 7, 7, 8, 8, 8, 8, 8, 8, 8, 8, 8, 8, 8, 8, 8, 8, 8, 8, 8, 8, 8, 8, 8, 8, 8, 8, 8, 8, 8, 8, 8, 8, 8, 8, 8, 8, 8, 8, 8, 8, 8, 8, 8, 8, 8, 8, 8, 8, 8, 8, 8, 8, 8, 8, 8, 8, 8, 8, 8, 8, 8, 8, 8, 8, 8, 8, 8, 8, 8, 8, 8, 8, 8, 8, 8, 8, 8, 8, 8, 8, 8, 8, 8, 8, 8, 8, 8, 8, 8, 8, 8, 8, 8, 8, 8, 8, 8, 8, 8, 8, 8, 8, 8, 8, 8, 8, 8, 8, 8, 8, 8, 8, 8, 8, 8, 8, 8, 8, 8, 8, 8, 8, 8, 8, 8, 8, 8, 8, 8, 8] (Int.toNat (IntKind.wrap IntKind.u8 (Int.fdiv (Int.fdiv x0 (2 ^ min (Int.toNat (32 : Int)) (IntKind.bits IntKind.u64))) (2 ^ min (Int.toNat (16 : Int)) (IntKind.bits IntKind.u64))))) 0))), ()), ()))))
  (cond (decide (Int.fdiv x0 (2 ^ min (Int.toNat (32 : Int)) (IntKind.bits IntKind.u64)) ≥ (256 : Int)))
   (tst (decide (0 ≤ IntKind.wrap IntKind.u8 (Int.fdiv (Int.fdiv x0 (2 ^ min (Int.toNat (32 : Int)) (IntKind.bits IntKind.u64))) (2 ^ min (Int.toNat (8 : Int)) (IntKind.bits IntKind.u64))))) <|
    tst (decide (IntKind.wrap IntKind.u8 (Int.fdiv (Int.fdiv x0 (2 ^ min (Int.toNat (32 : Int)) (IntKind.bits IntKind.u64))) (2 ^ min (Int.toNat (8 : Int)) (IntKind.bits IntKind.u64))) < (zz 256))) <|
    some (((w64 (w64 ((32 : Int) + (8 : Int)) + w64 (zz (List.getD [0, 1, 2, 2, 3, 3, 3, 3, 4, 4, 4, 4, 4, 4, 4, 4, 5, 5, 5, 5, 5, 5, 5, 5, 5, 5, 5, 5, 5, 5, 5, 5, 6, 6, 6, 6, 6, 6, 6, 6, 6, 6, 6, 6, 6, 6, 6, 6, 6, 6, 6, 6, 6, 6, 6, 6, 6, 6, 6, 6, 6, 6, 6, 6, 7, 7, 7, 7, 7, 7, 7, 7, 7, 7, 7, 7, 7, 7, 7, 7, 7, 7, 7, 7, 7, 7, 7, 7, 7, 7, 7, 7, 7, 7, 7, 7, 7, 7, 7, 7, 7, 7, 7, 7, 7, 7, 7, 7, 7, 7, 7, 7, 7, 7, 7, 7, 7, 7, 7, 7, 7, 7, 7, 7, 7, 7, 7, 7, 8, 8, 8, 8, 8, 8, 8, 8, 8, 8, 8, 8, 8, 8, 8, 8, 8, 8, 8, 8, 8, 8, 8, 8, 8, 8, 8, 8, 8, 8, 8, 8, 8, 8, 8, 8, 8, 8, 8, 8, 8, 8, 8, 8, 8, 8, 8, 8, 8, 8, 8, 8, 8, 8, 8, 8, 8, 8, 8, 8, 8, 8, 8, 8, 8, 8, 8, 8, 8, 8, 8, 8, 8, 8, 8, 8, 8, 8, 8, 8, 8, 8, 8, 8, 8, 8, 8, 8, 8, 8, 8, 8, 8, 8, 8, 8, 8, 8, 8, 8, 8, 8, 8, 8, 8, 8, 8, 8, 8, 8, 8, 8, 8, 8, 8, 8, 8, 8, 8, 8, 8, 8, 8, 8, 8, 8, 8, 8] (Int.toNat (IntKind.wrap IntKind.u8 (Int.fdiv (Int.fdiv x0 (2 ^ min (Int.toNat (32 : Int)) (IntKind.bits IntKind.u64))) (2 ^ min (Int.toNat (8 : Int)) (IntKind.bits IntKind.u64))))) 0))), ()), ())))
   (tst (decide (0 ≤ IntKind.wrap IntKind.u8 (Int.fdiv x0 (2 ^ min (Int.toNat (32 : Int)) (IntKind.bits IntKind.u64))))) <|
    tst (decide (IntKind.wrap IntKind.u8 (Int.fdiv x0 (2 ^ min (Int.toNat (32 : Int)) (IntKind.bits IntKind.u64))) < (zz 256))) <|
    some (((w64 ((32 : Int) + w64 (zz (List.getD [0, 1, 2, 2, 3, 3, 3, 3, 4, 4, 4, 4, 4, 4, 4, 4, 5, 5, 5, 5, 5, 5, 5, 5, 5, 5, 5, 5, 5, 5, 5, 5, 6, 6, 6, 6, 6, 6, 6, 6, 6, 6, 6, 6, 6, 6, 6, 6, 6, 6, 6, 6, 6, 6, 6, 6, 6, 6, 6, 6, 6, 6, 6, 6, 7, 7, 7, 7, 7, 7, 7, 7, 7, 7, 7, 7, 7, 7, 7, 7, 7, 7, 7, 7, 7, 7, 7, 7, 7, 7, 7, 7, 7, 7, 7, 7, 7, 7, 7, 7, 7, 7, 7, 7, 7, 7, 7, 7, 7, 7, 7, 7, 7, 7, 7, 7, 7, 7, 7, 7, 7, 7, 7, 7, 7, 7, 7, 7, 8, 8, 8, 8, 8, 8, 8, 8, 8, 8, 8, 8, 8, 8, 8, 8, 8, 8, 8, 8, 8, 8, 8, 8, 8, 8, 8, 8, 8, 8, 8, 8, 8, 8, 8, 8, 8, 8, 8, 8, 8, 8, 8, 8, 8, 8, 8, 8, 8, 8, 8, 8, 8, 8, 8, 8, 8, 8, 8, 8, 8, 8, 8, 8, 8, 8, 8, 8, 8, 8, 8, 8, 8, 8, 8, 8, 8, 8, 8, 8, 8, 8, 8, 8, 8, 8, 8, 8, 8, 8, 8, 8, 8, 8, 8, 8, 8, 8, 8, 8, 8, 8, 8, 8, 8, 8, 8, 8, 8, 8, 8, 8, 8, 8, 8, 8, 8, 8, 8, 8, 8, 8, 8, 8, 8, 8, 8, 8] (Int.toNat (IntKind.wrap IntKind.u8 (Int.fdiv x0 (2 ^ min (Int.toNat (32 : Int)) (IntKind.bits IntKind.u64))))) 0))), ()), ())))))
 (cond (decide (x0 ≥ (65536 : Int)))
  (cond (decide (Int.fdiv x0 (2 ^ min (Int.toNat (16 : Int)) (IntKind.bits IntKind.u64)) ≥ (256 : Int)))
   (tst (decide (0 ≤ IntKind.wrap IntKind.u8 (Int.fdiv (Int.fdiv x0 (2 ^ min (Int.toNat (16 : Int)) (IntKind.bits IntKind.u64))) (2 ^ min (Int.toNat (8 : Int)) (IntKind.bits IntKind.u64))))) <|
    tst (decide (IntKind.wrap IntKind.u8 (Int.fdiv (Int.fdiv x0 (2 ^ min (Int.toNat (16 : Int)) (IntKind.bits IntKind.u64))) (2 ^ min (Int.toNat (8 : Int)) (IntKind.bits IntKind.u64))) < (zz 256))) <|
    some (((w64 (w64 (w64 ((0 : Int) + (16 : Int)) + (8 : Int)) + w64 (zz (List.getD [0, 1, 2, 2, 3, 3, 3, 3, 4, 4, 4, 4, 4, 4, 4, 4, 5, 5, 5, 5, 5, 5, 5, 5, 5, 5, 5, 5, 5, 5, 5, 5, 6, 6, 6, 6, 6, 6, 6, 6, 6, 6, 6, 6, 6, 6, 6, 6, 6, 6, 6, 6, 6, 6, 6, 6, 6, 6, 6, 6, 6, 6, 6, 6, 7, 7, 7, 7, 7, 7, 7, 7, 7, 7, 7, 7, 7, 7, 7, 7, 7, 7, 7, 7, 7, 7, 7, 7, 7, 7, 7, 7, 7, 7, 7, 7, 7, 7, 7, 7, 7, 7, 7, 7, 7, 7, 7, 7, 7, 7, 7, 7, 7, 7, 7, 7, 7, 7, 7, 7, 7, 7, 7, 7, 7, 7, 7, 7, 8, 8, 8, 8, 8, 8, 8, 8, 8, 8, 8, 8, 8, 8, 8, 8, 8, 8, 8, 8, 8, 8, 8, 8, 8, 8, 8, 8, 8, 8, 8, 8, 8, 8, 8, 8, 8, 8, 8, 8, 8, 8, 8, 8, 8, 8, 8, 8, 8, 8, 8, 8, 8, 8, 8, 8, 8, 8, 8, 8, 8, 8, 8, 8, 8, 8, 8, 8, 8, 8, 8, 8, 8, 8, 8, 8, 8, 8, 8, 8, 8, 8, 8, 8, 8, 8, 8, 8, 8, 8, 8, 8, 8, 8, 8, 8, 8, 8, 8, 8, 8, 8, 8, 8, 8, 8, 8, 8, 8, 8, 8, 8, 8, 8, 8, 8, 8, 8, 8, 8, 8, 8, 8, 8, 8, 8, 8, 8] (Int.toNat (IntKind.wrap IntKind.u8 (Int.fdiv (Int.fdiv x0 (2 ^ min (Int.toNat (16 : Int)) (IntKind.bits IntKind.u64))) (2 ^ min (Int.toNat (8 : Int)) (IntKind.bits IntKind.u64))))) 0))), ()), ())))
   (tst (decide (0 ≤ IntKind.wrap IntKind.u8 (Int.fdiv x0 (2 ^ min (Int.toNat (16 : Int)) (IntKind.bits IntKind.u64))))) <|
    tst (decide (IntKind.wrap IntKind.u8 (Int.fdiv x0 (2 ^ min (Int.toNat (16 : Int)) (IntKind.bits IntKind.u64))) < (zz 256))) <|
    some (((w64 (w64 ((0 : Int) + (16 : Int)) + w64 (zz (List.getD [0, 1, 2, 2, 3, 3, 3, 3, 4, 4, 4, 4, 4, 4, 4, 4, 5, 5, 5, 5, 5, 5, 5, 5, 5, 5, 5, 5, 5, 5, 5, 5, 6, 6, 6, 6, 6, 6, 6, 6, 6, 6, 6, 6, 6, 6, 6, 6, 6, 6, 6, 6, 6, 6, 6, 6, 6, 6, 6, 6, 6, 6, 6, 6, 7, 7, 7, 7, 7, 7, 7, 7, 7, 7, 7, 7, 7, 7, 7, 7, 7, 7, 7, 7, 7, 7, 7, 7, 7, 7, 7, 7, 7, 7, 7, 7, 7, 7, 7, 7, 7, 7, 7, 7, 7, 7, 7, 7, 7, 7, 7, 7, 7, 7, 7, 7, 7, 7, 7, 7, 7, 7, 7, 7, 7, 7, 7, 7, 8, 8, 8, 8, 8, 8, 8, 8, 8, 8, 8, 8, 8, 8, 8, 8, 8, 8, 8, 8, 8, 8, 8, 8, 8, 8, 8, 8, 8, 8, 8, 8, 8, 8, 8, 8, 8, 8, 8, 8, 8, 8, 8, 8, 8, 8, 8, 8, 8, 8, 8, 8, 8, 8, 8, 8, 8, 8, 8, 8, 8, 8, 8, 8, 8, 8, 8, 8, 8, 8, 8, 8, 8, 8, 8, 8, 8, 8, 8, 8, 8, 8, 8, 8, 8, 8, 8, 8, 8, 8, 8, 8, 8, 8, 8, 8, 8, 8, 8, 8, 8, 8, 8, 8, 8, 8, 8, 8, 8, 8, 8, 8, 8, 8, 8, 8, 8, 8, 8, 8, 8, 8, 8, 8, 8, 8, 8, 8] (Int.toNat (IntKind.wrap IntKind.u8 (Int.fdiv x0 (2 ^ min (Int.toNat (16 : Int)) (IntKind.bits IntKind.u64))))) 0))), ()), ()))))
  (cond (decide (x0 ≥ (256 : Int)))
   (tst (decide (0 ≤ IntKind.wrap IntKind.u8 (Int.fdiv x0 (2 ^ min (Int.toNat (8 : Int)) (IntKind.bits IntKind.u64))))) <|
    tst (decide (IntKind.wrap IntKind.u8 (Int.fdiv x0 (2 ^ min (Int.toNat (8 : Int)) (IntKind.bits IntKind.u64))) < (zz 256))) <|
    some (((w64 (w64 ((0 : Int) + (8 : Int)) + w64 (zz (List.getD [0, 1, 2, 2, 3, 3, 3, 3, 4, 4, 4, 4, 4, 4, 4, 4, 5, 5, 5, 5, 5, 5, 5, 5, 5, 5, 5, 5, 5, 5, 5, 5, 6, 6, 6, 6, 6, 6, 6, 6, 6, 6, 6, 6, 6, 6, 6, 6, 6, 6, 6, 6, 6, 6, 6, 6, 6, 6, 6, 6, 6, 6, 6, 6, 7, 7, 7, 7, 7, 7, 7, 7, 7, 7, 7, 7, 7, 7, 7, 7, 7, 7, 7, 7, 7, 7, 7, 7, 7, 7, 7, 7, 7, 7, 7, 7, 7, 7, 7, 7, 7, 7, 7, 7, 7, 7, 7, 7, 7, 7, 7, 7, 7, 7, 7, 7, 7, 7, 7, 7, 7, 7, 7, 7, 7, 7, 7, 7, 8, 8, 8, 8, 8, 8, 8, 8, 8, 8, 8, 8, 8, 8, 8, 8, 8, 8, 8, 8, 8, 8, 8, 8, 8, 8, 8, 8, 8, 8, 8, 8, 8, 8, 8, 8, 8, 8, 8, 8, 8, 8, 8, 8, 8, 8, 8, 8, 8, 8, 8, 8, 8, 8, 8, 8, 8, 8, 8, 8, 8, 8, 8, 8, 8, 8, 8, 8, 8, 8, 8, 8, 8, 8, 8, 8, 8, 8, 8, 8, 8, 8, 8, 8, 8, 8, 8, 8, 8, 8, 8, 8, 8, 8, 8, 8, 8, 8, 8, 8, 8, 8, 8, 8, 8, 8, 8, 8, 8, 8, 8, 8, 8, 8, 8, 8, 8, 8, 8, 8, 8, 8, 8, 8, 8, 8, 8, 8] (Int.toNat (IntKind.wrap IntKind.u8 (Int.fdiv x0 (2 ^ min (Int.toNat (8 : Int)) (IntKind.bits IntKind.u64))))) 0))), ()), ())))
   (tst (decide (0 ≤ IntKind.wrap IntKind.u8 x0)) <|
    tst (decide (IntKind.wrap IntKind.u8 x0 < (zz 256))) <|
    some (((w64 ((0 : Int) + w64 (zz (List.getD [0, 1, 2, 2, 3, 3, 3, 3, 4, 4, 4, 4, 4, 4, 4, 4, 5, 5, 5, 5, 5, 5, 5, 5, 5, 5, 5, 5, 5, 5, 5, 5, 6, 6, 6, 6, 6, 6, 6, 6, 6, 6, 6, 6, 6, 6, 6, 6, 6, 6, 6, 6, 6, 6, 6, 6, 6, 6, 6, 6, 6, 6, 6, 6, 7, 7, 7, 7, 7, 7, 7, 7, 7, 7, 7, 7, 7, 7, 7, 7, 7, 7, 7, 7, 7, 7, 7, 7, 7, 7, 7, 7, 7, 7, 7, 7, 7, 7, 7, 7, 7, 7, 7, 7, 7, 7, 7, 7, 7, 7, 7, 7, 7, 7, 7, 7, 7, 7, 7, 7, 7, 7, 7, 7, 7, 7, 7, 7, 8, 8, 8, 8, 8, 8, 8, 8, 8, 8, 8, 8, 8, 8, 8, 8, 8, 8, 8, 8, 8, 8, 8, 8, 8, 8, 8, 8, 8, 8, 8, 8, 8, 8, 8, 8, 8, 8, 8, 8, 8, 8, 8, 8, 8, 8, 8, 8, 8, 8, 8, 8, 8, 8, 8, 8, 8, 8, 8, 8, 8, 8, 8, 8, 8, 8, 8, 8, 8, 8, 8, 8, 8, 8, 8, 8, 8, 8, 8, 8, 8, 8, 8, 8, 8, 8, 8, 8, 8, 8, 8, 8, 8, 8, 8, 8, 8, 8, 8, 8, 8, 8, 8, 8, 8, 8, 8, 8, 8, 8, 8, 8, 8, 8, 8, 8, 8, 8, 8, 8, 8, 8, 8, 8, 8, 8, 8, 8] (Int.toNat (IntKind.wrap IntKind.u8 x0)) 0))), ()), ())))))
def math_bits_Len64_fn (fuel : Nat) (x : ((Int × Unit) × Unit)) : Option ((Int × Unit) × Unit) := math_bits_Len64_pre fuel x.1.1
theorem math_bits_Len64_run (fuel : Nat) (x : PsT math_bits_Len64_ps) : run (math_bits_Len64_T fuel) 0 fuel math_bits_Len64_c (env0 (svPs math_bits_Len64_ps x) 0) [] (endF math_bits_Len64_rv math_bits_Len64_rs) = math_bits_Len64_fn fuel x := by kernel_rfl
def math_bits_Len64_tf (fuel : Nat) : TF := ⟨math_bits_Len64_ps, math_bits_Len64_rs, true, math_bits_Len64_fn fuel⟩
theorem math_bits_Len64_spec (fuel : Nat) : FnSpec Tryz.prog 210 (math_bits_Len64_tf fuel) :=
  fn_spec (T := math_bits_Len64_T fuel) (c := bodyOf Tryz.f210) (fn := Tryz.f210) (TabOK.of (entNil) (methNil)) mixed (by kernel_rfl) (by kernel_rfl) math_bits_Len64_l (by kernel_rfl) (Nat.le_of_ble_eq_true (by kernel_rfl)) (rv := math_bits_Len64_rv) (by kernel_rfl) (math_bits_Len64_run fuel)
theorem math_bits_Len64_ok (fuel : Nat) : EntryOK Tryz.prog 210 (math_bits_Len64_tf fuel).te := EntryOK.tf rfl (math_bits_Len64_spec fuel) (isFn (fn := Tryz.f210) (by kernel_rfl) (by kernel_rfl) (by kernel_rfl))
def math_bits_Len_T (fuel : Nat) : Tab := Tab.of [(210, (math_bits_Len64_tf fuel).te)] []
abbrev math_bits_Len_ps : List Pm := [{ cs := [(Kd.int IntKind.u64, false)], ag := false }]
abbrev math_bits_Len_rs : List Pm := [{ cs := [(I6, false)], ag := false }]
def math_bits_Len_ann : List Norm := []
noncomputable def math_bits_Len_c : C := irOf Tryz.prog Tryz.f199 [] math_bits_Len_ann []
theorem math_bits_Len_l : lightC Tryz.prog [] Tryz.f199.ntmps math_bits_Len_ann [] 0 (bodyOf Tryz.f199) = some (math_bits_Len_c, 0) := by kernel_rfl
def math_bits_Len_rv : List (Nat × Option (Nat × Bool)) := [(2, none)]
def math_bits_Len_pre (fuel : Nat) (x0 : Int) : Option ((Int × Unit) × Unit) :=
 Option.bind (math_bits_Len64_fn fuel ((x0, ()), ())) fun y_1 =>
 some (((y_1.1.1, ()), ()))
def math_bits_Len_fn (fuel : Nat) (x : ((Int × Unit) × Unit)) : Option ((Int × Unit) × Unit) := math_bits_Len_pre fuel x.1.1
theorem math_bits_Len_run (fuel : Nat) (x : PsT math_bits_Len_ps) : run (math_bits_Len_T fuel) 0 fuel math_bits_Len_c (env0 (svPs math_bits_Len_ps x) 0) [] (endF math_bits_Len_rv math_bits_Len_rs) = math_bits_Len_fn fuel x := by kernel_rfl
def math_bits_Len_tf (fuel : Nat) : TF := ⟨math_bits_Len_ps, math_bits_Len_rs, true, math_bits_Len_fn fuel⟩
theorem math_bits_Len_spec (fuel : Nat) : FnSpec Tryz.prog 199 (math_bits_Len_tf fuel) :=
  fn_spec (T := math_bits_Len_T fuel) (c := bodyOf Tryz.f199) (fn := Tryz.f199) (TabOK.of (entCons (math_bits_Len64_ok fuel) entNil) (methNil)) mixed (by kernel_rfl) (by kernel_rfl) math_bits_Len_l (by kernel_rfl) (Nat.le_of_ble_eq_true (by kernel_rfl)) (rv := math_bits_Len_rv) (by kernel_rfl) (math_bits_Len_run fuel)
theorem math_bits_Len_ok (fuel : Nat) : EntryOK Tryz.prog 199 (math_bits_Len_tf fuel).te := EntryOK.tf rfl (math_bits_Len_spec fuel) (isFn (fn := Tryz.f199) (by kernel_rfl) (by kernel_rfl) (by kernel_rfl))
def slices_SortFunc_impl_Pair_impl_Pair_v0_T (fuel : Nat) : Tab := Tab.of [(198, (slices_pdqsortCmpFunc_impl_Pair_v0_tf fuel).te), (198, (slices_pdqsortCmpFunc_impl_Pair_v1_tf fuel).te), (199, (math_bits_Len_tf fuel).te)] []
abbrev slices_SortFunc_impl_Pair_impl_Pair_v0_ps : Sh := (.fnc 193 .nil)
abbrev slices_SortFunc_impl_Pair_impl_Pair_v0_rs : List Pm := []
def slices_SortFunc_impl_Pair_impl_Pair_v0_ann : List Norm := []
noncomputable def slices_SortFunc_impl_Pair_impl_Pair_v0_c : C := irOf Tryz.prog Tryz.f195 [] slices_SortFunc_impl_Pair_impl_Pair_v0_ann []
theorem slices_SortFunc_impl_Pair_impl_Pair_v0_l : lightC Tryz.prog [] Tryz.f195.ntmps slices_SortFunc_impl_Pair_impl_Pair_v0_ann [] 0 (bodyOf Tryz.f195) = some (slices_SortFunc_impl_Pair_impl_Pair_v0_c, 0) := by kernel_rfl
def slices_SortFunc_impl_Pair_impl_Pair_v0_rv : List (Nat × Option (Nat × Bool)) := []
def slices_SortFunc_impl_Pair_impl_Pair_v0_pre (fuel : Nat) (d0 : LP) : Option (LP × Unit) :=
 Option.bind (math_bits_Len_fn fuel ((IntKind.wrap IntKind.u64 (zz (List.length d0)), ()), ())) fun y_1 =>
 Option.bind (slices_pdqsortCmpFunc_impl_Pair_v0_fn fuel (d0, (), (0 : Int), (zz (List.length d0)), y_1.1.1, ())) fun y_2 =>
  some ((y_2.1, ()))
def slices_SortFunc_impl_Pair_impl_Pair_v0_fn (fuel : Nat) (z : LP × Unit × Unit) : Option (LP × Unit) := slices_SortFunc_impl_Pair_impl_Pair_v0_pre fuel z.1
theorem slices_SortFunc_impl_Pair_impl_Pair_v0_run (fuel : Nat) (c : List (Kd.T KP)) (d : CsT []) (x : Sh.T slices_SortFunc_impl_Pair_impl_Pair_v0_ps) : run (slices_SortFunc_impl_Pair_impl_Pair_v0_T fuel) 1 fuel slices_SortFunc_impl_Pair_impl_Pair_v0_c ((0, firstV false 0 (svCs [] d)) :: env0 (svS slices_SortFunc_impl_Pair_impl_Pair_v0_ps x) 1) [.arr KP c 0] (endS slices_SortFunc_impl_Pair_impl_Pair_v0_rv KP false slices_SortFunc_impl_Pair_impl_Pair_v0_rs) = slices_SortFunc_impl_Pair_impl_Pair_v0_fn fuel (c, d, x) := by kernel_rfl
def slices_SortFunc_impl_Pair_impl_Pair_v0_tf (fuel : Nat) : TFT := ⟨KP, false, [], slices_SortFunc_impl_Pair_impl_Pair_v0_ps, slices_SortFunc_impl_Pair_impl_Pair_v0_rs, false, slices_SortFunc_impl_Pair_impl_Pair_v0_fn fuel⟩
theorem slices_SortFunc_impl_Pair_impl_Pair_v0_spec (fuel : Nat) : FnSpecT Tryz.prog 195 (slices_SortFunc_impl_Pair_impl_Pair_v0_tf fuel) :=
  fn_specT (T := slices_SortFunc_impl_Pair_impl_Pair_v0_T fuel) (c := bodyOf Tryz.f195) (fn := Tryz.f195) (TabOK.of (entCons (slices_pdqsortCmpFunc_impl_Pair_v0_ok fuel) (entCons (slices_pdqsortCmpFunc_impl_Pair_v1_ok fuel) (entCons (math_bits_Len_ok fuel) entNil))) (methNil)) mixed (by kernel_rfl) (by kernel_rfl) slices_SortFunc_impl_Pair_impl_Pair_v0_l (by kernel_rfl) (Nat.le_of_ble_eq_true (by kernel_rfl)) (rv := slices_SortFunc_impl_Pair_impl_Pair_v0_rv) (by kernel_rfl) (slices_SortFunc_impl_Pair_impl_Pair_v0_run fuel)
theorem slices_SortFunc_impl_Pair_impl_Pair_v0_ok (fuel : Nat) : EntryOK Tryz.prog 195 (slices_SortFunc_impl_Pair_impl_Pair_v0_tf fuel).te := EntryOK.tft (slices_SortFunc_impl_Pair_impl_Pair_v0_spec fuel) (isFn (fn := Tryz.f195) (by kernel_rfl) (by kernel_rfl) (by kernel_rfl))
def slices_SortFunc_impl_Pair_impl_Pair_v1_T (fuel : Nat) : Tab := Tab.of [(198, (slices_pdqsortCmpFunc_impl_Pair_v0_tf fuel).te), (198, (slices_pdqsortCmpFunc_impl_Pair_v1_tf fuel).te), (199, (math_bits_Len_tf fuel).te)] []
abbrev slices_SortFunc_impl_Pair_impl_Pair_v1_ps : Sh := (.fnc 194 .nil)
abbrev slices_SortFunc_impl_Pair_impl_Pair_v1_rs : List Pm := []
def slices_SortFunc_impl_Pair_impl_Pair_v1_ann : List Norm := []
noncomputable def slices_SortFunc_impl_Pair_impl_Pair_v1_c : C := irOf Tryz.prog Tryz.f195 [] slices_SortFunc_impl_Pair_impl_Pair_v1_ann []
theorem slices_SortFunc_impl_Pair_impl_Pair_v1_l : lightC Tryz.prog [] Tryz.f195.ntmps slices_SortFunc_impl_Pair_impl_Pair_v1_ann [] 0 (bodyOf Tryz.f195) = some (slices_SortFunc_impl_Pair_impl_Pair_v1_c, 0) := by kernel_rfl
def slices_SortFunc_impl_Pair_impl_Pair_v1_rv : List (Nat × Option (Nat × Bool)) := []
def slices_SortFunc_impl_Pair_impl_Pair_v1_pre (fuel : Nat) (d0 : LP) : Option (LP × Unit) :=
 Option.bind (math_bits_Len_fn fuel ((IntKind.wrap IntKind.u64 (zz (List.length d0)), ()), ())) fun y_1 =>
 Option.bind (slices_pdqsortCmpFunc_impl_Pair_v1_fn fuel (d0, (), (0 : Int), (zz (List.length d0)), y_1.1.1, ())) fun y_2 =>
  some ((y_2.1, ()))
def slices_SortFunc_impl_Pair_impl_Pair_v1_fn (fuel : Nat) (z : LP × Unit × Unit) : Option (LP × Unit) := slices_SortFunc_impl_Pair_impl_Pair_v1_pre fuel z.1
theorem slices_SortFunc_impl_Pair_impl_Pair_v1_run (fuel : Nat) (c : List (Kd.T KP)) (d : CsT []) (x : Sh.T slices_SortFunc_impl_Pair_impl_Pair_v1_ps) : run (slices_SortFunc_impl_Pair_impl_Pair_v1_T fuel) 1 fuel slices_SortFunc_impl_Pair_impl_Pair_v1_c ((0, firstV false 0 (svCs [] d)) :: env0 (svS slices_SortFunc_impl_Pair_impl_Pair_v1_ps x) 1) [.arr KP c 0] (endS slices_SortFunc_impl_Pair_impl_Pair_v1_rv KP false slices_SortFunc_impl_Pair_impl_Pair_v1_rs) = slices_SortFunc_impl_Pair_impl_Pair_v1_fn fuel (c, d, x) := by kernel_rfl
def slices_SortFunc_impl_Pair_impl_Pair_v1_tf (fuel : Nat) : TFT := ⟨KP, false, [], slices_SortFunc_impl_Pair_impl_Pair_v1_ps, slices_SortFunc_impl_Pair_impl_Pair_v1_rs, false, slices_SortFunc_impl_Pair_impl_Pair_v1_fn fuel⟩
theorem slices_SortFunc_impl_Pair_impl_Pair_v1_spec (fuel : Nat) : FnSpecT Tryz.prog 195 (slices_SortFunc_impl_Pair_impl_Pair_v1_tf fuel) :=
  fn_specT (T := slices_SortFunc_impl_Pair_impl_Pair_v1_T fuel) (c := bodyOf Tryz.f195) (fn := Tryz.f195) (TabOK.of (entCons (slices_pdqsortCmpFunc_impl_Pair_v0_ok fuel) (entCons (slices_pdqsortCmpFunc_impl_Pair_v1_ok fuel) (entCons (math_bits_Len_ok fuel) entNil))) (methNil)) mixed (by kernel_rfl) (by kernel_rfl) slices_SortFunc_impl_Pair_impl_Pair_v1_l (by kernel_rfl) (Nat.le_of_ble_eq_true (by kernel_rfl)) (rv := slices_SortFunc_impl_Pair_impl_Pair_v1_rv) (by kernel_rfl) (slices_SortFunc_impl_Pair_impl_Pair_v1_run fuel)
theorem slices_SortFunc_impl_Pair_impl_Pair_v1_ok (fuel : Nat) : EntryOK Tryz.prog 195 (slices_SortFunc_impl_Pair_impl_Pair_v1_tf fuel).te := EntryOK.tft (slices_SortFunc_impl_Pair_impl_Pair_v1_spec fuel) (isFn (fn := Tryz.f195) (by kernel_rfl) (by kernel_rfl) (by kernel_rfl))
def impl_sortPairs_v0_T (fuel : Nat) : Tab := Tab.of [(195, (slices_SortFunc_impl_Pair_impl_Pair_v0_tf fuel).te), (195, (slices_SortFunc_impl_Pair_impl_Pair_v1_tf fuel).te)] []
abbrev impl_sortPairs_v0_ps : Sh := (.num .i64 (0) .nil)
abbrev impl_sortPairs_v0_rs : List Pm := []
def impl_sortPairs_v0_ann : List Norm := []
noncomputable def impl_sortPairs_v0_c : C := irOf Tryz.prog Tryz.f183 [] impl_sortPairs_v0_ann []
theorem impl_sortPairs_v0_l : lightC Tryz.prog [] Tryz.f183.ntmps impl_sortPairs_v0_ann [] 0 (bodyOf Tryz.f183) = some (impl_sortPairs_v0_c, 0) := by kernel_rfl
def impl_sortPairs_v0_rv : List (Nat × Option (Nat × Bool)) := []
def impl_sortPairs_v0_pre (fuel : Nat) (d0 : LP) : Option (LP × Unit) :=
 Option.bind (slices_SortFunc_impl_Pair_impl_Pair_v0_fn fuel (d0, (), ())) fun y_1 =>
 some ((y_1.1, ()))
def impl_sortPairs_v0_fn (fuel : Nat) (z : LP × Unit × Unit) : Option (LP × Unit) := impl_sortPairs_v0_pre fuel z.1
theorem impl_sortPairs_v0_run (fuel : Nat) (c : List (Kd.T KP)) (d : CsT []) (x : Sh.T impl_sortPairs_v0_ps) : run (impl_sortPairs_v0_T fuel) 1 fuel impl_sortPairs_v0_c ((0, firstV false 0 (svCs [] d)) :: env0 (svS impl_sortPairs_v0_ps x) 1) [.arr KP c 0] (endS impl_sortPairs_v0_rv KP false impl_sortPairs_v0_rs) = impl_sortPairs_v0_fn fuel (c, d, x) := by kernel_rfl
def impl_sortPairs_v0_tf (fuel : Nat) : TFT := ⟨KP, false, [], impl_sortPairs_v0_ps, impl_sortPairs_v0_rs, false, impl_sortPairs_v0_fn fuel⟩
theorem impl_sortPairs_v0_spec (fuel : Nat) : FnSpecT Tryz.prog 183 (impl_sortPairs_v0_tf fuel) :=
  fn_specT (T := impl_sortPairs_v0_T fuel) (c := bodyOf Tryz.f183) (fn := Tryz.f183) (TabOK.of (entCons (slices_SortFunc_impl_Pair_impl_Pair_v0_ok fuel) (entCons (slices_SortFunc_impl_Pair_impl_Pair_v1_ok fuel) entNil)) (methNil)) mixed (by kernel_rfl) (by kernel_rfl) impl_sortPairs_v0_l (by kernel_rfl) (Nat.le_of_ble_eq_true (by kernel_rfl)) (rv := impl_sortPairs_v0_rv) (by kernel_rfl) (impl_sortPairs_v0_run fuel)
theorem impl_sortPairs_v0_ok (fuel : Nat) : EntryOK Tryz.prog 183 (impl_sortPairs_v0_tf fuel).te := EntryOK.tft (impl_sortPairs_v0_spec fuel) (isFn (fn := Tryz.f183) (by kernel_rfl) (by kernel_rfl) (by kernel_rfl))
def impl_sortPairs_v1_T (fuel : Nat) : Tab := Tab.of [(195, (slices_SortFunc_impl_Pair_impl_Pair_v0_tf fuel).te), (195, (slices_SortFunc_impl_Pair_impl_Pair_v1_tf fuel).te)] []
abbrev impl_sortPairs_v1_ps : Sh := (.num .i64 (1) .nil)
abbrev impl_sortPairs_v1_rs : List Pm := []
def impl_sortPairs_v1_ann : List Norm := []
noncomputable def impl_sortPairs_v1_c : C := irOf Tryz.prog Tryz.f183 [] impl_sortPairs_v1_ann []
theorem impl_sortPairs_v1_l : lightC Tryz.prog [] Tryz.f183.ntmps impl_sortPairs_v1_ann [] 0 (bodyOf Tryz.f183) = some (impl_sortPairs_v1_c, 0) := by kernel_rfl
def impl_sortPairs_v1_rv : List (Nat × Option (Nat × Bool)) := []
def impl_sortPairs_v1_pre (fuel : Nat) (d0 : LP) : Option (LP × Unit) :=
 Option.bind (slices_SortFunc_impl_Pair_impl_Pair_v1_fn fuel (d0, (), ())) fun y_1 =>
 some ((y_1.1, ()))
def impl_sortPairs_v1_fn (fuel : Nat) (z : LP × Unit × Unit) : Option (LP × Unit) := impl_sortPairs_v1_pre fuel z.1
theorem impl_sortPairs_v1_run (fuel : Nat) (c : List (Kd.T KP)) (d : CsT []) (x : Sh.T impl_sortPairs_v1_ps) : run (impl_sortPairs_v1_T fuel) 1 fuel impl_sortPairs_v1_c ((0, firstV false 0 (svCs [] d)) :: env0 (svS impl_sortPairs_v1_ps x) 1) [.arr KP c 0] (endS impl_sortPairs_v1_rv KP false impl_sortPairs_v1_rs) = impl_sortPairs_v1_fn fuel (c, d, x) := by kernel_rfl
def impl_sortPairs_v1_tf (fuel : Nat) : TFT := ⟨KP, false, [], impl_sortPairs_v1_ps, impl_sortPairs_v1_rs, false, impl_sortPairs_v1_fn fuel⟩
theorem impl_sortPairs_v1_spec (fuel : Nat) : FnSpecT Tryz.prog 183 (impl_sortPairs_v1_tf fuel) :=
  fn_specT (T := impl_sortPairs_v1_T fuel) (c := bodyOf Tryz.f183) (fn := Tryz.f183) (TabOK.of (entCons (slices_SortFunc_impl_Pair_impl_Pair_v0_ok fuel) (entCons (slices_SortFunc_impl_Pair_impl_Pair_v1_ok fuel) entNil)) (methNil)) mixed (by kernel_rfl) (by kernel_rfl) impl_sortPairs_v1_l (by kernel_rfl) (Nat.le_of_ble_eq_true (by kernel_rfl)) (rv := impl_sortPairs_v1_rv) (by kernel_rfl) (impl_sortPairs_v1_run fuel)
theorem impl_sortPairs_v1_ok (fuel : Nat) : EntryOK Tryz.prog 183 (impl_sortPairs_v1_tf fuel).te := EntryOK.tft (impl_sortPairs_v1_spec fuel) (isFn (fn := Tryz.f183) (by kernel_rfl) (by kernel_rfl) (by kernel_rfl))
end Go.Proofs.YtdgdoeknpakmlaaGreat.Den
