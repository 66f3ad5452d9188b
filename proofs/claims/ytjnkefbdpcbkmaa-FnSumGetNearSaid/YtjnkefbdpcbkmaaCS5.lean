/- Readings of functions of the sums, as functions on plain data (5). -/
import Derived.Test.YtjnkefbdpcbkmaaCS4
namespace Go.Proofs.Ytjnkefbdpcbkmaa.Den
open Go Go.RowKit
set_option linter.unusedVariables false
set_option linter.unusedSimpArgs false

/-! ### impl_RoughNew -/
def impl_RoughNew_T (fuel : Nat) : Tab := Tab.of [] []
abbrev impl_RoughNew_ps : List Pm := []
abbrev impl_RoughNew_rs : List Pm := [{ cs := [(Kd.list (Kd.list (Kd.int IntKind.i64)), false)], ag := true }]
def impl_RoughNew_ann : List Norm := [{ live := [6, 5, 1, 0], fix := [] }]
noncomputable def impl_RoughNew_c : C := irOf Try.prog Try.f34 [3] impl_RoughNew_ann []
theorem impl_RoughNew_l : lightC Try.prog [3] Try.f34.ntmps impl_RoughNew_ann [] 0 (bodyOf Try.f34) = some (impl_RoughNew_c, 1) := by kernel_rfl
def impl_RoughNew_rv : List (Nat × Option (Nat × Bool)) := [(0, some (1, true))]
def impl_RoughNew_pre (fuel : Nat)  : Option (((List (List Int)) × Unit) × Unit) :=
 some ((([List.replicate (Int.toNat (8 : Int)) 0, List.replicate (Int.toNat (8 : Int)) 0, List.replicate (Int.toNat (8 : Int)) 0], ()), ()))
def impl_RoughNew_fn (fuel : Nat) (x : Unit) : Option (((List (List Int)) × Unit) × Unit) := impl_RoughNew_pre fuel 
theorem impl_RoughNew_run (fuel : Nat) (x : PsT impl_RoughNew_ps) : run (impl_RoughNew_T fuel) 0 (fuel + 6) impl_RoughNew_c (env0 (svPs impl_RoughNew_ps x) 0) [] (endF impl_RoughNew_rv impl_RoughNew_rs) = impl_RoughNew_fn fuel x := by kernel_rfl
def impl_RoughNew_tf (fuel : Nat) : TF := ⟨impl_RoughNew_ps, impl_RoughNew_rs, false, impl_RoughNew_fn fuel⟩
theorem impl_RoughNew_spec (fuel : Nat) : FnSpec Try.prog 34 (impl_RoughNew_tf fuel) :=
  fn_spec (T := impl_RoughNew_T fuel) (c := bodyOf Try.f34) (fn := Try.f34) (TabOK.of (entNil) (methNil)) mixed (by kernel_rfl) (by kernel_rfl) impl_RoughNew_l (by kernel_rfl) (Nat.le_of_ble_eq_true (by kernel_rfl)) (rv := impl_RoughNew_rv) (by kernel_rfl) (impl_RoughNew_run fuel)
theorem impl_RoughNew_ok (fuel : Nat) : EntryOK Try.prog 34 (impl_RoughNew_tf fuel).te := EntryOK.tf rfl (impl_RoughNew_spec fuel) (isFn (fn := Try.f34) (by kernel_rfl) (by kernel_rfl) (by kernel_rfl))

/-! ### impl_SumNew -/
def impl_SumNew_T (fuel : Nat) : Tab := Tab.of [(34, (impl_RoughNew_tf fuel).te)] []
abbrev impl_SumNew_ps : List Pm := []
abbrev impl_SumNew_rs : List Pm := [{ cs := [(Kd.list (Kd.list (Kd.int IntKind.i64)), false), (Kd.list (Kd.int IntKind.i64), true), (Kd.list (Kd.pair (Kd.int IntKind.i64) (Kd.pair (Kd.int IntKind.i64) Kd.unit)), true), (Kd.int IntKind.i64, false), (Kd.int IntKind.i64, false), (Kd.list (Kd.pair (Kd.int IntKind.i64) (Kd.pair (Kd.int IntKind.i64) Kd.unit)), true), (Kd.int IntKind.i64, false)], ag := true }]
def impl_SumNew_ann : List Norm := []
noncomputable def impl_SumNew_c : C := irOf Try.prog Try.f11 [] impl_SumNew_ann []
theorem impl_SumNew_l : lightC Try.prog [] Try.f11.ntmps impl_SumNew_ann [] 0 (bodyOf Try.f11) = some (impl_SumNew_c, 0) := by kernel_rfl
def impl_SumNew_rv : List (Nat × Option (Nat × Bool)) := [(0, some (7, true))]
def impl_SumNew_pre (fuel : Nat)  : Option (((List (List Int)) × ((List Int) × ((List (Int × (Int × Unit))) × (Int × (Int × ((List (Int × (Int × Unit))) × (Int × Unit))))))) × Unit) :=
 Option.bind (impl_RoughNew_fn fuel ()) fun y_1 =>
 some (((y_1.fst.fst, [], [], (0 : Int), (0 : Int), [], (0 : Int), ()), ()))
def impl_SumNew_fn (fuel : Nat) (x : Unit) : Option (((List (List Int)) × ((List Int) × ((List (Int × (Int × Unit))) × (Int × (Int × ((List (Int × (Int × Unit))) × (Int × Unit))))))) × Unit) := impl_SumNew_pre fuel 
theorem impl_SumNew_run (fuel : Nat) (x : PsT impl_SumNew_ps) : run (impl_SumNew_T fuel) 0 fuel impl_SumNew_c (env0 (svPs impl_SumNew_ps x) 0) [] (endF impl_SumNew_rv impl_SumNew_rs) = impl_SumNew_fn fuel x := by kernel_rfl
def impl_SumNew_tf (fuel : Nat) : TF := ⟨impl_SumNew_ps, impl_SumNew_rs, false, impl_SumNew_fn fuel⟩
theorem impl_SumNew_spec (fuel : Nat) : FnSpec Try.prog 11 (impl_SumNew_tf fuel) :=
  fn_spec (T := impl_SumNew_T fuel) (c := bodyOf Try.f11) (fn := Try.f11) (TabOK.of (entCons (impl_RoughNew_ok fuel) entNil) (methNil)) mixed (by kernel_rfl) (by kernel_rfl) impl_SumNew_l (by kernel_rfl) (Nat.le_of_ble_eq_true (by kernel_rfl)) (rv := impl_SumNew_rv) (by kernel_rfl) (impl_SumNew_run fuel)
theorem impl_SumNew_ok (fuel : Nat) : EntryOK Try.prog 11 (impl_SumNew_tf fuel).te := EntryOK.tf rfl (impl_SumNew_spec fuel) (isFn (fn := Try.f11) (by kernel_rfl) (by kernel_rfl) (by kernel_rfl))

/-! ### spec_RoughNew -/
def spec_RoughNew_T (fuel : Nat) : Tab := Tab.of [] []
abbrev spec_RoughNew_ps : List Pm := []
abbrev spec_RoughNew_rs : List Pm := [{ cs := [(Kd.list (Kd.list (Kd.int IntKind.i64)), false)], ag := true }]
def spec_RoughNew_ann : List Norm := [{ live := [2, 1, 0], fix := [] }]
noncomputable def spec_RoughNew_c : C := irOf Try.prog Try.f33 [] spec_RoughNew_ann []
theorem spec_RoughNew_l : lightC Try.prog [] Try.f33.ntmps spec_RoughNew_ann [] 0 (bodyOf Try.f33) = some (spec_RoughNew_c, 1) := by kernel_rfl
def spec_RoughNew_rv : List (Nat × Option (Nat × Bool)) := [(0, some (1, true))]
def spec_RoughNew_pre (fuel : Nat)  : Option (((List (List Int)) × Unit) × Unit) :=
 some ((([List.replicate (Int.toNat (8 : Int)) 0, List.replicate (Int.toNat (8 : Int)) 0, List.replicate (Int.toNat (8 : Int)) 0], ()), ()))
def spec_RoughNew_fn (fuel : Nat) (x : Unit) : Option (((List (List Int)) × Unit) × Unit) := spec_RoughNew_pre fuel 
theorem spec_RoughNew_run (fuel : Nat) (x : PsT spec_RoughNew_ps) : run (spec_RoughNew_T fuel) 0 (fuel + 6) spec_RoughNew_c (env0 (svPs spec_RoughNew_ps x) 0) [] (endF spec_RoughNew_rv spec_RoughNew_rs) = spec_RoughNew_fn fuel x := by kernel_rfl
def spec_RoughNew_tf (fuel : Nat) : TF := ⟨spec_RoughNew_ps, spec_RoughNew_rs, false, spec_RoughNew_fn fuel⟩
theorem spec_RoughNew_spec (fuel : Nat) : FnSpec Try.prog 33 (spec_RoughNew_tf fuel) :=
  fn_spec (T := spec_RoughNew_T fuel) (c := bodyOf Try.f33) (fn := Try.f33) (TabOK.of (entNil) (methNil)) mixed (by kernel_rfl) (by kernel_rfl) spec_RoughNew_l (by kernel_rfl) (Nat.le_of_ble_eq_true (by kernel_rfl)) (rv := spec_RoughNew_rv) (by kernel_rfl) (spec_RoughNew_run fuel)
theorem spec_RoughNew_ok (fuel : Nat) : EntryOK Try.prog 33 (spec_RoughNew_tf fuel).te := EntryOK.tf rfl (spec_RoughNew_spec fuel) (isFn (fn := Try.f33) (by kernel_rfl) (by kernel_rfl) (by kernel_rfl))

/-! ### spec_l6Rd_pick -/
def spec_l6Rd_pick_T (fuel : Nat) : Tab := Tab.of [] []
abbrev spec_l6Rd_pick_ps : List Pm := [{ cs := [(Kd.int IntKind.i64, false)], ag := false }]
abbrev spec_l6Rd_pick_rs : List Pm := [{ cs := [(Kd.int IntKind.i64, false)], ag := false }]
abbrev spec_l6Rd_pick_rf : Rf := Rf.cells [(Kd.list (Kd.int IntKind.u8), false), (Kd.int IntKind.i64, false)] 127
def spec_l6Rd_pick_ann : List Norm := []
noncomputable def spec_l6Rd_pick_c : C := irOf Try.prog Try.f64 [] spec_l6Rd_pick_ann []
theorem spec_l6Rd_pick_l : lightC Try.prog [] Try.f64.ntmps spec_l6Rd_pick_ann [] 0 (bodyOf Try.f64) = some (spec_l6Rd_pick_c, 0) := by kernel_rfl
def spec_l6Rd_pick_rv : List (Nat × Option (Nat × Bool)) := [(4, none)]
def spec_l6Rd_pick_pre (fuel : Nat) (d0 : List Int) (d1 : Int) (x0 : Int) : Option (((List Int) × (Int × Unit)) × ((Int × Unit) × Unit)) :=
 cond (decide (x0 < (1 : Int)))
 (some (((d0, w64 (d1 + (1 : Int)), ()), ((0 : Int), ()), ())))
 (cond ((zz (List.length d0)) == (0 : Int))
  (some (((d0, w64 (d1 + (1 : Int)), ()), ((0 : Int), ()), ())))
  (cond (decide (w64 (w64 (d1 + (1 : Int)) - (1 : Int)) < (zz (List.length d0))))
   (tst (decide (0 ≤ w64 (w64 (d1 + (1 : Int)) - (1 : Int)))) <|
    tst (decide (w64 (w64 (d1 + (1 : Int)) - (1 : Int)) < (zz (List.length d0)))) <|
    tst (!decide (x0 = 0)) <|
    some (((d0, w64 (d1 + (1 : Int)), ()), (Int.tmod (w64 (List.getD d0 (Int.toNat (w64 (w64 (d1 + (1 : Int)) - (1 : Int)))) 0)) x0, ()), ())))
   (tst (!decide ((zz (List.length d0)) = 0)) <|
    tst (decide (0 ≤ Int.tmod (w64 (w64 (d1 + (1 : Int)) - (1 : Int))) (zz (List.length d0)))) <|
    tst (decide (Int.tmod (w64 (w64 (d1 + (1 : Int)) - (1 : Int))) (zz (List.length d0)) < (zz (List.length d0)))) <|
    tst (!decide ((zz (List.length d0)) = 0)) <|
    tst (decide (0 ≤ Int.tmod (w64 (w64 (w64 (w64 (d1 + (1 : Int)) - (1 : Int)) * (7 : Int)) + (3 : Int))) (zz (List.length d0)))) <|
    tst (decide (Int.tmod (w64 (w64 (w64 (w64 (d1 + (1 : Int)) - (1 : Int)) * (7 : Int)) + (3 : Int))) (zz (List.length d0)) < (zz (List.length d0)))) <|
    tst (!decide ((zz (List.length d0)) = 0)) <|
    tst (!decide (x0 = 0)) <|
    some (((d0, w64 (d1 + (1 : Int)), ()), (Int.tmod (w64 (zz (BitVec.toNat (BitVec.ofInt (IntKind.bits IntKind.i64) (w64 (w64 (w64 (w64 (w64 (List.getD d0 (Int.toNat (Int.tmod (w64 (w64 (d1 + (1 : Int)) - (1 : Int))) (zz (List.length d0)))) 0) * (131 : Int)) + w64 (w64 (List.getD d0 (Int.toNat (Int.tmod (w64 (w64 (w64 (w64 (d1 + (1 : Int)) - (1 : Int)) * (7 : Int)) + (3 : Int))) (zz (List.length d0)))) 0) * (1117 : Int))) + w64 (w64 (w64 (d1 + (1 : Int)) - (1 : Int)) * (29 : Int))) + w64 (w64 (Int.tdiv (w64 (w64 (d1 + (1 : Int)) - (1 : Int))) (zz (List.length d0))) * (53 : Int)))) ^^^ BitVec.ofInt (IntKind.bits IntKind.i64) (w64 (Int.tdiv (w64 (w64 (w64 (w64 (w64 (List.getD d0 (Int.toNat (Int.tmod (w64 (w64 (d1 + (1 : Int)) - (1 : Int))) (zz (List.length d0)))) 0) * (131 : Int)) + w64 (w64 (List.getD d0 (Int.toNat (Int.tmod (w64 (w64 (w64 (w64 (d1 + (1 : Int)) - (1 : Int)) * (7 : Int)) + (3 : Int))) (zz (List.length d0)))) 0) * (1117 : Int))) + w64 (w64 (w64 (d1 + (1 : Int)) - (1 : Int)) * (29 : Int))) + w64 (w64 (Int.tdiv (w64 (w64 (d1 + (1 : Int)) - (1 : Int))) (zz (List.length d0))) * (53 : Int)))) (64 : Int))))))) x0, ()), ())))))
def spec_l6Rd_pick_fn (fuel : Nat) (z : ((List Int) × (Int × Unit)) × ((Int × Unit) × Unit)) : Option (((List Int) × (Int × Unit)) × ((Int × Unit) × Unit)) := spec_l6Rd_pick_pre fuel z.1.1 z.1.2.1 z.2.1.1
theorem spec_l6Rd_pick_run (fuel : Nat) (c : Rf.T spec_l6Rd_pick_rf) (x : PsT spec_l6Rd_pick_ps) : run (spec_l6Rd_pick_T fuel) 1 fuel spec_l6Rd_pick_c ((0, .ptr 0 0) :: env0 (svPs spec_l6Rd_pick_ps x) 1) [spec_l6Rd_pick_rf.blk c] (endU spec_l6Rd_pick_rv spec_l6Rd_pick_rf spec_l6Rd_pick_rs) = spec_l6Rd_pick_fn fuel (c, x) := by kernel_rfl
def spec_l6Rd_pick_tf (fuel : Nat) : TFU := ⟨spec_l6Rd_pick_rf, spec_l6Rd_pick_ps, spec_l6Rd_pick_rs, spec_l6Rd_pick_fn fuel⟩
theorem spec_l6Rd_pick_spec (fuel : Nat) : FnSpecU Try.prog 64 (spec_l6Rd_pick_tf fuel) :=
  fn_specU (T := spec_l6Rd_pick_T fuel) (c := bodyOf Try.f64) (fn := Try.f64) (TabOK.of (entNil) (methNil)) mixed (by kernel_rfl) (by kernel_rfl) spec_l6Rd_pick_l (by kernel_rfl) (Nat.le_of_ble_eq_true (by kernel_rfl)) (rv := spec_l6Rd_pick_rv) (by kernel_rfl) (spec_l6Rd_pick_run fuel)
theorem spec_l6Rd_pick_ok (fuel : Nat) : EntryOK Try.prog 64 (spec_l6Rd_pick_tf fuel).te := EntryOK.tfu (spec_l6Rd_pick_spec fuel) (isFn (fn := Try.f64) (by kernel_rfl) (by kernel_rfl) (by kernel_rfl))

/-! ### spec_SumNew -/
def spec_SumNew_T (fuel : Nat) : Tab := Tab.of [(33, (spec_RoughNew_tf fuel).te)] []
abbrev spec_SumNew_ps : List Pm := []
abbrev spec_SumNew_rs : List Pm := [{ cs := [(Kd.list (Kd.list (Kd.int IntKind.i64)), false), (Kd.list (Kd.int IntKind.i64), true), (Kd.list (Kd.pair (Kd.int IntKind.i64) (Kd.pair (Kd.int IntKind.i64) Kd.unit)), true), (Kd.int IntKind.i64, false), (Kd.int IntKind.i64, false), (Kd.list (Kd.pair (Kd.int IntKind.i64) (Kd.pair (Kd.int IntKind.i64) Kd.unit)), true), (Kd.int IntKind.i64, false)], ag := true }]
def spec_SumNew_ann : List Norm := []
noncomputable def spec_SumNew_c : C := irOf Try.prog Try.f10 [] spec_SumNew_ann []
theorem spec_SumNew_l : lightC Try.prog [] Try.f10.ntmps spec_SumNew_ann [] 0 (bodyOf Try.f10) = some (spec_SumNew_c, 0) := by kernel_rfl
def spec_SumNew_rv : List (Nat × Option (Nat × Bool)) := [(0, some (7, true))]
def spec_SumNew_pre (fuel : Nat)  : Option (((List (List Int)) × ((List Int) × ((List (Int × (Int × Unit))) × (Int × (Int × ((List (Int × (Int × Unit))) × (Int × Unit))))))) × Unit) :=
 Option.bind (spec_RoughNew_fn fuel ()) fun y_1 =>
 some (((y_1.fst.fst, [], [], (0 : Int), (0 : Int), [], (0 : Int), ()), ()))
def spec_SumNew_fn (fuel : Nat) (x : Unit) : Option (((List (List Int)) × ((List Int) × ((List (Int × (Int × Unit))) × (Int × (Int × ((List (Int × (Int × Unit))) × (Int × Unit))))))) × Unit) := spec_SumNew_pre fuel 
theorem spec_SumNew_run (fuel : Nat) (x : PsT spec_SumNew_ps) : run (spec_SumNew_T fuel) 0 fuel spec_SumNew_c (env0 (svPs spec_SumNew_ps x) 0) [] (endF spec_SumNew_rv spec_SumNew_rs) = spec_SumNew_fn fuel x := by kernel_rfl
def spec_SumNew_tf (fuel : Nat) : TF := ⟨spec_SumNew_ps, spec_SumNew_rs, false, spec_SumNew_fn fuel⟩
theorem spec_SumNew_spec (fuel : Nat) : FnSpec Try.prog 10 (spec_SumNew_tf fuel) :=
  fn_spec (T := spec_SumNew_T fuel) (c := bodyOf Try.f10) (fn := Try.f10) (TabOK.of (entCons (spec_RoughNew_ok fuel) entNil) (methNil)) mixed (by kernel_rfl) (by kernel_rfl) spec_SumNew_l (by kernel_rfl) (Nat.le_of_ble_eq_true (by kernel_rfl)) (rv := spec_SumNew_rv) (by kernel_rfl) (spec_SumNew_run fuel)
theorem spec_SumNew_ok (fuel : Nat) : EntryOK Try.prog 10 (spec_SumNew_tf fuel).te := EntryOK.tf rfl (spec_SumNew_spec fuel) (isFn (fn := Try.f10) (by kernel_rfl) (by kernel_rfl) (by kernel_rfl))

/-! ### spec_l4Nums -/
def spec_l4Nums_T (fuel : Nat) : Tab := Tab.of [] []
abbrev spec_l4Nums_ps : List Pm := [{ cs := [(Kd.list (Kd.pair (Kd.int IntKind.i64) (Kd.pair (Kd.int IntKind.i64) Kd.unit)), false)], ag := false }]
abbrev spec_l4Nums_rs : List Pm := [{ cs := [(Kd.list (Kd.int IntKind.i64), true)], ag := false }]
def spec_l4Nums_ann : List Norm := [{ live := [4, 0, 3], fix := [] }]
noncomputable def spec_l4Nums_c : C := irOf Try.prog Try.f115 [] spec_l4Nums_ann []
theorem spec_l4Nums_l : lightC Try.prog [] Try.f115.ntmps spec_l4Nums_ann [] 0 (bodyOf Try.f115) = some (spec_l4Nums_c, 1) := by kernel_rfl
def spec_l4Nums_rv : List (Nat × Option (Nat × Bool)) := [(2, none)]
abbrev spec_l4Nums_V0 := (Int) × (List (Int × Int × Unit)) × (List Int)
def spec_l4Nums_enc0 (v : spec_l4Nums_V0) : Env × Heap := ([(4, SV.int IntKind.i64 v.1), (0, SV.es (Kd.pair (Kd.int IntKind.i64) (Kd.pair (Kd.int IntKind.i64) Kd.unit)) v.2.1), (3, SV.own 0)], [Blk.arr (Kd.int IntKind.i64) v.2.2 0])
def spec_l4Nums_step0 (fuel : Nat) (g0 : spec_l4Nums_V0 → Option (((List Int) × Unit) × Unit)) (v : spec_l4Nums_V0) : Option (((List Int) × Unit) × Unit) :=
 cond (decide (v.1 < (zz (List.length v.2.1))))
 (tst (decide (0 ≤ v.1)) <|
  tst (decide (v.1 < (zz (List.length v.2.1)))) <|
  tst (decide (0 ≤ v.1)) <|
  tst (decide (v.1 < (zz (List.length v.2.1)))) <|
  tst (decide (0 ≤ (List.getD v.2.1 (Int.toNat v.1) (0, (0, ()))).fst)) <|
  tst (decide ((List.getD v.2.1 (Int.toNat v.1) (0, (0, ()))).fst < (zz (List.length v.2.2)))) <|
  tst (decide (Int.toNat (List.getD v.2.1 (Int.toNat v.1) (0, (0, ()))).fst < List.length v.2.2)) <|
  tst (decide (0 ≤ v.1)) <|
  tst (decide (v.1 < (zz (List.length v.2.1)))) <|
  tst (decide (0 ≤ (List.getD v.2.1 (Int.toNat v.1) (0, (0, ()))).fst)) <|
  tst (decide ((List.getD v.2.1 (Int.toNat v.1) (0, (0, ()))).fst < (zz (List.length v.2.2)))) <|
  tst (decide (Int.toNat (List.getD v.2.1 (Int.toNat v.1) (0, (0, ()))).fst < List.length v.2.2)) <|
  g0 (w64 (v.1 + (1 : Int)), v.2.1, List.set v.2.2 (Int.toNat (List.getD v.2.1 (Int.toNat v.1) (0, (0, ()))).fst) (w64 (List.getD v.2.2 (Int.toNat (List.getD v.2.1 (Int.toNat v.1) (0, (0, ()))).fst) 0 + (List.getD v.2.1 (Int.toNat v.1) (0, (0, ()))).snd.fst))))
 (some (((v.2.2, ()), ())))
def spec_l4Nums_st0 (fuel : Nat) (g0 : spec_l4Nums_V0 → Option (((List Int) × Unit) × Unit)) : spec_l4Nums_V0 → Option (((List Int) × Unit) × Unit) := spec_l4Nums_step0 fuel g0
theorem spec_l4Nums_lp0 (fuel : Nat) (G) : spec_l4Nums_c.lp (spec_l4Nums_T fuel) 0 fuel G (endF spec_l4Nums_rv spec_l4Nums_rs) 0 spec_l4Nums_enc0 = iter (spec_l4Nums_st0 fuel) fuel := C.lp_iter fun g v => by kernel_rfl
def spec_l4Nums_pre (fuel : Nat) (X0 : spec_l4Nums_V0 → Option (((List Int) × Unit) × Unit)) (x0 : List (Int × Int × Unit)) : Option (((List Int) × Unit) × Unit) :=
 X0 ((0 : Int), x0, List.replicate (Int.toNat (128 : Int)) 0)
def spec_l4Nums_fn (fuel : Nat) (x : (((List (Int × (Int × Unit))) × Unit) × Unit)) : Option (((List Int) × Unit) × Unit) := spec_l4Nums_pre fuel (iter (spec_l4Nums_st0 fuel) fuel) x.1.1
theorem spec_l4Nums_run (fuel : Nat) (x : PsT spec_l4Nums_ps) : run (spec_l4Nums_T fuel) 0 fuel spec_l4Nums_c (env0 (svPs spec_l4Nums_ps x) 0) [] (endF spec_l4Nums_rv spec_l4Nums_rs) = spec_l4Nums_fn fuel x :=
  (show run (spec_l4Nums_T fuel) 0 fuel spec_l4Nums_c (env0 (svPs spec_l4Nums_ps x) 0) [] (endF spec_l4Nums_rv spec_l4Nums_rs) = spec_l4Nums_pre fuel (spec_l4Nums_c.lp (spec_l4Nums_T fuel) 0 fuel (fun _ _ _ => none) (endF spec_l4Nums_rv spec_l4Nums_rs) 0 spec_l4Nums_enc0) x.1.1 by kernel_rfl).trans (by rw [spec_l4Nums_lp0]; rfl)
def spec_l4Nums_tf (fuel : Nat) : TF := ⟨spec_l4Nums_ps, spec_l4Nums_rs, true, spec_l4Nums_fn fuel⟩
theorem spec_l4Nums_spec (fuel : Nat) : FnSpec Try.prog 115 (spec_l4Nums_tf fuel) :=
  fn_spec (T := spec_l4Nums_T fuel) (c := bodyOf Try.f115) (fn := Try.f115) (TabOK.of (entNil) (methNil)) mixed (by kernel_rfl) (by kernel_rfl) spec_l4Nums_l (by kernel_rfl) (Nat.le_of_ble_eq_true (by kernel_rfl)) (rv := spec_l4Nums_rv) (by kernel_rfl) (spec_l4Nums_run fuel)
theorem spec_l4Nums_ok (fuel : Nat) : EntryOK Try.prog 115 (spec_l4Nums_tf fuel).te := EntryOK.tf rfl (spec_l4Nums_spec fuel) (isFn (fn := Try.f115) (by kernel_rfl) (by kernel_rfl) (by kernel_rfl))

/-! ### spec_l4List -/
def spec_l4List_T (fuel : Nat) : Tab := Tab.of [] []
abbrev spec_l4List_ps : List Pm := [{ cs := [(Kd.list (Kd.int IntKind.i64), false)], ag := false }]
abbrev spec_l4List_rs : List Pm := [{ cs := [(Kd.list (Kd.pair (Kd.int IntKind.i64) (Kd.pair (Kd.int IntKind.i64) Kd.unit)), true)], ag := false }]
def spec_l4List_ann : List Norm := [{ live := [4, 0, 3], fix := [(3, none, Kd.pair (Kd.int IntKind.i64) (Kd.pair (Kd.int IntKind.i64) Kd.unit), true)] }]
noncomputable def spec_l4List_c : C := irOf Try.prog Try.f116 [] spec_l4List_ann []
theorem spec_l4List_l : lightC Try.prog [] Try.f116.ntmps spec_l4List_ann [] 0 (bodyOf Try.f116) = some (spec_l4List_c, 1) := by kernel_rfl
def spec_l4List_rv : List (Nat × Option (Nat × Bool)) := [(2, none)]
abbrev spec_l4List_V0 := (Int) × (List Int) × (List (Int × Int × Unit))
def spec_l4List_enc0 (v : spec_l4List_V0) : Env × Heap := ([(4, SV.int IntKind.i64 v.1), (0, SV.es (Kd.int IntKind.i64) v.2.1), (3, SV.own 0)], [Blk.arr (Kd.pair (Kd.int IntKind.i64) (Kd.pair (Kd.int IntKind.i64) Kd.unit)) v.2.2 0])
def spec_l4List_step0 (fuel : Nat) (g0 : spec_l4List_V0 → Option (((List (Int × (Int × Unit))) × Unit) × Unit)) (v : spec_l4List_V0) : Option (((List (Int × (Int × Unit))) × Unit) × Unit) :=
 cond (decide (v.1 < (zz (List.length v.2.1))))
 (tst (decide (0 ≤ v.1)) <|
  tst (decide (v.1 < (zz (List.length v.2.1)))) <|
  cond (decide (List.getD v.2.1 (Int.toNat v.1) 0 > (0 : Int)))
  (tst (decide (0 ≤ v.1)) <|
   tst (decide (v.1 < (zz (List.length v.2.1)))) <|
   tst (decide (List.length v.2.2 + 1 < LIM)) <|
   g0 (w64 (v.1 + (1 : Int)), v.2.1, v.2.2 ++ [(v.1, List.getD v.2.1 (Int.toNat v.1) 0, ())]))
  (g0 (w64 (v.1 + (1 : Int)), v.2.1, v.2.2)))
 (some (((v.2.2, ()), ())))
def spec_l4List_st0 (fuel : Nat) (g0 : spec_l4List_V0 → Option (((List (Int × (Int × Unit))) × Unit) × Unit)) : spec_l4List_V0 → Option (((List (Int × (Int × Unit))) × Unit) × Unit) := spec_l4List_step0 fuel g0
theorem spec_l4List_lp0 (fuel : Nat) (G) : spec_l4List_c.lp (spec_l4List_T fuel) 0 fuel G (endF spec_l4List_rv spec_l4List_rs) 0 spec_l4List_enc0 = iter (spec_l4List_st0 fuel) fuel := C.lp_iter fun g v => by kernel_rfl
def spec_l4List_pre (fuel : Nat) (X0 : spec_l4List_V0 → Option (((List (Int × (Int × Unit))) × Unit) × Unit)) (x0 : List Int) : Option (((List (Int × (Int × Unit))) × Unit) × Unit) :=
 X0 ((1 : Int), x0, [])
def spec_l4List_fn (fuel : Nat) (x : (((List Int) × Unit) × Unit)) : Option (((List (Int × (Int × Unit))) × Unit) × Unit) := spec_l4List_pre fuel (iter (spec_l4List_st0 fuel) fuel) x.1.1
theorem spec_l4List_run (fuel : Nat) (x : PsT spec_l4List_ps) : run (spec_l4List_T fuel) 0 fuel spec_l4List_c (env0 (svPs spec_l4List_ps x) 0) [] (endF spec_l4List_rv spec_l4List_rs) = spec_l4List_fn fuel x :=
  (show run (spec_l4List_T fuel) 0 fuel spec_l4List_c (env0 (svPs spec_l4List_ps x) 0) [] (endF spec_l4List_rv spec_l4List_rs) = spec_l4List_pre fuel (spec_l4List_c.lp (spec_l4List_T fuel) 0 fuel (fun _ _ _ => none) (endF spec_l4List_rv spec_l4List_rs) 0 spec_l4List_enc0) x.1.1 by kernel_rfl).trans (by rw [spec_l4List_lp0]; rfl)
def spec_l4List_tf (fuel : Nat) : TF := ⟨spec_l4List_ps, spec_l4List_rs, true, spec_l4List_fn fuel⟩
theorem spec_l4List_spec (fuel : Nat) : FnSpec Try.prog 116 (spec_l4List_tf fuel) :=
  fn_spec (T := spec_l4List_T fuel) (c := bodyOf Try.f116) (fn := Try.f116) (TabOK.of (entNil) (methNil)) mixed (by kernel_rfl) (by kernel_rfl) spec_l4List_l (by kernel_rfl) (Nat.le_of_ble_eq_true (by kernel_rfl)) (rv := spec_l4List_rv) (by kernel_rfl) (spec_l4List_run fuel)
theorem spec_l4List_ok (fuel : Nat) : EntryOK Try.prog 116 (spec_l4List_tf fuel).te := EntryOK.tf rfl (spec_l4List_spec fuel) (isFn (fn := Try.f116) (by kernel_rfl) (by kernel_rfl) (by kernel_rfl))

/-! ### spec_l4Squeeze -/
def spec_l4Squeeze_T (fuel : Nat) : Tab := Tab.of [] []
abbrev spec_l4Squeeze_ps : List Pm := [{ cs := [(Kd.int IntKind.i64, false)], ag := false }]
abbrev spec_l4Squeeze_rs : List Pm := []
def spec_l4Squeeze_ann : List Norm := [{ live := [5, 0, 1], fix := [] }]
noncomputable def spec_l4Squeeze_c : C := irOf Try.prog Try.f117 [] spec_l4Squeeze_ann []
theorem spec_l4Squeeze_l : lightC Try.prog [] Try.f117.ntmps spec_l4Squeeze_ann [] 0 (bodyOf Try.f117) = some (spec_l4Squeeze_c, 1) := by kernel_rfl
def spec_l4Squeeze_rv : List (Nat × Option (Nat × Bool)) := [(4, none)]
abbrev spec_l4Squeeze_V0 := (Int) × (Int) × (List Int)
def spec_l4Squeeze_enc0 (v : spec_l4Squeeze_V0) : Env × Heap := ([(5, SV.int IntKind.i64 v.1), (0, SV.own 0), (1, SV.int IntKind.i64 v.2.1)], [Blk.arr (Kd.int IntKind.i64) v.2.2 0])
def spec_l4Squeeze_step0 (fuel : Nat) (g0 : spec_l4Squeeze_V0 → Option ((List Int) × Unit)) (v : spec_l4Squeeze_V0) : Option ((List Int) × Unit) :=
 cond (decide (v.1 ≥ (2 : Int)))
 (tst (decide (0 ≤ v.1)) <|
  tst (decide (v.1 < (zz (List.length v.2.2)))) <|
  tst (decide (Int.toNat v.1 < List.length v.2.2)) <|
  tst (decide (0 ≤ w64 (v.1 + (1 : Int)))) <|
  tst (decide (w64 (v.1 + (1 : Int)) < (zz (List.length v.2.2)))) <|
  tst (decide (Int.toNat (w64 (v.1 + (1 : Int))) < List.length v.2.2)) <|
  cond (decide (w64 (List.getD v.2.2 (Int.toNat v.1) 0 + List.getD v.2.2 (Int.toNat (w64 (v.1 + (1 : Int)))) 0) > (0 : Int)))
  (tst (decide (0 ≤ w64 (Int.tdiv v.1 (2 : Int)))) <|
   tst (decide (w64 (Int.tdiv v.1 (2 : Int)) < (zz (List.length v.2.2)))) <|
   tst (decide (Int.toNat (w64 (Int.tdiv v.1 (2 : Int))) < List.length v.2.2)) <|
   cond (decide (w64 (w64 (List.getD v.2.2 (Int.toNat v.1) 0 + List.getD v.2.2 (Int.toNat (w64 (v.1 + (1 : Int)))) 0) + List.getD v.2.2 (Int.toNat (w64 (Int.tdiv v.1 (2 : Int)))) 0) ≤ w64 (Int.tdiv v.2.1 (8 : Int))))
   (tst (decide (0 ≤ w64 (Int.tdiv v.1 (2 : Int)))) <|
    tst (decide (w64 (Int.tdiv v.1 (2 : Int)) < (zz (List.length v.2.2)))) <|
    tst (decide (Int.toNat (w64 (Int.tdiv v.1 (2 : Int))) < List.length v.2.2)) <|
    tst (decide (0 ≤ w64 (Int.tdiv v.1 (2 : Int)))) <|
    tst (decide (w64 (Int.tdiv v.1 (2 : Int)) < (zz (List.length v.2.2)))) <|
    tst (decide (Int.toNat (w64 (Int.tdiv v.1 (2 : Int))) < List.length v.2.2)) <|
    tst (decide (0 ≤ v.1)) <|
    tst (decide (v.1 < (zz (List.length (List.set v.2.2 (Int.toNat (w64 (Int.tdiv v.1 (2 : Int)))) (w64 (List.getD v.2.2 (Int.toNat (w64 (Int.tdiv v.1 (2 : Int)))) 0 + w64 (List.getD v.2.2 (Int.toNat v.1) 0 + List.getD v.2.2 (Int.toNat (w64 (v.1 + (1 : Int)))) 0)))))))) <|
    tst (decide (Int.toNat v.1 < List.length (List.set v.2.2 (Int.toNat (w64 (Int.tdiv v.1 (2 : Int)))) (w64 (List.getD v.2.2 (Int.toNat (w64 (Int.tdiv v.1 (2 : Int)))) 0 + w64 (List.getD v.2.2 (Int.toNat v.1) 0 + List.getD v.2.2 (Int.toNat (w64 (v.1 + (1 : Int)))) 0)))))) <|
    tst (decide (0 ≤ w64 (v.1 + (1 : Int)))) <|
    tst (decide (w64 (v.1 + (1 : Int)) < (zz (List.length (List.set (List.set v.2.2 (Int.toNat (w64 (Int.tdiv v.1 (2 : Int)))) (w64 (List.getD v.2.2 (Int.toNat (w64 (Int.tdiv v.1 (2 : Int)))) 0 + w64 (List.getD v.2.2 (Int.toNat v.1) 0 + List.getD v.2.2 (Int.toNat (w64 (v.1 + (1 : Int)))) 0)))) (Int.toNat v.1) (0 : Int)))))) <|
    tst (decide (Int.toNat (w64 (v.1 + (1 : Int))) < List.length (List.set (List.set v.2.2 (Int.toNat (w64 (Int.tdiv v.1 (2 : Int)))) (w64 (List.getD v.2.2 (Int.toNat (w64 (Int.tdiv v.1 (2 : Int)))) 0 + w64 (List.getD v.2.2 (Int.toNat v.1) 0 + List.getD v.2.2 (Int.toNat (w64 (v.1 + (1 : Int)))) 0)))) (Int.toNat v.1) (0 : Int)))) <|
    g0 (w64 (v.1 - (2 : Int)), v.2.1, List.set (List.set (List.set v.2.2 (Int.toNat (w64 (Int.tdiv v.1 (2 : Int)))) (w64 (List.getD v.2.2 (Int.toNat (w64 (Int.tdiv v.1 (2 : Int)))) 0 + w64 (List.getD v.2.2 (Int.toNat v.1) 0 + List.getD v.2.2 (Int.toNat (w64 (v.1 + (1 : Int)))) 0)))) (Int.toNat v.1) (0 : Int)) (Int.toNat (w64 (v.1 + (1 : Int)))) (0 : Int)))
   (g0 (w64 (v.1 - (2 : Int)), v.2.1, v.2.2)))
  (g0 (w64 (v.1 - (2 : Int)), v.2.1, v.2.2)))
 (some ((v.2.2, ())))
def spec_l4Squeeze_st0 (fuel : Nat) (g0 : spec_l4Squeeze_V0 → Option ((List Int) × Unit)) : spec_l4Squeeze_V0 → Option ((List Int) × Unit) := spec_l4Squeeze_step0 fuel g0
theorem spec_l4Squeeze_lp0 (fuel : Nat) (G) : spec_l4Squeeze_c.lp (spec_l4Squeeze_T fuel) 1 fuel G (endS spec_l4Squeeze_rv (Kd.int IntKind.i64) true spec_l4Squeeze_rs) 0 spec_l4Squeeze_enc0 = iter (spec_l4Squeeze_st0 fuel) fuel := C.lp_iter fun g v => by kernel_rfl
def spec_l4Squeeze_pre (fuel : Nat) (X0 : spec_l4Squeeze_V0 → Option ((List Int) × Unit)) (d0 : List Int) (x0 : Int) : Option ((List Int) × Unit) :=
 X0 (w64 ((zz (List.length d0)) - (2 : Int)), x0, d0)
def spec_l4Squeeze_fn (fuel : Nat) (z : (List Int) × Unit × ((Int × Unit) × Unit)) : Option ((List Int) × Unit) := spec_l4Squeeze_pre fuel (iter (spec_l4Squeeze_st0 fuel) fuel) z.1 z.2.2.1.1
theorem spec_l4Squeeze_run (fuel : Nat) (c : List (Kd.T (Kd.int IntKind.i64))) (d : CsT []) (x : PsT spec_l4Squeeze_ps) : run (spec_l4Squeeze_T fuel) 1 fuel spec_l4Squeeze_c ((0, firstV false 0 (svCs [] d)) :: env0 (svPs spec_l4Squeeze_ps x) 1) [.arr (Kd.int IntKind.i64) c 0] (endS spec_l4Squeeze_rv (Kd.int IntKind.i64) true spec_l4Squeeze_rs) = spec_l4Squeeze_fn fuel (c, d, x) :=
  (show run (spec_l4Squeeze_T fuel) 1 fuel spec_l4Squeeze_c ((0, firstV false 0 (svCs [] d)) :: env0 (svPs spec_l4Squeeze_ps x) 1) [.arr (Kd.int IntKind.i64) c 0] (endS spec_l4Squeeze_rv (Kd.int IntKind.i64) true spec_l4Squeeze_rs) = spec_l4Squeeze_pre fuel (spec_l4Squeeze_c.lp (spec_l4Squeeze_T fuel) 1 fuel (fun _ _ _ => none) (endS spec_l4Squeeze_rv (Kd.int IntKind.i64) true spec_l4Squeeze_rs) 0 spec_l4Squeeze_enc0) c x.1.1 by kernel_rfl).trans (by rw [spec_l4Squeeze_lp0]; rfl)
def spec_l4Squeeze_tf (fuel : Nat) : TFS := ⟨(Kd.int IntKind.i64), false, [], spec_l4Squeeze_ps, spec_l4Squeeze_rs, true, spec_l4Squeeze_fn fuel⟩
theorem spec_l4Squeeze_spec (fuel : Nat) : FnSpecS Try.prog 117 (spec_l4Squeeze_tf fuel) :=
  fn_specS (T := spec_l4Squeeze_T fuel) (c := bodyOf Try.f117) (fn := Try.f117) (TabOK.of (entNil) (methNil)) mixed (by kernel_rfl) (by kernel_rfl) spec_l4Squeeze_l (by kernel_rfl) (Nat.le_of_ble_eq_true (by kernel_rfl)) (rv := spec_l4Squeeze_rv) (by kernel_rfl) (spec_l4Squeeze_run fuel)
theorem spec_l4Squeeze_ok (fuel : Nat) : EntryOK Try.prog 117 (spec_l4Squeeze_tf fuel).te := EntryOK.tfs (spec_l4Squeeze_spec fuel) (isFn (fn := Try.f117) (by kernel_rfl) (by kernel_rfl) (by kernel_rfl))

/-! ### spec_RankAdd -/
def spec_RankAdd_T (fuel : Nat) : Tab := Tab.of [(54, (spec_RankOk_tf fuel).te), (67, (spec_l6In_tf fuel).te), (115, (spec_l4Nums_tf fuel).te), (116, (spec_l4List_tf fuel).te), (117, (spec_l4Squeeze_tf fuel).te)] []
abbrev spec_RankAdd_ps : List Pm := [{ cs := [(Kd.list (Kd.pair (Kd.int IntKind.i64) (Kd.pair (Kd.int IntKind.i64) Kd.unit)), false), (Kd.int IntKind.i64, false)], ag := true }, { cs := [(Kd.int IntKind.i64, false)], ag := false }]
abbrev spec_RankAdd_rs : List Pm := [{ cs := [(Kd.list (Kd.pair (Kd.int IntKind.i64) (Kd.pair (Kd.int IntKind.i64) Kd.unit)), true), (Kd.int IntKind.i64, false)], ag := true }, { cs := [(Kd.bool, false)], ag := false }]
def spec_RankAdd_ann : List Norm := []
noncomputable def spec_RankAdd_c : C := irOf Try.prog Try.f100 [41] spec_RankAdd_ann []
theorem spec_RankAdd_l : lightC Try.prog [41] Try.f100.ntmps spec_RankAdd_ann [] 0 (bodyOf Try.f100) = some (spec_RankAdd_c, 0) := by kernel_rfl
def spec_RankAdd_rv : List (Nat × Option (Nat × Bool)) := [(4, some (2, true)), (5, none)]
def spec_RankAdd_pre (fuel : Nat) (x0 : List (Int × Int × Unit)) (x1 : Int) (x2 : Int) : Option (((List (Int × (Int × Unit))) × (Int × Unit)) × ((Bool × Unit) × Unit)) :=
 Option.bind (spec_RankOk_fn fuel ((x0, x1, ()), ())) fun y_1 =>
 cond (!y_1.fst.fst)
  (some ((([], (0 : Int), ()), (false, ()), ())))
  (Option.bind (spec_l6In_fn fuel ((x2, ()), ((0 : Int), ()), ((63 : Int), ()), ())) fun y_3 =>
   cond (!y_3.fst.fst)
    (some ((([], (0 : Int), ()), (false, ()), ())))
    (cond (decide (x1 ≥ (2000 : Int)))
     (some ((([], (0 : Int), ()), (false, ()), ())))
     (Option.bind (spec_l4Nums_fn fuel ((x0, ()), ())) fun y_6 =>
      tst (decide (0 ≤ w64 ((64 : Int) + x2))) <|
       tst (decide (w64 ((64 : Int) + x2) < (zz (List.length y_6.fst.fst)))) <|
       tst (decide (Int.toNat (w64 ((64 : Int) + x2)) < List.length y_6.fst.fst)) <|
       tst (decide (0 ≤ w64 ((64 : Int) + x2))) <|
       tst (decide (w64 ((64 : Int) + x2) < (zz (List.length y_6.fst.fst)))) <|
       tst (decide (Int.toNat (w64 ((64 : Int) + x2)) < List.length y_6.fst.fst)) <|
       Option.bind (spec_l4Squeeze_fn fuel (List.set y_6.fst.fst (Int.toNat (w64 ((64 : Int) + x2))) (w64 (List.getD y_6.fst.fst (Int.toNat (w64 ((64 : Int) + x2))) 0 + (1 : Int))), (), (w64 (x1 + (1 : Int)), ()), ())) fun y_7 =>
       Option.bind (spec_l4List_fn fuel ((y_7.fst, ()), ())) fun y_8 =>
        some (((y_8.fst.fst, w64 (x1 + (1 : Int)), ()), (true, ()), ())))))
def spec_RankAdd_fn (fuel : Nat) (x : (((List (Int × (Int × Unit))) × (Int × Unit)) × ((Int × Unit) × Unit))) : Option (((List (Int × (Int × Unit))) × (Int × Unit)) × ((Bool × Unit) × Unit)) := spec_RankAdd_pre fuel x.1.1 x.1.2.1 x.2.1.1
theorem spec_RankAdd_run (fuel : Nat) (x : PsT spec_RankAdd_ps) : run (spec_RankAdd_T fuel) 0 fuel spec_RankAdd_c (env0 (svPs spec_RankAdd_ps x) 0) [] (endF spec_RankAdd_rv spec_RankAdd_rs) = spec_RankAdd_fn fuel x := by kernel_rfl
def spec_RankAdd_tf (fuel : Nat) : TF := ⟨spec_RankAdd_ps, spec_RankAdd_rs, true, spec_RankAdd_fn fuel⟩
theorem spec_RankAdd_spec (fuel : Nat) : FnSpec Try.prog 100 (spec_RankAdd_tf fuel) :=
  fn_spec (T := spec_RankAdd_T fuel) (c := bodyOf Try.f100) (fn := Try.f100) (TabOK.of (entCons (spec_RankOk_ok fuel) (entCons (spec_l6In_ok fuel) (entCons (spec_l4Nums_ok fuel) (entCons (spec_l4List_ok fuel) (entCons (spec_l4Squeeze_ok fuel) entNil))))) (methNil)) mixed (by kernel_rfl) (by kernel_rfl) spec_RankAdd_l (by kernel_rfl) (Nat.le_of_ble_eq_true (by kernel_rfl)) (rv := spec_RankAdd_rv) (by kernel_rfl) (spec_RankAdd_run fuel)
theorem spec_RankAdd_ok (fuel : Nat) : EntryOK Try.prog 100 (spec_RankAdd_tf fuel).te := EntryOK.tf rfl (spec_RankAdd_spec fuel) (isFn (fn := Try.f100) (by kernel_rfl) (by kernel_rfl) (by kernel_rfl))

/-! ### spec_l2Put -/
def spec_l2Put_T (fuel : Nat) : Tab := Tab.of [] []
abbrev spec_l2Put_ps : List Pm := [{ cs := [(Kd.list (Kd.int IntKind.i64), false)], ag := false }, { cs := [(Kd.int IntKind.i64, false)], ag := false }]
abbrev spec_l2Put_rs : List Pm := [{ cs := [(Kd.list (Kd.int IntKind.i64), true)], ag := false }]
def spec_l2Put_ann : List Norm := [{ live := [7, 0, 6, 1, 5], fix := [(5, none, Kd.int IntKind.i64, true)] }]
noncomputable def spec_l2Put_c : C := irOf Try.prog Try.f118 [] spec_l2Put_ann []
theorem spec_l2Put_l : lightC Try.prog [] Try.f118.ntmps spec_l2Put_ann [] 0 (bodyOf Try.f118) = some (spec_l2Put_c, 1) := by kernel_rfl
def spec_l2Put_rv : List (Nat × Option (Nat × Bool)) := [(4, none)]
abbrev spec_l2Put_V0 := (Int) × (List Int) × (Bool) × (Int) × (List Int)
def spec_l2Put_enc0 (v : spec_l2Put_V0) : Env × Heap := ([(7, SV.int IntKind.i64 v.1), (0, SV.es (Kd.int IntKind.i64) v.2.1), (6, SV.bool v.2.2.1), (1, SV.int IntKind.i64 v.2.2.2.1), (5, SV.own 0)], [Blk.arr (Kd.int IntKind.i64) v.2.2.2.2 0])
def spec_l2Put_step0 (fuel : Nat) (g0 : spec_l2Put_V0 → Option (((List Int) × Unit) × Unit)) (v : spec_l2Put_V0) : Option (((List Int) × Unit) × Unit) :=
 cond (decide (v.1 < (zz (List.length v.2.1))))
 (cond (!v.2.2.1)
  (tst (decide (0 ≤ v.1)) <|
   tst (decide (v.1 < (zz (List.length v.2.1)))) <|
   cond (decide (List.getD v.2.1 (Int.toNat v.1) 0 ≥ v.2.2.2.1))
   (tst (decide (List.length v.2.2.2.2 + 1 < LIM)) <|
    tst (decide (0 ≤ v.1)) <|
    tst (decide (v.1 < (zz (List.length v.2.1)))) <|
    cond (List.getD v.2.1 (Int.toNat v.1) 0 != v.2.2.2.1)
    (tst (decide (0 ≤ v.1)) <|
     tst (decide (v.1 < (zz (List.length v.2.1)))) <|
     tst (decide (List.length (v.2.2.2.2 ++ [v.2.2.2.1]) + 1 < LIM)) <|
     g0 (w64 (v.1 + (1 : Int)), v.2.1, true, v.2.2.2.1, v.2.2.2.2 ++ [v.2.2.2.1] ++ [List.getD v.2.1 (Int.toNat v.1) 0]))
    (g0 (w64 (v.1 + (1 : Int)), v.2.1, true, v.2.2.2.1, v.2.2.2.2 ++ [v.2.2.2.1])))
   (tst (decide (0 ≤ v.1)) <|
    tst (decide (v.1 < (zz (List.length v.2.1)))) <|
    cond (List.getD v.2.1 (Int.toNat v.1) 0 != v.2.2.2.1)
    (tst (decide (0 ≤ v.1)) <|
     tst (decide (v.1 < (zz (List.length v.2.1)))) <|
     tst (decide (List.length v.2.2.2.2 + 1 < LIM)) <|
     g0 (w64 (v.1 + (1 : Int)), v.2.1, v.2.2.1, v.2.2.2.1, v.2.2.2.2 ++ [List.getD v.2.1 (Int.toNat v.1) 0]))
    (g0 (w64 (v.1 + (1 : Int)), v.2.1, v.2.2.1, v.2.2.2.1, v.2.2.2.2))))
  (tst (decide (0 ≤ v.1)) <|
   tst (decide (v.1 < (zz (List.length v.2.1)))) <|
   cond (List.getD v.2.1 (Int.toNat v.1) 0 != v.2.2.2.1)
   (tst (decide (0 ≤ v.1)) <|
    tst (decide (v.1 < (zz (List.length v.2.1)))) <|
    tst (decide (List.length v.2.2.2.2 + 1 < LIM)) <|
    g0 (w64 (v.1 + (1 : Int)), v.2.1, v.2.2.1, v.2.2.2.1, v.2.2.2.2 ++ [List.getD v.2.1 (Int.toNat v.1) 0]))
   (g0 (w64 (v.1 + (1 : Int)), v.2.1, v.2.2.1, v.2.2.2.1, v.2.2.2.2))))
 (cond (!v.2.2.1)
  (tst (decide (List.length v.2.2.2.2 + 1 < LIM)) <|
   tst (decide (0 ≤ if (6 : Int) < (zz (List.length (v.2.2.2.2 ++ [v.2.2.2.1]))) then (6 : Int) else (zz (List.length (v.2.2.2.2 ++ [v.2.2.2.1]))))) <|
   tst (decide ((if (6 : Int) < (zz (List.length (v.2.2.2.2 ++ [v.2.2.2.1]))) then (6 : Int) else (zz (List.length (v.2.2.2.2 ++ [v.2.2.2.1])))) ≤ (zz (List.length (v.2.2.2.2 ++ [v.2.2.2.1]))))) <|
   some (((List.take (Int.toNat (if (6 : Int) < (zz (List.length (v.2.2.2.2 ++ [v.2.2.2.1]))) then (6 : Int) else (zz (List.length (v.2.2.2.2 ++ [v.2.2.2.1])))) - 0) (List.drop 0 (v.2.2.2.2 ++ [v.2.2.2.1])), ()), ())))
  (tst (decide (0 ≤ if (6 : Int) < (zz (List.length v.2.2.2.2)) then (6 : Int) else (zz (List.length v.2.2.2.2)))) <|
   tst (decide ((if (6 : Int) < (zz (List.length v.2.2.2.2)) then (6 : Int) else (zz (List.length v.2.2.2.2))) ≤ (zz (List.length v.2.2.2.2)))) <|
   some (((List.take (Int.toNat (if (6 : Int) < (zz (List.length v.2.2.2.2)) then (6 : Int) else (zz (List.length v.2.2.2.2))) - 0) (List.drop 0 v.2.2.2.2), ()), ()))))
def spec_l2Put_st0 (fuel : Nat) (g0 : spec_l2Put_V0 → Option (((List Int) × Unit) × Unit)) : spec_l2Put_V0 → Option (((List Int) × Unit) × Unit) := spec_l2Put_step0 fuel g0
theorem spec_l2Put_lp0 (fuel : Nat) (G) : spec_l2Put_c.lp (spec_l2Put_T fuel) 0 fuel G (endF spec_l2Put_rv spec_l2Put_rs) 0 spec_l2Put_enc0 = iter (spec_l2Put_st0 fuel) fuel := C.lp_iter fun g v => by kernel_rfl
def spec_l2Put_pre (fuel : Nat) (X0 : spec_l2Put_V0 → Option (((List Int) × Unit) × Unit)) (x0 : List Int) (x1 : Int) : Option (((List Int) × Unit) × Unit) :=
 X0 ((0 : Int), x0, false, x1, [])
def spec_l2Put_fn (fuel : Nat) (x : (((List Int) × Unit) × ((Int × Unit) × Unit))) : Option (((List Int) × Unit) × Unit) := spec_l2Put_pre fuel (iter (spec_l2Put_st0 fuel) fuel) x.1.1 x.2.1.1
theorem spec_l2Put_run (fuel : Nat) (x : PsT spec_l2Put_ps) : run (spec_l2Put_T fuel) 0 fuel spec_l2Put_c (env0 (svPs spec_l2Put_ps x) 0) [] (endF spec_l2Put_rv spec_l2Put_rs) = spec_l2Put_fn fuel x :=
  (show run (spec_l2Put_T fuel) 0 fuel spec_l2Put_c (env0 (svPs spec_l2Put_ps x) 0) [] (endF spec_l2Put_rv spec_l2Put_rs) = spec_l2Put_pre fuel (spec_l2Put_c.lp (spec_l2Put_T fuel) 0 fuel (fun _ _ _ => none) (endF spec_l2Put_rv spec_l2Put_rs) 0 spec_l2Put_enc0) x.1.1 x.2.1.1 by kernel_rfl).trans (by rw [spec_l2Put_lp0]; rfl)
def spec_l2Put_tf (fuel : Nat) : TF := ⟨spec_l2Put_ps, spec_l2Put_rs, true, spec_l2Put_fn fuel⟩
theorem spec_l2Put_spec (fuel : Nat) : FnSpec Try.prog 118 (spec_l2Put_tf fuel) :=
  fn_spec (T := spec_l2Put_T fuel) (c := bodyOf Try.f118) (fn := Try.f118) (TabOK.of (entNil) (methNil)) mixed (by kernel_rfl) (by kernel_rfl) spec_l2Put_l (by kernel_rfl) (Nat.le_of_ble_eq_true (by kernel_rfl)) (rv := spec_l2Put_rv) (by kernel_rfl) (spec_l2Put_run fuel)
theorem spec_l2Put_ok (fuel : Nat) : EntryOK Try.prog 118 (spec_l2Put_tf fuel).te := EntryOK.tf rfl (spec_l2Put_spec fuel) (isFn (fn := Try.f118) (by kernel_rfl) (by kernel_rfl) (by kernel_rfl))

/-! ### spec_FewAdd -/
def spec_FewAdd_T (fuel : Nat) : Tab := Tab.of [(52, (spec_FewOk_tf fuel).te), (67, (spec_l6In_tf fuel).te), (102, (spec_FewMark_tf fuel).te), (118, (spec_l2Put_tf fuel).te)] []
abbrev spec_FewAdd_ps : List Pm := [{ cs := [(Kd.list (Kd.int IntKind.i64), false)], ag := true }, { cs := [(Kd.int IntKind.i64, false)], ag := false }]
abbrev spec_FewAdd_rs : List Pm := [{ cs := [(Kd.list (Kd.int IntKind.i64), true)], ag := true }, { cs := [(Kd.bool, false)], ag := false }]
def spec_FewAdd_ann : List Norm := []
noncomputable def spec_FewAdd_c : C := irOf Try.prog Try.f101 [] spec_FewAdd_ann []
theorem spec_FewAdd_l : lightC Try.prog [] Try.f101.ntmps spec_FewAdd_ann [] 0 (bodyOf Try.f101) = some (spec_FewAdd_c, 0) := by kernel_rfl
def spec_FewAdd_rv : List (Nat × Option (Nat × Bool)) := [(4, some (1, true)), (5, none)]
def spec_FewAdd_pre (fuel : Nat) (x0 : List Int) (x1 : Int) : Option (((List Int) × Unit) × ((Bool × Unit) × Unit)) :=
 Option.bind (spec_FewOk_fn fuel ((x0, ()), ())) fun y_1 =>
 cond (!y_1.fst.fst)
  (some ((([], ()), (false, ()), ())))
  (Option.bind (spec_l6In_fn fuel ((x1, ()), ((0 : Int), ()), ((63 : Int), ()), ())) fun y_3 =>
   cond (!y_3.fst.fst)
    (some ((([], ()), (false, ()), ())))
    (Option.bind (spec_FewMark_fn fuel ((x1, ()), ())) fun y_5 =>
     Option.bind (spec_l2Put_fn fuel ((x0, ()), (y_5.fst.fst, ()), ())) fun y_6 =>
      some (((y_6.fst.fst, ()), (true, ()), ()))))
def spec_FewAdd_fn (fuel : Nat) (x : (((List Int) × Unit) × ((Int × Unit) × Unit))) : Option (((List Int) × Unit) × ((Bool × Unit) × Unit)) := spec_FewAdd_pre fuel x.1.1 x.2.1.1
theorem spec_FewAdd_run (fuel : Nat) (x : PsT spec_FewAdd_ps) : run (spec_FewAdd_T fuel) 0 fuel spec_FewAdd_c (env0 (svPs spec_FewAdd_ps x) 0) [] (endF spec_FewAdd_rv spec_FewAdd_rs) = spec_FewAdd_fn fuel x := by kernel_rfl
def spec_FewAdd_tf (fuel : Nat) : TF := ⟨spec_FewAdd_ps, spec_FewAdd_rs, true, spec_FewAdd_fn fuel⟩
theorem spec_FewAdd_spec (fuel : Nat) : FnSpec Try.prog 101 (spec_FewAdd_tf fuel) :=
  fn_spec (T := spec_FewAdd_T fuel) (c := bodyOf Try.f101) (fn := Try.f101) (TabOK.of (entCons (spec_FewOk_ok fuel) (entCons (spec_l6In_ok fuel) (entCons (spec_FewMark_ok fuel) (entCons (spec_l2Put_ok fuel) entNil)))) (methNil)) mixed (by kernel_rfl) (by kernel_rfl) spec_FewAdd_l (by kernel_rfl) (Nat.le_of_ble_eq_true (by kernel_rfl)) (rv := spec_FewAdd_rv) (by kernel_rfl) (spec_FewAdd_run fuel)
theorem spec_FewAdd_ok (fuel : Nat) : EntryOK Try.prog 101 (spec_FewAdd_tf fuel).te := EntryOK.tf rfl (spec_FewAdd_spec fuel) (isFn (fn := Try.f101) (by kernel_rfl) (by kernel_rfl) (by kernel_rfl))

/-! ### spec_l1Copy -/
def spec_l1Copy_T (fuel : Nat) : Tab := Tab.of [] []
abbrev spec_l1Copy_ps : Sh := (.agg (.cell (Kd.list (Kd.list (Kd.int IntKind.i64))) 5 .nil) .nil)
abbrev spec_l1Copy_rs : Sh := (.agg (.cell (Kd.list (Kd.list (Kd.int IntKind.i64))) 5 .nil) .nil)
def spec_l1Copy_ann : List Norm := [{ live := [4, 1, 3, 2], fix := [] }]
noncomputable def spec_l1Copy_c : C := irOf Try.prog Try.f121 [21] spec_l1Copy_ann []
theorem spec_l1Copy_l : lightC Try.prog [21] Try.f121.ntmps spec_l1Copy_ann [] 0 (bodyOf Try.f121) = some (spec_l1Copy_c, 1) := by kernel_rfl
def spec_l1Copy_rv : List (Nat × Option (Nat × Bool)) := [(2, some (1, true))]
def spec_l1Copy_pre (fuel : Nat) (x0 : List Int) (x1 : List Int) (x2 : List Int) : Option (((List (List Int)) × Unit) × Unit) :=
 tst (decide (0 + List.length x0 < LIM)) <|
 tst (decide (0 + List.length x1 < LIM)) <|
 tst (decide (0 + List.length x2 < LIM)) <|
 some ((([[] ++ x0, [] ++ x1, [] ++ x2], ()), ()))
def spec_l1Copy_fn (fuel : Nat) (x : (((List (List Int)) × Unit) × Unit)) : Option (((List (List Int)) × Unit) × Unit) := lit3 x.1.1 fun x0 x1 x2 => spec_l1Copy_pre fuel x0 x1 x2
theorem spec_l1Copy_run (fuel : Nat) (x0 : List Int) (x1 : List Int) (x2 : List Int) : run (spec_l1Copy_T fuel) 0 (fuel + 6) spec_l1Copy_c (env0 (svS spec_l1Copy_ps (([x0, x1, x2], ()), ())) 0) [] (endG spec_l1Copy_rv spec_l1Copy_rs) = spec_l1Copy_pre fuel x0 x1 x2 := by kernel_rfl
def spec_l1Copy_tf (fuel : Nat) : TG := ⟨spec_l1Copy_ps, spec_l1Copy_rs, true, spec_l1Copy_fn fuel⟩
theorem spec_l1Copy_spec (fuel : Nat) : FnSpecG Try.prog 121 (spec_l1Copy_tf fuel) :=
  fn_specG (T := spec_l1Copy_T fuel) (c := bodyOf Try.f121) (fn := Try.f121) (TabOK.of (entNil) (methNil)) mixed (by kernel_rfl) (by kernel_rfl) spec_l1Copy_l (by kernel_rfl) (Nat.le_of_ble_eq_true (by kernel_rfl)) (rv := spec_l1Copy_rv) (by kernel_rfl) (fun x y h => by
    obtain ⟨⟨l0, ⟨⟩⟩, ⟨⟩⟩ := x
    obtain ⟨x0, x1, x2, rfl, h⟩ := lit3_some (show lit3 l0 (fun x0 x1 x2 => spec_l1Copy_pre fuel x0 x1 x2) = some y from h)
    exact (spec_l1Copy_run fuel x0 x1 x2).trans h)
theorem spec_l1Copy_ok (fuel : Nat) : EntryOK Try.prog 121 (spec_l1Copy_tf fuel).te := EntryOK.tg rfl (spec_l1Copy_spec fuel) (isFn (fn := Try.f121) (by kernel_rfl) (by kernel_rfl) (by kernel_rfl))

/-! ### spec_RoughAdd -/
def spec_RoughAdd_T (fuel : Nat) : Tab := Tab.of [(51, (spec_RoughOk_tf fuel).te), (67, (spec_l6In_tf fuel).te), (91, (spec_l1Sum_tf fuel).te), (103, (spec_l1Place_tf fuel).te), (121, (spec_l1Copy_tf fuel).te)] []
abbrev spec_RoughAdd_ps : List Pm := [{ cs := [(Kd.list (Kd.list (Kd.int IntKind.i64)), false)], ag := true }, { cs := [(Kd.int IntKind.i64, false)], ag := false }, { cs := [(Kd.int IntKind.i64, false)], ag := false }]
abbrev spec_RoughAdd_rs : List Pm := [{ cs := [(Kd.list (Kd.list (Kd.int IntKind.i64)), false)], ag := true }, { cs := [(Kd.bool, false)], ag := false }]
def spec_RoughAdd_ann : List Norm := [{ live := [9, 8, 1, 2, 6], fix := [] }]
noncomputable def spec_RoughAdd_c : C := irOf Try.prog Try.f119 [] spec_RoughAdd_ann []
theorem spec_RoughAdd_l : lightC Try.prog [] Try.f119.ntmps spec_RoughAdd_ann [] 0 (bodyOf Try.f119) = some (spec_RoughAdd_c, 1) := by kernel_rfl
def spec_RoughAdd_rv : List (Nat × Option (Nat × Bool)) := [(6, some (1, true)), (7, none)]
def spec_RoughAdd_pre (fuel : Nat) (x0 : List (List Int)) (x1 : Int) (x2 : Int) : Option (((List (List Int)) × Unit) × ((Bool × Unit) × Unit)) :=
 Option.bind (spec_RoughOk_fn fuel ((x0, ()), ())) fun y_1 =>
 cond (!y_1.fst.fst)
  (some ((([], ()), (false, ()), ())))
  (Option.bind (spec_l6In_fn fuel ((x1, ()), ((0 : Int), ()), ((63 : Int), ()), ())) fun y_3 =>
   cond (!y_3.fst.fst)
    (some ((([], ()), (false, ()), ())))
    (tst (decide ((0 : Int) < (zz (List.length x0)))) <|
     Option.bind (spec_l1Sum_fn fuel ((List.getD x0 (Int.toNat (0 : Int)) [], ()), ())) fun y_5 =>
     Option.bind (spec_l6In_fn fuel ((x2, ()), ((0 : Int), ()), (w64 ((2000 : Int) - y_5.fst.fst), ()), ())) fun y_6 =>
      cond (!y_6.fst.fst)
       (some ((([], ()), (false, ()), ())))
       (Option.bind (spec_l1Copy_fn fuel ((x0, ()), ())) fun y_8 =>
        Option.bind (spec_l1Place_fn fuel (((0 : Int), ()), (x1, ()), ())) fun y_9 =>
         Option.bind (spec_l1Place_fn fuel (((0 : Int), ()), (x1, ()), ())) fun y_10 =>
          tst (decide (0 ≤ y_10.fst.fst)) <|
           tst (decide (y_10.fst.fst < (zz (List.length (List.getD y_8.fst.fst 0 []))))) <|
           tst (decide (Int.toNat y_10.fst.fst < List.length (List.getD y_8.fst.fst 0 []))) <|
           tst (decide (0 ≤ y_9.fst.fst)) <|
           tst (decide (y_9.fst.fst < (zz (List.length (List.getD y_8.fst.fst 0 []))))) <|
           tst (decide (Int.toNat y_9.fst.fst < List.length (List.getD y_8.fst.fst 0 []))) <|
           let z1_3 := List.set (List.getD y_8.fst.fst 0 []) (Int.toNat y_9.fst.fst) (w64 (List.getD (List.getD y_8.fst.fst 0 []) (Int.toNat y_10.fst.fst) 0 + x2))
           Option.bind (spec_l1Place_fn fuel (((1 : Int), ()), (x1, ()), ())) fun y_11 =>
           Option.bind (spec_l1Place_fn fuel (((1 : Int), ()), (x1, ()), ())) fun y_12 =>
            tst (decide (0 ≤ y_12.fst.fst)) <|
             tst (decide (y_12.fst.fst < (zz (List.length (List.getD y_8.fst.fst 1 []))))) <|
             tst (decide (Int.toNat y_12.fst.fst < List.length (List.getD y_8.fst.fst 1 []))) <|
             tst (decide (0 ≤ y_11.fst.fst)) <|
             tst (decide (y_11.fst.fst < (zz (List.length (List.getD y_8.fst.fst 1 []))))) <|
             tst (decide (Int.toNat y_11.fst.fst < List.length (List.getD y_8.fst.fst 1 []))) <|
             let z2_4 := List.set (List.getD y_8.fst.fst 1 []) (Int.toNat y_11.fst.fst) (w64 (List.getD (List.getD y_8.fst.fst 1 []) (Int.toNat y_12.fst.fst) 0 + x2))
             Option.bind (spec_l1Place_fn fuel (((2 : Int), ()), (x1, ()), ())) fun y_13 =>
             Option.bind (spec_l1Place_fn fuel (((2 : Int), ()), (x1, ()), ())) fun y_14 =>
              tst (decide (0 ≤ y_14.fst.fst)) <|
               tst (decide (y_14.fst.fst < (zz (List.length (List.getD y_8.fst.fst 2 []))))) <|
               tst (decide (Int.toNat y_14.fst.fst < List.length (List.getD y_8.fst.fst 2 []))) <|
               tst (decide (0 ≤ y_13.fst.fst)) <|
               tst (decide (y_13.fst.fst < (zz (List.length (List.getD y_8.fst.fst 2 []))))) <|
               tst (decide (Int.toNat y_13.fst.fst < List.length (List.getD y_8.fst.fst 2 []))) <|
               let z3_5 := List.set (List.getD y_8.fst.fst 2 []) (Int.toNat y_13.fst.fst) (w64 (List.getD (List.getD y_8.fst.fst 2 []) (Int.toNat y_14.fst.fst) 0 + x2))
               some ((([z1_3, z2_4, z3_5], ()), (true, ()), ())))))
def spec_RoughAdd_fn (fuel : Nat) (x : (((List (List Int)) × Unit) × ((Int × Unit) × ((Int × Unit) × Unit)))) : Option (((List (List Int)) × Unit) × ((Bool × Unit) × Unit)) := spec_RoughAdd_pre fuel x.1.1 x.2.1.1 x.2.2.1.1
theorem spec_RoughAdd_run (fuel : Nat) (x : PsT spec_RoughAdd_ps) : run (spec_RoughAdd_T fuel) 0 (fuel + 6) spec_RoughAdd_c (env0 (svPs spec_RoughAdd_ps x) 0) [] (endF spec_RoughAdd_rv spec_RoughAdd_rs) = spec_RoughAdd_fn fuel x := by kernel_rfl
def spec_RoughAdd_tf (fuel : Nat) : TF := ⟨spec_RoughAdd_ps, spec_RoughAdd_rs, false, spec_RoughAdd_fn fuel⟩
theorem spec_RoughAdd_spec (fuel : Nat) : FnSpec Try.prog 119 (spec_RoughAdd_tf fuel) :=
  fn_spec (T := spec_RoughAdd_T fuel) (c := bodyOf Try.f119) (fn := Try.f119) (TabOK.of (entCons (spec_RoughOk_ok fuel) (entCons (spec_l6In_ok fuel) (entCons (spec_l1Sum_ok fuel) (entCons (spec_l1Place_ok fuel) (entCons (spec_l1Copy_ok fuel) entNil))))) (methNil)) mixed (by kernel_rfl) (by kernel_rfl) spec_RoughAdd_l (by kernel_rfl) (Nat.le_of_ble_eq_true (by kernel_rfl)) (rv := spec_RoughAdd_rv) (by kernel_rfl) (spec_RoughAdd_run fuel)
theorem spec_RoughAdd_ok (fuel : Nat) : EntryOK Try.prog 119 (spec_RoughAdd_tf fuel).te := EntryOK.tf rfl (spec_RoughAdd_spec fuel) (isFn (fn := Try.f119) (by kernel_rfl) (by kernel_rfl) (by kernel_rfl))

/-! ### spec_l3Put -/
def spec_l3Put_T (fuel : Nat) : Tab := Tab.of [] []
abbrev spec_l3Put_ps : List Pm := [{ cs := [(Kd.list (Kd.pair (Kd.int IntKind.i64) (Kd.pair (Kd.int IntKind.i64) Kd.unit)), false)], ag := false }, { cs := [(Kd.int IntKind.i64, false), (Kd.int IntKind.i64, false)], ag := true }]
abbrev spec_l3Put_rs : List Pm := [{ cs := [(Kd.list (Kd.pair (Kd.int IntKind.i64) (Kd.pair (Kd.int IntKind.i64) Kd.unit)), true)], ag := false }]
def spec_l3Put_ann : List Norm := [{ live := [7, 0, 6, 3, 5], fix := [(5, none, Kd.pair (Kd.int IntKind.i64) (Kd.pair (Kd.int IntKind.i64) Kd.unit), true)] }]
noncomputable def spec_l3Put_c : C := irOf Try.prog Try.f122 [] spec_l3Put_ann []
theorem spec_l3Put_l : lightC Try.prog [] Try.f122.ntmps spec_l3Put_ann [] 0 (bodyOf Try.f122) = some (spec_l3Put_c, 1) := by kernel_rfl
def spec_l3Put_rv : List (Nat × Option (Nat × Bool)) := [(4, none)]
abbrev spec_l3Put_V0 := (Int) × (List (Int × Int × Unit)) × (Bool) × (Int) × (Int) × (List (Int × Int × Unit))
def spec_l3Put_enc0 (v : spec_l3Put_V0) : Env × Heap := ([(7, SV.int IntKind.i64 v.1), (0, SV.es (Kd.pair (Kd.int IntKind.i64) (Kd.pair (Kd.int IntKind.i64) Kd.unit)) v.2.1), (6, SV.bool v.2.2.1), (3, SV.ptr 0 0), (5, SV.own 1)], [Blk.cells [SV.int IntKind.i64 v.2.2.2.1, SV.int IntKind.i64 v.2.2.2.2.1] 0 2, Blk.arr (Kd.pair (Kd.int IntKind.i64) (Kd.pair (Kd.int IntKind.i64) Kd.unit)) v.2.2.2.2.2 0])
def spec_l3Put_step0 (fuel : Nat) (g0 : spec_l3Put_V0 → Option (((List (Int × (Int × Unit))) × Unit) × Unit)) (v : spec_l3Put_V0) : Option (((List (Int × (Int × Unit))) × Unit) × Unit) :=
 cond (decide (v.1 < (zz (List.length v.2.1))))
 (cond (!v.2.2.1)
  (tst (decide (0 ≤ v.1)) <|
   tst (decide (v.1 < (zz (List.length v.2.1)))) <|
   cond (decide ((List.getD v.2.1 (Int.toNat v.1) (0, (0, ()))).fst ≥ v.2.2.2.1))
   (tst (decide (0 ≤ v.1)) <|
    tst (decide (v.1 < (zz (List.length v.2.1)))) <|
    cond ((List.getD v.2.1 (Int.toNat v.1) (0, (0, ()))).fst == v.2.2.2.1)
    (tst (decide (0 ≤ v.1)) <|
     tst (decide (v.1 < (zz (List.length v.2.1)))) <|
     tst (decide (List.length v.2.2.2.2.2 + 1 < LIM)) <|
     g0 (w64 (v.1 + (1 : Int)), v.2.1, true, v.2.2.2.1, v.2.2.2.2.1, v.2.2.2.2.2 ++ [(v.2.2.2.1, w64 (v.2.2.2.2.1 + (List.getD v.2.1 (Int.toNat v.1) (0, (0, ()))).snd.fst), ())]))
    (tst (decide (List.length v.2.2.2.2.2 + 1 < LIM)) <|
     tst (decide (0 ≤ v.1)) <|
     tst (decide (v.1 < (zz (List.length v.2.1)))) <|
     tst (decide (List.length (v.2.2.2.2.2 ++ [(v.2.2.2.1, v.2.2.2.2.1, ())]) + 1 < LIM)) <|
     g0 (w64 (v.1 + (1 : Int)), v.2.1, true, v.2.2.2.1, v.2.2.2.2.1, v.2.2.2.2.2 ++ [(v.2.2.2.1, v.2.2.2.2.1, ())] ++ [((List.getD v.2.1 (Int.toNat v.1) (0, (0, ()))).fst, (List.getD v.2.1 (Int.toNat v.1) (0, (0, ()))).snd.fst, ())])))
   (tst (decide (0 ≤ v.1)) <|
    tst (decide (v.1 < (zz (List.length v.2.1)))) <|
    tst (decide (List.length v.2.2.2.2.2 + 1 < LIM)) <|
    g0 (w64 (v.1 + (1 : Int)), v.2.1, v.2.2.1, v.2.2.2.1, v.2.2.2.2.1, v.2.2.2.2.2 ++ [((List.getD v.2.1 (Int.toNat v.1) (0, (0, ()))).fst, (List.getD v.2.1 (Int.toNat v.1) (0, (0, ()))).snd.fst, ())])))
  (tst (decide (0 ≤ v.1)) <|
   tst (decide (v.1 < (zz (List.length v.2.1)))) <|
   tst (decide (List.length v.2.2.2.2.2 + 1 < LIM)) <|
   g0 (w64 (v.1 + (1 : Int)), v.2.1, v.2.2.1, v.2.2.2.1, v.2.2.2.2.1, v.2.2.2.2.2 ++ [((List.getD v.2.1 (Int.toNat v.1) (0, (0, ()))).fst, (List.getD v.2.1 (Int.toNat v.1) (0, (0, ()))).snd.fst, ())])))
 (cond (!v.2.2.1)
  (tst (decide (List.length v.2.2.2.2.2 + 1 < LIM)) <|
   some (((v.2.2.2.2.2 ++ [(v.2.2.2.1, v.2.2.2.2.1, ())], ()), ())))
  (some (((v.2.2.2.2.2, ()), ()))))
def spec_l3Put_st0 (fuel : Nat) (g0 : spec_l3Put_V0 → Option (((List (Int × (Int × Unit))) × Unit) × Unit)) : spec_l3Put_V0 → Option (((List (Int × (Int × Unit))) × Unit) × Unit) := spec_l3Put_step0 fuel g0
theorem spec_l3Put_lp0 (fuel : Nat) (G) : spec_l3Put_c.lp (spec_l3Put_T fuel) 0 fuel G (endF spec_l3Put_rv spec_l3Put_rs) 0 spec_l3Put_enc0 = iter (spec_l3Put_st0 fuel) fuel := C.lp_iter fun g v => by kernel_rfl
def spec_l3Put_pre (fuel : Nat) (X0 : spec_l3Put_V0 → Option (((List (Int × (Int × Unit))) × Unit) × Unit)) (x0 : List (Int × Int × Unit)) (x1 : Int) (x2 : Int) : Option (((List (Int × (Int × Unit))) × Unit) × Unit) :=
 X0 ((0 : Int), x0, false, x1, x2, [])
def spec_l3Put_fn (fuel : Nat) (x : (((List (Int × (Int × Unit))) × Unit) × ((Int × (Int × Unit)) × Unit))) : Option (((List (Int × (Int × Unit))) × Unit) × Unit) := spec_l3Put_pre fuel (iter (spec_l3Put_st0 fuel) fuel) x.1.1 x.2.1.1 x.2.1.2.1
theorem spec_l3Put_run (fuel : Nat) (x : PsT spec_l3Put_ps) : run (spec_l3Put_T fuel) 0 fuel spec_l3Put_c (env0 (svPs spec_l3Put_ps x) 0) [] (endF spec_l3Put_rv spec_l3Put_rs) = spec_l3Put_fn fuel x :=
  (show run (spec_l3Put_T fuel) 0 fuel spec_l3Put_c (env0 (svPs spec_l3Put_ps x) 0) [] (endF spec_l3Put_rv spec_l3Put_rs) = spec_l3Put_pre fuel (spec_l3Put_c.lp (spec_l3Put_T fuel) 0 fuel (fun _ _ _ => none) (endF spec_l3Put_rv spec_l3Put_rs) 0 spec_l3Put_enc0) x.1.1 x.2.1.1 x.2.1.2.1 by kernel_rfl).trans (by rw [spec_l3Put_lp0]; rfl)
def spec_l3Put_tf (fuel : Nat) : TF := ⟨spec_l3Put_ps, spec_l3Put_rs, true, spec_l3Put_fn fuel⟩
theorem spec_l3Put_spec (fuel : Nat) : FnSpec Try.prog 122 (spec_l3Put_tf fuel) :=
  fn_spec (T := spec_l3Put_T fuel) (c := bodyOf Try.f122) (fn := Try.f122) (TabOK.of (entNil) (methNil)) mixed (by kernel_rfl) (by kernel_rfl) spec_l3Put_l (by kernel_rfl) (Nat.le_of_ble_eq_true (by kernel_rfl)) (rv := spec_l3Put_rv) (by kernel_rfl) (spec_l3Put_run fuel)
theorem spec_l3Put_ok (fuel : Nat) : EntryOK Try.prog 122 (spec_l3Put_tf fuel).te := EntryOK.tf rfl (spec_l3Put_spec fuel) (isFn (fn := Try.f122) (by kernel_rfl) (by kernel_rfl) (by kernel_rfl))

end Go.Proofs.Ytjnkefbdpcbkmaa.Den
