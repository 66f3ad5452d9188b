/- Readings of functions of the sums, as functions on plain data (4). -/
import Derived.Test.YtjnkefbdpcbkmaaCS3
namespace Go.Proofs.Ytjnkefbdpcbkmaa.Den
open Go Go.RowKit
set_option linter.unusedVariables false
set_option linter.unusedSimpArgs false

/-! ### laws_FnExactSumAll -/
def laws_FnExactSumAll_T (fuel : Nat) : Tab := Tab.of [(12, (laws_eqSum_tf fuel).te), (15, (laws_szSum_tf fuel).te), (17, (laws_toSum_tf fuel).te), (19, (spec_SumAll_tf fuel).te), (20, (impl_SumAll_tf fuel).te)] []
abbrev laws_FnExactSumAll_ps : List Pm := [{ cs := [(Kd.list (Kd.list (Kd.int IntKind.i64)), false), (Kd.list (Kd.int IntKind.i64), false), (Kd.list (Kd.pair (Kd.int IntKind.i64) (Kd.pair (Kd.int IntKind.i64) Kd.unit)), false), (Kd.int IntKind.i64, false), (Kd.int IntKind.i64, false), (Kd.list (Kd.pair (Kd.int IntKind.i64) (Kd.pair (Kd.int IntKind.i64) Kd.unit)), false), (Kd.int IntKind.i64, false)], ag := true }]
abbrev laws_FnExactSumAll_rs : List Pm := [{ cs := [(Kd.bool, false)], ag := false }]
def laws_FnExactSumAll_ann : List Norm := []
noncomputable def laws_FnExactSumAll_c : C := irOf Try.prog Try.f5 [] laws_FnExactSumAll_ann []
theorem laws_FnExactSumAll_l : lightC Try.prog [] Try.f5.ntmps laws_FnExactSumAll_ann [] 0 (bodyOf Try.f5) = some (laws_FnExactSumAll_c, 0) := by kernel_rfl
def laws_FnExactSumAll_rv : List (Nat × Option (Nat × Bool)) := [(2, none)]
def laws_FnExactSumAll_pre (fuel : Nat) (x0 : List (List Int)) (x1 : List Int) (x2 : List (Int × Int × Unit)) (x3 : Int) (x4 : Int) (x5 : List (Int × Int × Unit)) (x6 : Int) : Option ((Bool × Unit) × Unit) :=
 Option.bind (laws_szSum_fn fuel ((x0, x1, x2, x3, x4, x5, x6, ()), ((1048576 : Int), ()), ())) fun y_1 =>
 cond (decide (y_1.fst.fst < (0 : Int)))
  (some (((true, ()), ())))
  (Option.bind (laws_toSum_fn fuel ((x0, x1, x2, x3, x4, x5, x6, ()), ())) fun y_3 =>
   Option.bind (spec_SumAll_fn fuel ((y_3.fst.fst, y_3.fst.snd.fst, y_3.fst.snd.snd.fst, y_3.fst.snd.snd.snd.fst, y_3.fst.snd.snd.snd.snd.fst, y_3.fst.snd.snd.snd.snd.snd.fst, y_3.fst.snd.snd.snd.snd.snd.snd.fst, ()), ())) fun y_4 =>
    Option.bind (laws_toSum_fn fuel ((x0, x1, x2, x3, x4, x5, x6, ()), ())) fun y_5 =>
     Option.bind (impl_SumAll_fn fuel ((y_5.fst.fst, y_5.fst.snd.fst, y_5.fst.snd.snd.fst, y_5.fst.snd.snd.snd.fst, y_5.fst.snd.snd.snd.snd.fst, y_5.fst.snd.snd.snd.snd.snd.fst, y_5.fst.snd.snd.snd.snd.snd.snd.fst, ()), ())) fun y_6 =>
      cond (y_6.fst.fst != y_4.fst.fst)
       (some (((false, ()), ())))
       (Option.bind (laws_toSum_fn fuel ((x0, x1, x2, x3, x4, x5, x6, ()), ())) fun y_8 =>
        Option.bind (laws_eqSum_fn fuel ((y_5.fst.fst, y_5.fst.snd.fst, y_5.fst.snd.snd.fst, y_5.fst.snd.snd.snd.fst, y_5.fst.snd.snd.snd.snd.fst, y_5.fst.snd.snd.snd.snd.snd.fst, y_5.fst.snd.snd.snd.snd.snd.snd.fst, ()), (y_8.fst.fst, y_8.fst.snd.fst, y_8.fst.snd.snd.fst, y_8.fst.snd.snd.snd.fst, y_8.fst.snd.snd.snd.snd.fst, y_8.fst.snd.snd.snd.snd.snd.fst, y_8.fst.snd.snd.snd.snd.snd.snd.fst, ()), ())) fun y_9 =>
         cond (!y_9.fst.fst)
          (some (((false, ()), ())))
          (some (((true, ()), ())))))
def laws_FnExactSumAll_fn (fuel : Nat) (x : (((List (List Int)) × ((List Int) × ((List (Int × (Int × Unit))) × (Int × (Int × ((List (Int × (Int × Unit))) × (Int × Unit))))))) × Unit)) : Option ((Bool × Unit) × Unit) := laws_FnExactSumAll_pre fuel x.1.1 x.1.2.1 x.1.2.2.1 x.1.2.2.2.1 x.1.2.2.2.2.1 x.1.2.2.2.2.2.1 x.1.2.2.2.2.2.2.1
theorem laws_FnExactSumAll_run (fuel : Nat) (x : PsT laws_FnExactSumAll_ps) : run (laws_FnExactSumAll_T fuel) 0 fuel laws_FnExactSumAll_c (env0 (svPs laws_FnExactSumAll_ps x) 0) [] (endF laws_FnExactSumAll_rv laws_FnExactSumAll_rs) = laws_FnExactSumAll_fn fuel x := by kernel_rfl
def laws_FnExactSumAll_tf (fuel : Nat) : TF := ⟨laws_FnExactSumAll_ps, laws_FnExactSumAll_rs, true, laws_FnExactSumAll_fn fuel⟩
theorem laws_FnExactSumAll_spec (fuel : Nat) : FnSpec Try.prog 5 (laws_FnExactSumAll_tf fuel) :=
  fn_spec (T := laws_FnExactSumAll_T fuel) (c := bodyOf Try.f5) (fn := Try.f5) (TabOK.of (entCons (laws_eqSum_ok fuel) (entCons (laws_szSum_ok fuel) (entCons (laws_toSum_ok fuel) (entCons (spec_SumAll_ok fuel) (entCons (impl_SumAll_ok fuel) entNil))))) (methNil)) mixed (by kernel_rfl) (by kernel_rfl) laws_FnExactSumAll_l (by kernel_rfl) (Nat.le_of_ble_eq_true (by kernel_rfl)) (rv := laws_FnExactSumAll_rv) (by kernel_rfl) (laws_FnExactSumAll_run fuel)
theorem laws_FnExactSumAll_ok (fuel : Nat) : EntryOK Try.prog 5 (laws_FnExactSumAll_tf fuel).te := EntryOK.tf rfl (laws_FnExactSumAll_spec fuel) (isFn (fn := Try.f5) (by kernel_rfl) (by kernel_rfl) (by kernel_rfl))

/-! ### spec_TopGet -/
def spec_TopGet_T (fuel : Nat) : Tab := Tab.of [(53, (spec_TopOk_tf fuel).te), (67, (spec_l6In_tf fuel).te)] []
abbrev spec_TopGet_ps : List Pm := [{ cs := [(Kd.list (Kd.pair (Kd.int IntKind.i64) (Kd.pair (Kd.int IntKind.i64) Kd.unit)), false), (Kd.int IntKind.i64, false), (Kd.int IntKind.i64, false)], ag := true }, { cs := [(Kd.int IntKind.i64, false)], ag := false }]
abbrev spec_TopGet_rs : List Pm := [{ cs := [(Kd.int IntKind.i64, false)], ag := false }, { cs := [(Kd.int IntKind.i64, false)], ag := false }]
def spec_TopGet_ann : List Norm := [{ live := [6, 2, 1], fix := [] }]
noncomputable def spec_TopGet_c : C := irOf Try.prog Try.f68 [] spec_TopGet_ann []
theorem spec_TopGet_l : lightC Try.prog [] Try.f68.ntmps spec_TopGet_ann [] 0 (bodyOf Try.f68) = some (spec_TopGet_c, 1) := by kernel_rfl
def spec_TopGet_rv : List (Nat × Option (Nat × Bool)) := [(4, none), (5, none)]
abbrev spec_TopGet_V0 := (Int) × (Int) × (List (Int × Int × Unit)) × (Int) × (Int)
def spec_TopGet_enc0 (v : spec_TopGet_V0) : Env × Heap := ([(6, SV.int IntKind.i64 v.1), (2, SV.ptr 0 0), (1, SV.int IntKind.i64 v.2.1)], [Blk.cells [SV.es (Kd.pair (Kd.int IntKind.i64) (Kd.pair (Kd.int IntKind.i64) Kd.unit)) v.2.2.1, SV.int IntKind.i64 v.2.2.2.1, SV.int IntKind.i64 v.2.2.2.2] 0 3])
def spec_TopGet_step0 (fuel : Nat) (g0 : spec_TopGet_V0 → Option ((Int × Unit) × ((Int × Unit) × Unit))) (v : spec_TopGet_V0) : Option ((Int × Unit) × ((Int × Unit) × Unit)) :=
 cond (decide (v.1 < (zz (List.length v.2.2.1))))
 (tst (decide (0 ≤ v.1)) <|
  tst (decide (v.1 < (zz (List.length v.2.2.1)))) <|
  cond ((List.getD v.2.2.1 (Int.toNat v.1) (0, (0, ()))).fst == v.2.1)
  (tst (decide (0 ≤ v.1)) <|
   tst (decide (v.1 < (zz (List.length v.2.2.1)))) <|
   tst (decide (0 ≤ v.1)) <|
   tst (decide (v.1 < (zz (List.length v.2.2.1)))) <|
   some ((((List.getD v.2.2.1 (Int.toNat v.1) (0, (0, ()))).snd.fst, ()), (w64 ((List.getD v.2.2.1 (Int.toNat v.1) (0, (0, ()))).snd.fst + v.2.2.2.1), ()), ())))
  (g0 (w64 (v.1 + (1 : Int)), v.2.1, v.2.2.1, v.2.2.2.1, v.2.2.2.2)))
 (some ((((0 : Int), ()), (v.2.2.2.1, ()), ())))
def spec_TopGet_st0 (fuel : Nat) (g0 : spec_TopGet_V0 → Option ((Int × Unit) × ((Int × Unit) × Unit))) : spec_TopGet_V0 → Option ((Int × Unit) × ((Int × Unit) × Unit)) := spec_TopGet_step0 fuel g0
theorem spec_TopGet_lp0 (fuel : Nat) (G) : spec_TopGet_c.lp (spec_TopGet_T fuel) 0 fuel G (endF spec_TopGet_rv spec_TopGet_rs) 0 spec_TopGet_enc0 = iter (spec_TopGet_st0 fuel) fuel := C.lp_iter fun g v => by kernel_rfl
def spec_TopGet_pre (fuel : Nat) (X0 : spec_TopGet_V0 → Option ((Int × Unit) × ((Int × Unit) × Unit))) (x0 : List (Int × Int × Unit)) (x1 : Int) (x2 : Int) (x3 : Int) : Option ((Int × Unit) × ((Int × Unit) × Unit)) :=
 Option.bind (spec_TopOk_fn fuel ((x0, x1, x2, ()), ())) fun y_1 =>
 cond (!y_1.fst.fst)
  (some ((((-1 : Int), ()), ((-1 : Int), ()), ())))
  (Option.bind (spec_l6In_fn fuel ((x3, ()), ((0 : Int), ()), ((63 : Int), ()), ())) fun y_3 =>
   cond (!y_3.fst.fst)
    (some ((((-1 : Int), ()), ((-1 : Int), ()), ())))
    (X0 ((0 : Int), x3, x0, x1, x2)))
def spec_TopGet_fn (fuel : Nat) (x : (((List (Int × (Int × Unit))) × (Int × (Int × Unit))) × ((Int × Unit) × Unit))) : Option ((Int × Unit) × ((Int × Unit) × Unit)) := spec_TopGet_pre fuel (iter (spec_TopGet_st0 fuel) fuel) x.1.1 x.1.2.1 x.1.2.2.1 x.2.1.1
theorem spec_TopGet_run (fuel : Nat) (x : PsT spec_TopGet_ps) : run (spec_TopGet_T fuel) 0 fuel spec_TopGet_c (env0 (svPs spec_TopGet_ps x) 0) [] (endF spec_TopGet_rv spec_TopGet_rs) = spec_TopGet_fn fuel x :=
  (show run (spec_TopGet_T fuel) 0 fuel spec_TopGet_c (env0 (svPs spec_TopGet_ps x) 0) [] (endF spec_TopGet_rv spec_TopGet_rs) = spec_TopGet_pre fuel (spec_TopGet_c.lp (spec_TopGet_T fuel) 0 fuel (fun _ _ _ => none) (endF spec_TopGet_rv spec_TopGet_rs) 0 spec_TopGet_enc0) x.1.1 x.1.2.1 x.1.2.2.1 x.2.1.1 by kernel_rfl).trans (by rw [spec_TopGet_lp0]; rfl)
def spec_TopGet_tf (fuel : Nat) : TF := ⟨spec_TopGet_ps, spec_TopGet_rs, true, spec_TopGet_fn fuel⟩
theorem spec_TopGet_spec (fuel : Nat) : FnSpec Try.prog 68 (spec_TopGet_tf fuel) :=
  fn_spec (T := spec_TopGet_T fuel) (c := bodyOf Try.f68) (fn := Try.f68) (TabOK.of (entCons (spec_TopOk_ok fuel) (entCons (spec_l6In_ok fuel) entNil)) (methNil)) mixed (by kernel_rfl) (by kernel_rfl) spec_TopGet_l (by kernel_rfl) (Nat.le_of_ble_eq_true (by kernel_rfl)) (rv := spec_TopGet_rv) (by kernel_rfl) (spec_TopGet_run fuel)
theorem spec_TopGet_ok (fuel : Nat) : EntryOK Try.prog 68 (spec_TopGet_tf fuel).te := EntryOK.tf rfl (spec_TopGet_spec fuel) (isFn (fn := Try.f68) (by kernel_rfl) (by kernel_rfl) (by kernel_rfl))

/-! ### spec_FewMark -/
def spec_FewMark_T (fuel : Nat) : Tab := Tab.of [(67, (spec_l6In_tf fuel).te)] []
abbrev spec_FewMark_ps : List Pm := [{ cs := [(Kd.int IntKind.i64, false)], ag := false }]
abbrev spec_FewMark_rs : List Pm := [{ cs := [(Kd.int IntKind.i64, false)], ag := false }]
def spec_FewMark_ann : List Norm := []
noncomputable def spec_FewMark_c : C := irOf Try.prog Try.f102 [] spec_FewMark_ann []
theorem spec_FewMark_l : lightC Try.prog [] Try.f102.ntmps spec_FewMark_ann [] 0 (bodyOf Try.f102) = some (spec_FewMark_c, 0) := by kernel_rfl
def spec_FewMark_rv : List (Nat × Option (Nat × Bool)) := [(2, none)]
def spec_FewMark_pre (fuel : Nat) (x0 : Int) : Option ((Int × Unit) × Unit) :=
 Option.bind (spec_l6In_fn fuel ((x0, ()), ((0 : Int), ()), ((63 : Int), ()), ())) fun y_1 =>
 cond (!y_1.fst.fst)
  (some ((((-1 : Int), ()), ())))
  (some (((Int.tmod (w64 (w64 (x0 * (37 : Int)) + (11 : Int))) (64 : Int), ()), ())))
def spec_FewMark_fn (fuel : Nat) (x : ((Int × Unit) × Unit)) : Option ((Int × Unit) × Unit) := spec_FewMark_pre fuel x.1.1
theorem spec_FewMark_run (fuel : Nat) (x : PsT spec_FewMark_ps) : run (spec_FewMark_T fuel) 0 fuel spec_FewMark_c (env0 (svPs spec_FewMark_ps x) 0) [] (endF spec_FewMark_rv spec_FewMark_rs) = spec_FewMark_fn fuel x := by kernel_rfl
def spec_FewMark_tf (fuel : Nat) : TF := ⟨spec_FewMark_ps, spec_FewMark_rs, true, spec_FewMark_fn fuel⟩
theorem spec_FewMark_spec (fuel : Nat) : FnSpec Try.prog 102 (spec_FewMark_tf fuel) :=
  fn_spec (T := spec_FewMark_T fuel) (c := bodyOf Try.f102) (fn := Try.f102) (TabOK.of (entCons (spec_l6In_ok fuel) entNil) (methNil)) mixed (by kernel_rfl) (by kernel_rfl) spec_FewMark_l (by kernel_rfl) (Nat.le_of_ble_eq_true (by kernel_rfl)) (rv := spec_FewMark_rv) (by kernel_rfl) (spec_FewMark_run fuel)
theorem spec_FewMark_ok (fuel : Nat) : EntryOK Try.prog 102 (spec_FewMark_tf fuel).te := EntryOK.tf rfl (spec_FewMark_spec fuel) (isFn (fn := Try.f102) (by kernel_rfl) (by kernel_rfl) (by kernel_rfl))

/-! ### spec_FewHas -/
def spec_FewHas_T (fuel : Nat) : Tab := Tab.of [(52, (spec_FewOk_tf fuel).te), (67, (spec_l6In_tf fuel).te), (102, (spec_FewMark_tf fuel).te)] []
abbrev spec_FewHas_ps : List Pm := [{ cs := [(Kd.list (Kd.int IntKind.i64), false)], ag := true }, { cs := [(Kd.int IntKind.i64, false)], ag := false }]
abbrev spec_FewHas_rs : List Pm := [{ cs := [(Kd.bool, false)], ag := false }, { cs := [(Kd.bool, false)], ag := false }]
def spec_FewHas_ann : List Norm := [{ live := [8, 6, 2, 7], fix := [] }]
noncomputable def spec_FewHas_c : C := irOf Try.prog Try.f69 [] spec_FewHas_ann []
theorem spec_FewHas_l : lightC Try.prog [] Try.f69.ntmps spec_FewHas_ann [] 0 (bodyOf Try.f69) = some (spec_FewHas_c, 1) := by kernel_rfl
def spec_FewHas_rv : List (Nat × Option (Nat × Bool)) := [(4, none), (5, none)]
abbrev spec_FewHas_V0 := (Int) × (Int) × (Int) × (List Int)
def spec_FewHas_enc0 (v : spec_FewHas_V0) : Env × Heap := ([(8, SV.int IntKind.i64 v.1), (6, SV.int IntKind.i64 v.2.1), (2, SV.ptr 0 0), (7, SV.int IntKind.i64 v.2.2.1)], [Blk.cells [SV.es (Kd.int IntKind.i64) v.2.2.2] 0 1])
def spec_FewHas_step0 (fuel : Nat) (g0 : spec_FewHas_V0 → Option ((Bool × Unit) × ((Bool × Unit) × Unit))) (v : spec_FewHas_V0) : Option ((Bool × Unit) × ((Bool × Unit) × Unit)) :=
 cond (decide (v.1 < v.2.1))
 (tst (decide (0 ≤ v.1)) <|
  tst (decide (v.1 < (zz (List.length v.2.2.2)))) <|
  cond (List.getD v.2.2.2 (Int.toNat v.1) 0 == v.2.2.1)
  (some (((true, ()), (true, ()), ())))
  (g0 (w64 (v.1 + (1 : Int)), v.2.1, v.2.2.1, v.2.2.2)))
 (cond (decide (v.2.1 < (6 : Int)))
  (some (((false, ()), (true, ()), ())))
  (tst (decide (0 ≤ w64 (v.2.1 - (1 : Int)))) <|
   tst (decide (w64 (v.2.1 - (1 : Int)) < (zz (List.length v.2.2.2)))) <|
   some (((false, ()), (decide (v.2.2.1 < List.getD v.2.2.2 (Int.toNat (w64 (v.2.1 - (1 : Int)))) 0), ()), ()))))
def spec_FewHas_st0 (fuel : Nat) (g0 : spec_FewHas_V0 → Option ((Bool × Unit) × ((Bool × Unit) × Unit))) : spec_FewHas_V0 → Option ((Bool × Unit) × ((Bool × Unit) × Unit)) := spec_FewHas_step0 fuel g0
theorem spec_FewHas_lp0 (fuel : Nat) (G) : spec_FewHas_c.lp (spec_FewHas_T fuel) 0 fuel G (endF spec_FewHas_rv spec_FewHas_rs) 0 spec_FewHas_enc0 = iter (spec_FewHas_st0 fuel) fuel := C.lp_iter fun g v => by kernel_rfl
def spec_FewHas_pre (fuel : Nat) (X0 : spec_FewHas_V0 → Option ((Bool × Unit) × ((Bool × Unit) × Unit))) (x0 : List Int) (x1 : Int) : Option ((Bool × Unit) × ((Bool × Unit) × Unit)) :=
 Option.bind (spec_FewOk_fn fuel ((x0, ()), ())) fun y_1 =>
 cond (!y_1.fst.fst)
  (some (((false, ()), (false, ()), ())))
  (Option.bind (spec_l6In_fn fuel ((x1, ()), ((0 : Int), ()), ((63 : Int), ()), ())) fun y_3 =>
   cond (!y_3.fst.fst)
    (some (((false, ()), (false, ()), ())))
    (Option.bind (spec_FewMark_fn fuel ((x1, ()), ())) fun y_5 =>
     X0 ((0 : Int), (zz (List.length x0)), y_5.fst.fst, x0)))
def spec_FewHas_fn (fuel : Nat) (x : (((List Int) × Unit) × ((Int × Unit) × Unit))) : Option ((Bool × Unit) × ((Bool × Unit) × Unit)) := spec_FewHas_pre fuel (iter (spec_FewHas_st0 fuel) fuel) x.1.1 x.2.1.1
theorem spec_FewHas_run (fuel : Nat) (x : PsT spec_FewHas_ps) : run (spec_FewHas_T fuel) 0 fuel spec_FewHas_c (env0 (svPs spec_FewHas_ps x) 0) [] (endF spec_FewHas_rv spec_FewHas_rs) = spec_FewHas_fn fuel x :=
  (show run (spec_FewHas_T fuel) 0 fuel spec_FewHas_c (env0 (svPs spec_FewHas_ps x) 0) [] (endF spec_FewHas_rv spec_FewHas_rs) = spec_FewHas_pre fuel (spec_FewHas_c.lp (spec_FewHas_T fuel) 0 fuel (fun _ _ _ => none) (endF spec_FewHas_rv spec_FewHas_rs) 0 spec_FewHas_enc0) x.1.1 x.2.1.1 by kernel_rfl).trans (by rw [spec_FewHas_lp0]; rfl)
def spec_FewHas_tf (fuel : Nat) : TF := ⟨spec_FewHas_ps, spec_FewHas_rs, true, spec_FewHas_fn fuel⟩
theorem spec_FewHas_spec (fuel : Nat) : FnSpec Try.prog 69 (spec_FewHas_tf fuel) :=
  fn_spec (T := spec_FewHas_T fuel) (c := bodyOf Try.f69) (fn := Try.f69) (TabOK.of (entCons (spec_FewOk_ok fuel) (entCons (spec_l6In_ok fuel) (entCons (spec_FewMark_ok fuel) entNil))) (methNil)) mixed (by kernel_rfl) (by kernel_rfl) spec_FewHas_l (by kernel_rfl) (Nat.le_of_ble_eq_true (by kernel_rfl)) (rv := spec_FewHas_rv) (by kernel_rfl) (spec_FewHas_run fuel)
theorem spec_FewHas_ok (fuel : Nat) : EntryOK Try.prog 69 (spec_FewHas_tf fuel).te := EntryOK.tf rfl (spec_FewHas_spec fuel) (isFn (fn := Try.f69) (by kernel_rfl) (by kernel_rfl) (by kernel_rfl))

/-! ### spec_l1Place -/
def spec_l1Place_T (fuel : Nat) : Tab := Tab.of [] []
abbrev spec_l1Place_ps : List Pm := [{ cs := [(Kd.int IntKind.i64, false)], ag := false }, { cs := [(Kd.int IntKind.i64, false)], ag := false }]
abbrev spec_l1Place_rs : List Pm := [{ cs := [(Kd.int IntKind.i64, false)], ag := false }]
def spec_l1Place_ann : List Norm := []
noncomputable def spec_l1Place_c : C := irOf Try.prog Try.f103 [] spec_l1Place_ann []
theorem spec_l1Place_l : lightC Try.prog [] Try.f103.ntmps spec_l1Place_ann [] 0 (bodyOf Try.f103) = some (spec_l1Place_c, 0) := by kernel_rfl
def spec_l1Place_rv : List (Nat × Option (Nat × Bool)) := [(4, none)]
def spec_l1Place_pre (fuel : Nat) (x0 : Int) (x1 : Int) : Option ((Int × Unit) × Unit) :=
 tst (decide (0 ≤ x0)) <|
 tst (decide (x0 < (zz (List.length [(3 : Int), (5 : Int), (1 : Int)])))) <|
 tst (decide (Int.toNat x0 < List.length [(3 : Int), (5 : Int), (1 : Int)])) <|
 tst (decide (0 ≤ x0)) <|
 tst (decide (x0 < (zz (List.length [(8 : Int), (16 : Int), (4 : Int)])))) <|
 tst (decide (Int.toNat x0 < List.length [(8 : Int), (16 : Int), (4 : Int)])) <|
 tst (!decide (List.getD [(8 : Int), (16 : Int), (4 : Int)] (Int.toNat x0) 0 = 0)) <|
 some (((Int.tmod (w64 (w64 (w64 (x1 * List.getD [(3 : Int), (5 : Int), (1 : Int)] (Int.toNat x0) 0) + w64 (Int.tdiv x1 (List.getD [(8 : Int), (16 : Int), (4 : Int)] (Int.toNat x0) 0))) + x0)) (8 : Int), ()), ()))
def spec_l1Place_fn (fuel : Nat) (x : ((Int × Unit) × ((Int × Unit) × Unit))) : Option ((Int × Unit) × Unit) := spec_l1Place_pre fuel x.1.1 x.2.1.1
theorem spec_l1Place_run (fuel : Nat) (x : PsT spec_l1Place_ps) : run (spec_l1Place_T fuel) 0 fuel spec_l1Place_c (env0 (svPs spec_l1Place_ps x) 0) [] (endF spec_l1Place_rv spec_l1Place_rs) = spec_l1Place_fn fuel x := by kernel_rfl
def spec_l1Place_tf (fuel : Nat) : TF := ⟨spec_l1Place_ps, spec_l1Place_rs, true, spec_l1Place_fn fuel⟩
theorem spec_l1Place_spec (fuel : Nat) : FnSpec Try.prog 103 (spec_l1Place_tf fuel) :=
  fn_spec (T := spec_l1Place_T fuel) (c := bodyOf Try.f103) (fn := Try.f103) (TabOK.of (entNil) (methNil)) mixed (by kernel_rfl) (by kernel_rfl) spec_l1Place_l (by kernel_rfl) (Nat.le_of_ble_eq_true (by kernel_rfl)) (rv := spec_l1Place_rv) (by kernel_rfl) (spec_l1Place_run fuel)
theorem spec_l1Place_ok (fuel : Nat) : EntryOK Try.prog 103 (spec_l1Place_tf fuel).te := EntryOK.tf rfl (spec_l1Place_spec fuel) (isFn (fn := Try.f103) (by kernel_rfl) (by kernel_rfl) (by kernel_rfl))

/-! ### spec_RoughGet -/
def spec_RoughGet_T (fuel : Nat) : Tab := Tab.of [(51, (spec_RoughOk_tf fuel).te), (67, (spec_l6In_tf fuel).te), (103, (spec_l1Place_tf fuel).te)] []
abbrev spec_RoughGet_ps : List Pm := [{ cs := [(Kd.list (Kd.list (Kd.int IntKind.i64)), false)], ag := true }, { cs := [(Kd.int IntKind.i64, false)], ag := false }]
abbrev spec_RoughGet_rs : List Pm := [{ cs := [(Kd.int IntKind.i64, false)], ag := false }]
def spec_RoughGet_ann : List Norm := [{ live := [6, 5, 2, 1], fix := [] }]
noncomputable def spec_RoughGet_c : C := irOf Try.prog Try.f70 [] spec_RoughGet_ann []
theorem spec_RoughGet_l : lightC Try.prog [] Try.f70.ntmps spec_RoughGet_ann [] 0 (bodyOf Try.f70) = some (spec_RoughGet_c, 1) := by kernel_rfl
def spec_RoughGet_rv : List (Nat × Option (Nat × Bool)) := [(4, none)]
abbrev spec_RoughGet_V0 := (Int) × (Int) × (Int) × (List (List Int))
def spec_RoughGet_enc0 (v : spec_RoughGet_V0) : Env × Heap := ([(6, SV.int IntKind.i64 v.1), (5, SV.int IntKind.i64 v.2.1), (2, SV.ptr 0 0), (1, SV.int IntKind.i64 v.2.2.1)], [Blk.cells [SV.es (Kd.list (Kd.int IntKind.i64)) v.2.2.2] 0 1])
def spec_RoughGet_step0 (fuel : Nat) (g0 : spec_RoughGet_V0 → Option ((Int × Unit) × Unit)) (v : spec_RoughGet_V0) : Option ((Int × Unit) × Unit) :=
 cond (decide (v.1 < (3 : Int)))
 (tst (decide (0 ≤ v.1)) <|
  tst (decide (v.1 < (zz (List.length v.2.2.2)))) <|
  Option.bind (spec_l1Place_fn fuel ((v.1, ()), (v.2.2.1, ()), ())) fun y_2 =>
  tst (decide (0 ≤ y_2.fst.fst)) <|
   tst (decide (y_2.fst.fst < (zz (List.length (List.getD v.2.2.2 (Int.toNat v.1) []))))) <|
   g0 (w64 (v.1 + (1 : Int)), if List.getD (List.getD v.2.2.2 (Int.toNat v.1) []) (Int.toNat y_2.fst.fst) 0 < v.2.1 then List.getD (List.getD v.2.2.2 (Int.toNat v.1) []) (Int.toNat y_2.fst.fst) 0 else v.2.1, v.2.2.1, v.2.2.2))
 (some (((v.2.1, ()), ())))
def spec_RoughGet_st0 (fuel : Nat) (g0 : spec_RoughGet_V0 → Option ((Int × Unit) × Unit)) : spec_RoughGet_V0 → Option ((Int × Unit) × Unit) := spec_RoughGet_step0 fuel g0
theorem spec_RoughGet_lp0 (fuel : Nat) (G) : spec_RoughGet_c.lp (spec_RoughGet_T fuel) 0 fuel G (endF spec_RoughGet_rv spec_RoughGet_rs) 0 spec_RoughGet_enc0 = iter (spec_RoughGet_st0 fuel) fuel := C.lp_iter fun g v => by kernel_rfl
def spec_RoughGet_pre (fuel : Nat) (X0 : spec_RoughGet_V0 → Option ((Int × Unit) × Unit)) (x0 : List (List Int)) (x1 : Int) : Option ((Int × Unit) × Unit) :=
 Option.bind (spec_RoughOk_fn fuel ((x0, ()), ())) fun y_1 =>
 cond (!y_1.fst.fst)
  (some ((((-1 : Int), ()), ())))
  (Option.bind (spec_l6In_fn fuel ((x1, ()), ((0 : Int), ()), ((63 : Int), ()), ())) fun y_3 =>
   cond (!y_3.fst.fst)
    (some ((((-1 : Int), ()), ())))
    (tst (decide ((0 : Int) < (zz (List.length x0)))) <|
     Option.bind (spec_l1Place_fn fuel (((0 : Int), ()), (x1, ()), ())) fun y_5 =>
     tst (decide (0 ≤ y_5.fst.fst)) <|
      tst (decide (y_5.fst.fst < (zz (List.length (List.getD x0 (Int.toNat (0 : Int)) []))))) <|
      X0 ((1 : Int), List.getD (List.getD x0 (Int.toNat (0 : Int)) []) (Int.toNat y_5.fst.fst) 0, x1, x0)))
def spec_RoughGet_fn (fuel : Nat) (x : (((List (List Int)) × Unit) × ((Int × Unit) × Unit))) : Option ((Int × Unit) × Unit) := spec_RoughGet_pre fuel (iter (spec_RoughGet_st0 fuel) fuel) x.1.1 x.2.1.1
theorem spec_RoughGet_run (fuel : Nat) (x : PsT spec_RoughGet_ps) : run (spec_RoughGet_T fuel) 0 fuel spec_RoughGet_c (env0 (svPs spec_RoughGet_ps x) 0) [] (endF spec_RoughGet_rv spec_RoughGet_rs) = spec_RoughGet_fn fuel x :=
  (show run (spec_RoughGet_T fuel) 0 fuel spec_RoughGet_c (env0 (svPs spec_RoughGet_ps x) 0) [] (endF spec_RoughGet_rv spec_RoughGet_rs) = spec_RoughGet_pre fuel (spec_RoughGet_c.lp (spec_RoughGet_T fuel) 0 fuel (fun _ _ _ => none) (endF spec_RoughGet_rv spec_RoughGet_rs) 0 spec_RoughGet_enc0) x.1.1 x.2.1.1 by kernel_rfl).trans (by rw [spec_RoughGet_lp0]; rfl)
def spec_RoughGet_tf (fuel : Nat) : TF := ⟨spec_RoughGet_ps, spec_RoughGet_rs, true, spec_RoughGet_fn fuel⟩
theorem spec_RoughGet_spec (fuel : Nat) : FnSpec Try.prog 70 (spec_RoughGet_tf fuel) :=
  fn_spec (T := spec_RoughGet_T fuel) (c := bodyOf Try.f70) (fn := Try.f70) (TabOK.of (entCons (spec_RoughOk_ok fuel) (entCons (spec_l6In_ok fuel) (entCons (spec_l1Place_ok fuel) entNil))) (methNil)) mixed (by kernel_rfl) (by kernel_rfl) spec_RoughGet_l (by kernel_rfl) (Nat.le_of_ble_eq_true (by kernel_rfl)) (rv := spec_RoughGet_rv) (by kernel_rfl) (spec_RoughGet_run fuel)
theorem spec_RoughGet_ok (fuel : Nat) : EntryOK Try.prog 70 (spec_RoughGet_tf fuel).te := EntryOK.tf rfl (spec_RoughGet_spec fuel) (isFn (fn := Try.f70) (by kernel_rfl) (by kernel_rfl) (by kernel_rfl))

/-! ### spec_SumGet -/
def spec_SumGet_T (fuel : Nat) : Tab := Tab.of [(16, (spec_SumOk_tf fuel).te), (67, (spec_l6In_tf fuel).te), (68, (spec_TopGet_tf fuel).te), (69, (spec_FewHas_tf fuel).te), (70, (spec_RoughGet_tf fuel).te)] []
abbrev spec_SumGet_ps : List Pm := [{ cs := [(Kd.list (Kd.list (Kd.int IntKind.i64)), false), (Kd.list (Kd.int IntKind.i64), false), (Kd.list (Kd.pair (Kd.int IntKind.i64) (Kd.pair (Kd.int IntKind.i64) Kd.unit)), false), (Kd.int IntKind.i64, false), (Kd.int IntKind.i64, false), (Kd.list (Kd.pair (Kd.int IntKind.i64) (Kd.pair (Kd.int IntKind.i64) Kd.unit)), false), (Kd.int IntKind.i64, false)], ag := true }, { cs := [(Kd.int IntKind.i64, false)], ag := false }]
abbrev spec_SumGet_rs : List Pm := [{ cs := [(Kd.int IntKind.i64, false)], ag := false }, { cs := [(Kd.int IntKind.i64, false)], ag := false }]
def spec_SumGet_ann : List Norm := []
noncomputable def spec_SumGet_c : C := irOf Try.prog Try.f28 [] spec_SumGet_ann []
theorem spec_SumGet_l : lightC Try.prog [] Try.f28.ntmps spec_SumGet_ann [] 0 (bodyOf Try.f28) = some (spec_SumGet_c, 0) := by kernel_rfl
def spec_SumGet_rv : List (Nat × Option (Nat × Bool)) := [(4, none), (5, none)]
def spec_SumGet_pre (fuel : Nat) (x0 : List (List Int)) (x1 : List Int) (x2 : List (Int × Int × Unit)) (x3 : Int) (x4 : Int) (x5 : List (Int × Int × Unit)) (x6 : Int) (x7 : Int) : Option ((Int × Unit) × ((Int × Unit) × Unit)) :=
 Option.bind (spec_SumOk_fn fuel ((x0, x1, x2, x3, x4, x5, x6, ()), ())) fun y_1 =>
 cond (!y_1.fst.fst)
  (some ((((-1 : Int), ()), ((-1 : Int), ()), ())))
  (Option.bind (spec_l6In_fn fuel ((x7, ()), ((0 : Int), ()), ((63 : Int), ()), ())) fun y_3 =>
   cond (!y_3.fst.fst)
    (some ((((-1 : Int), ()), ((-1 : Int), ()), ())))
    (Option.bind (spec_TopGet_fn fuel ((x2, x3, x4, ()), (x7, ()), ())) fun y_5 =>
     Option.bind (spec_FewHas_fn fuel ((x1, ()), (x7, ()), ())) fun y_6 =>
      cond (y_6.fst.fst)
       (cond (y_6.snd.fst.fst)
        (cond (!y_6.fst.fst)
         (some ((((0 : Int), ()), ((0 : Int), ()), ())))
         (Option.bind (spec_RoughGet_fn fuel ((x0, ()), (x7, ()), ())) fun y_10 =>
          some (((if (1 : Int) > y_5.fst.fst then (1 : Int) else y_5.fst.fst, ()), (if y_10.fst.fst < y_5.snd.fst.fst then y_10.fst.fst else y_5.snd.fst.fst, ()), ()))))
        (Option.bind (spec_RoughGet_fn fuel ((x0, ()), (x7, ()), ())) fun y_9 =>
         some (((if (1 : Int) > y_5.fst.fst then (1 : Int) else y_5.fst.fst, ()), (if y_9.fst.fst < y_5.snd.fst.fst then y_9.fst.fst else y_5.snd.fst.fst, ()), ()))))
       (cond (y_6.snd.fst.fst)
        (cond (!y_6.fst.fst)
         (some ((((0 : Int), ()), ((0 : Int), ()), ())))
         (Option.bind (spec_RoughGet_fn fuel ((x0, ()), (x7, ()), ())) fun y_10 =>
          some (((y_5.fst.fst, ()), (if y_10.fst.fst < y_5.snd.fst.fst then y_10.fst.fst else y_5.snd.fst.fst, ()), ()))))
        (Option.bind (spec_RoughGet_fn fuel ((x0, ()), (x7, ()), ())) fun y_9 =>
         some (((y_5.fst.fst, ()), (if y_9.fst.fst < y_5.snd.fst.fst then y_9.fst.fst else y_5.snd.fst.fst, ()), ()))))))
def spec_SumGet_fn (fuel : Nat) (x : (((List (List Int)) × ((List Int) × ((List (Int × (Int × Unit))) × (Int × (Int × ((List (Int × (Int × Unit))) × (Int × Unit))))))) × ((Int × Unit) × Unit))) : Option ((Int × Unit) × ((Int × Unit) × Unit)) := spec_SumGet_pre fuel x.1.1 x.1.2.1 x.1.2.2.1 x.1.2.2.2.1 x.1.2.2.2.2.1 x.1.2.2.2.2.2.1 x.1.2.2.2.2.2.2.1 x.2.1.1
theorem spec_SumGet_run (fuel : Nat) (x : PsT spec_SumGet_ps) : run (spec_SumGet_T fuel) 0 fuel spec_SumGet_c (env0 (svPs spec_SumGet_ps x) 0) [] (endF spec_SumGet_rv spec_SumGet_rs) = spec_SumGet_fn fuel x := by kernel_rfl
def spec_SumGet_tf (fuel : Nat) : TF := ⟨spec_SumGet_ps, spec_SumGet_rs, true, spec_SumGet_fn fuel⟩
theorem spec_SumGet_spec (fuel : Nat) : FnSpec Try.prog 28 (spec_SumGet_tf fuel) :=
  fn_spec (T := spec_SumGet_T fuel) (c := bodyOf Try.f28) (fn := Try.f28) (TabOK.of (entCons (spec_SumOk_ok fuel) (entCons (spec_l6In_ok fuel) (entCons (spec_TopGet_ok fuel) (entCons (spec_FewHas_ok fuel) (entCons (spec_RoughGet_ok fuel) entNil))))) (methNil)) mixed (by kernel_rfl) (by kernel_rfl) spec_SumGet_l (by kernel_rfl) (Nat.le_of_ble_eq_true (by kernel_rfl)) (rv := spec_SumGet_rv) (by kernel_rfl) (spec_SumGet_run fuel)
theorem spec_SumGet_ok (fuel : Nat) : EntryOK Try.prog 28 (spec_SumGet_tf fuel).te := EntryOK.tf rfl (spec_SumGet_spec fuel) (isFn (fn := Try.f28) (by kernel_rfl) (by kernel_rfl) (by kernel_rfl))

/-! ### impl_TopGet -/
def impl_TopGet_T (fuel : Nat) : Tab := Tab.of [(26, (impl_TopOk_tf fuel).te), (71, (impl_isThing_tf fuel).te)] []
abbrev impl_TopGet_ps : List Pm := [{ cs := [(Kd.list (Kd.pair (Kd.int IntKind.i64) (Kd.pair (Kd.int IntKind.i64) Kd.unit)), false), (Kd.int IntKind.i64, false), (Kd.int IntKind.i64, false)], ag := true }, { cs := [(Kd.int IntKind.i64, false)], ag := false }]
abbrev impl_TopGet_rs : List Pm := [{ cs := [(Kd.int IntKind.i64, false)], ag := false }, { cs := [(Kd.int IntKind.i64, false)], ag := false }]
def impl_TopGet_ann : List Norm := [{ live := [19, 18, 17, 1, 2], fix := [] }]
noncomputable def impl_TopGet_c : C := irOf Try.prog Try.f31 [] impl_TopGet_ann []
theorem impl_TopGet_l : lightC Try.prog [] Try.f31.ntmps impl_TopGet_ann [] 0 (bodyOf Try.f31) = some (impl_TopGet_c, 1) := by kernel_rfl
def impl_TopGet_rv : List (Nat × Option (Nat × Bool)) := [(4, none), (5, none)]
abbrev impl_TopGet_V0 := (Int) × (Int) × (List (Int × Int × Unit)) × (Int) × (List (Int × Int × Unit)) × (Int) × (Int)
def impl_TopGet_enc0 (v : impl_TopGet_V0) : Env × Heap := ([(19, SV.int IntKind.i64 v.1), (18, SV.int IntKind.i64 v.2.1), (17, SV.es (Kd.pair (Kd.int IntKind.i64) (Kd.pair (Kd.int IntKind.i64) Kd.unit)) v.2.2.1), (1, SV.int IntKind.i64 v.2.2.2.1), (2, SV.ptr 0 0)], [Blk.cells [SV.es (Kd.pair (Kd.int IntKind.i64) (Kd.pair (Kd.int IntKind.i64) Kd.unit)) v.2.2.2.2.1, SV.int IntKind.i64 v.2.2.2.2.2.1, SV.int IntKind.i64 v.2.2.2.2.2.2] 0 3])
def impl_TopGet_step0 (fuel : Nat) (g0 : impl_TopGet_V0 → Option ((Int × Unit) × ((Int × Unit) × Unit))) (v : impl_TopGet_V0) : Option ((Int × Unit) × ((Int × Unit) × Unit)) :=
 cond (decide (v.1 < v.2.1))
 (tst (decide (0 ≤ v.1)) <|
  tst (decide (v.1 < (zz (List.length v.2.2.1)))) <|
  cond ((List.getD v.2.2.1 (Int.toNat v.1) (0, (0, ()))).fst == v.2.2.2.1)
  (some ((((List.getD v.2.2.1 (Int.toNat v.1) (0, (0, ()))).snd.fst, ()), (w64 ((List.getD v.2.2.1 (Int.toNat v.1) (0, (0, ()))).snd.fst + v.2.2.2.2.2.1), ()), ())))
  (g0 (w64 (v.1 + (1 : Int)), v.2.1, v.2.2.1, v.2.2.2.1, v.2.2.2.2.1, v.2.2.2.2.2.1, v.2.2.2.2.2.2)))
 (some ((((0 : Int), ()), (v.2.2.2.2.2.1, ()), ())))
def impl_TopGet_st0 (fuel : Nat) (g0 : impl_TopGet_V0 → Option ((Int × Unit) × ((Int × Unit) × Unit))) : impl_TopGet_V0 → Option ((Int × Unit) × ((Int × Unit) × Unit)) := impl_TopGet_step0 fuel g0
theorem impl_TopGet_lp0 (fuel : Nat) (G) : impl_TopGet_c.lp (impl_TopGet_T fuel) 0 fuel G (endF impl_TopGet_rv impl_TopGet_rs) 0 impl_TopGet_enc0 = iter (impl_TopGet_st0 fuel) fuel := C.lp_iter fun g v => by kernel_rfl
def impl_TopGet_pre (fuel : Nat) (X0 : impl_TopGet_V0 → Option ((Int × Unit) × ((Int × Unit) × Unit))) (x0 : List (Int × Int × Unit)) (x1 : Int) (x2 : Int) (x3 : Int) : Option ((Int × Unit) × ((Int × Unit) × Unit)) :=
 Option.bind (impl_TopOk_fn fuel ((x0, x1, x2, ()), ())) fun y_1 =>
 cond (!y_1.fst.fst)
  (some ((((-1 : Int), ()), ((-1 : Int), ()), ())))
  (Option.bind (impl_isThing_fn fuel ((x3, ()), ())) fun y_3 =>
   cond (!y_3.fst.fst)
    (some ((((-1 : Int), ()), ((-1 : Int), ()), ())))
    (X0 ((0 : Int), (zz (List.length x0)), x0, x3, x0, x1, x2)))
def impl_TopGet_fn (fuel : Nat) (x : (((List (Int × (Int × Unit))) × (Int × (Int × Unit))) × ((Int × Unit) × Unit))) : Option ((Int × Unit) × ((Int × Unit) × Unit)) := impl_TopGet_pre fuel (iter (impl_TopGet_st0 fuel) fuel) x.1.1 x.1.2.1 x.1.2.2.1 x.2.1.1
theorem impl_TopGet_run (fuel : Nat) (x : PsT impl_TopGet_ps) : run (impl_TopGet_T fuel) 0 fuel impl_TopGet_c (env0 (svPs impl_TopGet_ps x) 0) [] (endF impl_TopGet_rv impl_TopGet_rs) = impl_TopGet_fn fuel x :=
  (show run (impl_TopGet_T fuel) 0 fuel impl_TopGet_c (env0 (svPs impl_TopGet_ps x) 0) [] (endF impl_TopGet_rv impl_TopGet_rs) = impl_TopGet_pre fuel (impl_TopGet_c.lp (impl_TopGet_T fuel) 0 fuel (fun _ _ _ => none) (endF impl_TopGet_rv impl_TopGet_rs) 0 impl_TopGet_enc0) x.1.1 x.1.2.1 x.1.2.2.1 x.2.1.1 by kernel_rfl).trans (by rw [impl_TopGet_lp0]; rfl)
def impl_TopGet_tf (fuel : Nat) : TF := ⟨impl_TopGet_ps, impl_TopGet_rs, true, impl_TopGet_fn fuel⟩
theorem impl_TopGet_spec (fuel : Nat) : FnSpec Try.prog 31 (impl_TopGet_tf fuel) :=
  fn_spec (T := impl_TopGet_T fuel) (c := bodyOf Try.f31) (fn := Try.f31) (TabOK.of (entCons (impl_TopOk_ok fuel) (entCons (impl_isThing_ok fuel) entNil)) (methNil)) mixed (by kernel_rfl) (by kernel_rfl) impl_TopGet_l (by kernel_rfl) (Nat.le_of_ble_eq_true (by kernel_rfl)) (rv := impl_TopGet_rv) (by kernel_rfl) (impl_TopGet_run fuel)
theorem impl_TopGet_ok (fuel : Nat) : EntryOK Try.prog 31 (impl_TopGet_tf fuel).te := EntryOK.tf rfl (impl_TopGet_spec fuel) (isFn (fn := Try.f31) (by kernel_rfl) (by kernel_rfl) (by kernel_rfl))

/-! ### impl_FewMark -/
def impl_FewMark_T (fuel : Nat) : Tab := Tab.of [(71, (impl_isThing_tf fuel).te)] []
abbrev impl_FewMark_ps : List Pm := [{ cs := [(Kd.int IntKind.i64, false)], ag := false }]
abbrev impl_FewMark_rs : List Pm := [{ cs := [(Kd.int IntKind.i64, false)], ag := false }]
def impl_FewMark_ann : List Norm := []
noncomputable def impl_FewMark_c : C := irOf Try.prog Try.f74 [] impl_FewMark_ann []
theorem impl_FewMark_l : lightC Try.prog [] Try.f74.ntmps impl_FewMark_ann [] 0 (bodyOf Try.f74) = some (impl_FewMark_c, 0) := by kernel_rfl
def impl_FewMark_rv : List (Nat × Option (Nat × Bool)) := [(2, none)]
def impl_FewMark_pre (fuel : Nat) (x0 : Int) : Option ((Int × Unit) × Unit) :=
 Option.bind (impl_isThing_fn fuel ((x0, ()), ())) fun y_1 =>
 cond (!y_1.fst.fst)
  (some ((((-1 : Int), ()), ())))
  (some (((Int.tmod (w64 (w64 ((37 : Int) * x0) + (11 : Int))) (64 : Int), ()), ())))
def impl_FewMark_fn (fuel : Nat) (x : ((Int × Unit) × Unit)) : Option ((Int × Unit) × Unit) := impl_FewMark_pre fuel x.1.1
theorem impl_FewMark_run (fuel : Nat) (x : PsT impl_FewMark_ps) : run (impl_FewMark_T fuel) 0 fuel impl_FewMark_c (env0 (svPs impl_FewMark_ps x) 0) [] (endF impl_FewMark_rv impl_FewMark_rs) = impl_FewMark_fn fuel x := by kernel_rfl
def impl_FewMark_tf (fuel : Nat) : TF := ⟨impl_FewMark_ps, impl_FewMark_rs, true, impl_FewMark_fn fuel⟩
theorem impl_FewMark_spec (fuel : Nat) : FnSpec Try.prog 74 (impl_FewMark_tf fuel) :=
  fn_spec (T := impl_FewMark_T fuel) (c := bodyOf Try.f74) (fn := Try.f74) (TabOK.of (entCons (impl_isThing_ok fuel) entNil) (methNil)) mixed (by kernel_rfl) (by kernel_rfl) impl_FewMark_l (by kernel_rfl) (Nat.le_of_ble_eq_true (by kernel_rfl)) (rv := impl_FewMark_rv) (by kernel_rfl) (impl_FewMark_run fuel)
theorem impl_FewMark_ok (fuel : Nat) : EntryOK Try.prog 74 (impl_FewMark_tf fuel).te := EntryOK.tf rfl (impl_FewMark_spec fuel) (isFn (fn := Try.f74) (by kernel_rfl) (by kernel_rfl) (by kernel_rfl))

/-! ### impl_FewHas -/
def impl_FewHas_T (fuel : Nat) : Tab := Tab.of [(25, (impl_FewOk_tf fuel).te), (71, (impl_isThing_tf fuel).te), (74, (impl_FewMark_tf fuel).te)] []
abbrev impl_FewHas_ps : List Pm := [{ cs := [(Kd.list (Kd.int IntKind.i64), false)], ag := true }, { cs := [(Kd.int IntKind.i64, false)], ag := false }]
abbrev impl_FewHas_rs : List Pm := [{ cs := [(Kd.bool, false)], ag := false }, { cs := [(Kd.bool, false)], ag := false }]
def impl_FewHas_ann : List Norm := [{ live := [22, 21, 20, 6, 2], fix := [] }]
noncomputable def impl_FewHas_c : C := irOf Try.prog Try.f32 [] impl_FewHas_ann []
theorem impl_FewHas_l : lightC Try.prog [] Try.f32.ntmps impl_FewHas_ann [] 0 (bodyOf Try.f32) = some (impl_FewHas_c, 1) := by kernel_rfl
def impl_FewHas_rv : List (Nat × Option (Nat × Bool)) := [(4, none), (5, none)]
abbrev impl_FewHas_V0 := (Int) × (Int) × (List Int) × (Int) × (List Int)
def impl_FewHas_enc0 (v : impl_FewHas_V0) : Env × Heap := ([(22, SV.int IntKind.i64 v.1), (21, SV.int IntKind.i64 v.2.1), (20, SV.es (Kd.int IntKind.i64) v.2.2.1), (6, SV.int IntKind.i64 v.2.2.2.1), (2, SV.ptr 0 0)], [Blk.cells [SV.es (Kd.int IntKind.i64) v.2.2.2.2] 0 1])
def impl_FewHas_step0 (fuel : Nat) (g0 : impl_FewHas_V0 → Option ((Bool × Unit) × ((Bool × Unit) × Unit))) (v : impl_FewHas_V0) : Option ((Bool × Unit) × ((Bool × Unit) × Unit)) :=
 cond (decide (v.1 < v.2.1))
 (tst (decide (0 ≤ v.1)) <|
  tst (decide (v.1 < (zz (List.length v.2.2.1)))) <|
  cond (List.getD v.2.2.1 (Int.toNat v.1) 0 == v.2.2.2.1)
  (some (((true, ()), (true, ()), ())))
  (g0 (w64 (v.1 + (1 : Int)), v.2.1, v.2.2.1, v.2.2.2.1, v.2.2.2.2)))
 (cond (decide ((zz (List.length v.2.2.2.2)) < (6 : Int)))
  (some (((false, ()), (true, ()), ())))
  (tst (decide ((5 : Int) < (zz (List.length v.2.2.2.2)))) <|
   some (((false, ()), (decide (v.2.2.2.1 < List.getD v.2.2.2.2 (Int.toNat (5 : Int)) 0), ()), ()))))
def impl_FewHas_st0 (fuel : Nat) (g0 : impl_FewHas_V0 → Option ((Bool × Unit) × ((Bool × Unit) × Unit))) : impl_FewHas_V0 → Option ((Bool × Unit) × ((Bool × Unit) × Unit)) := impl_FewHas_step0 fuel g0
theorem impl_FewHas_lp0 (fuel : Nat) (G) : impl_FewHas_c.lp (impl_FewHas_T fuel) 0 fuel G (endF impl_FewHas_rv impl_FewHas_rs) 0 impl_FewHas_enc0 = iter (impl_FewHas_st0 fuel) fuel := C.lp_iter fun g v => by kernel_rfl
def impl_FewHas_pre (fuel : Nat) (X0 : impl_FewHas_V0 → Option ((Bool × Unit) × ((Bool × Unit) × Unit))) (x0 : List Int) (x1 : Int) : Option ((Bool × Unit) × ((Bool × Unit) × Unit)) :=
 Option.bind (impl_FewOk_fn fuel ((x0, ()), ())) fun y_1 =>
 cond (!y_1.fst.fst)
  (some (((false, ()), (false, ()), ())))
  (Option.bind (impl_isThing_fn fuel ((x1, ()), ())) fun y_3 =>
   cond (!y_3.fst.fst)
    (some (((false, ()), (false, ()), ())))
    (Option.bind (impl_FewMark_fn fuel ((x1, ()), ())) fun y_5 =>
     X0 ((0 : Int), (zz (List.length x0)), x0, y_5.fst.fst, x0)))
def impl_FewHas_fn (fuel : Nat) (x : (((List Int) × Unit) × ((Int × Unit) × Unit))) : Option ((Bool × Unit) × ((Bool × Unit) × Unit)) := impl_FewHas_pre fuel (iter (impl_FewHas_st0 fuel) fuel) x.1.1 x.2.1.1
theorem impl_FewHas_run (fuel : Nat) (x : PsT impl_FewHas_ps) : run (impl_FewHas_T fuel) 0 fuel impl_FewHas_c (env0 (svPs impl_FewHas_ps x) 0) [] (endF impl_FewHas_rv impl_FewHas_rs) = impl_FewHas_fn fuel x :=
  (show run (impl_FewHas_T fuel) 0 fuel impl_FewHas_c (env0 (svPs impl_FewHas_ps x) 0) [] (endF impl_FewHas_rv impl_FewHas_rs) = impl_FewHas_pre fuel (impl_FewHas_c.lp (impl_FewHas_T fuel) 0 fuel (fun _ _ _ => none) (endF impl_FewHas_rv impl_FewHas_rs) 0 impl_FewHas_enc0) x.1.1 x.2.1.1 by kernel_rfl).trans (by rw [impl_FewHas_lp0]; rfl)
def impl_FewHas_tf (fuel : Nat) : TF := ⟨impl_FewHas_ps, impl_FewHas_rs, true, impl_FewHas_fn fuel⟩
theorem impl_FewHas_spec (fuel : Nat) : FnSpec Try.prog 32 (impl_FewHas_tf fuel) :=
  fn_spec (T := impl_FewHas_T fuel) (c := bodyOf Try.f32) (fn := Try.f32) (TabOK.of (entCons (impl_FewOk_ok fuel) (entCons (impl_isThing_ok fuel) (entCons (impl_FewMark_ok fuel) entNil))) (methNil)) mixed (by kernel_rfl) (by kernel_rfl) impl_FewHas_l (by kernel_rfl) (Nat.le_of_ble_eq_true (by kernel_rfl)) (rv := impl_FewHas_rv) (by kernel_rfl) (impl_FewHas_run fuel)
theorem impl_FewHas_ok (fuel : Nat) : EntryOK Try.prog 32 (impl_FewHas_tf fuel).te := EntryOK.tf rfl (impl_FewHas_spec fuel) (isFn (fn := Try.f32) (by kernel_rfl) (by kernel_rfl) (by kernel_rfl))

/-! ### impl_RoughPlace -/
def impl_RoughPlace_T (fuel : Nat) : Tab := Tab.of [(71, (impl_isThing_tf fuel).te)] []
abbrev impl_RoughPlace_ps : List Pm := [{ cs := [(Kd.int IntKind.i64, false)], ag := false }, { cs := [(Kd.int IntKind.i64, false)], ag := false }]
abbrev impl_RoughPlace_rs : List Pm := [{ cs := [(Kd.int IntKind.i64, false)], ag := false }]
def impl_RoughPlace_ann : List Norm := []
noncomputable def impl_RoughPlace_c : C := irOf Try.prog Try.f104 [] impl_RoughPlace_ann []
theorem impl_RoughPlace_l : lightC Try.prog [] Try.f104.ntmps impl_RoughPlace_ann [] 0 (bodyOf Try.f104) = some (impl_RoughPlace_c, 0) := by kernel_rfl
def impl_RoughPlace_rv : List (Nat × Option (Nat × Bool)) := [(4, none)]
def impl_RoughPlace_pre (fuel : Nat) (x0 : Int) (x1 : Int) : Option ((Int × Unit) × Unit) :=
 Option.bind (impl_isThing_fn fuel ((x1, ()), ())) fun y_1 =>
 cond (!y_1.fst.fst)
  (some ((((-1 : Int), ()), ())))
  (cond (x0 == (0 : Int))
   (some (((Int.tmod (w64 (w64 ((3 : Int) * x1) + w64 (Int.tdiv x1 (8 : Int)))) (8 : Int), ()), ())))
   (cond (x0 == (1 : Int))
    (some (((Int.tmod (w64 (w64 (w64 ((5 : Int) * x1) + w64 (Int.tdiv x1 (16 : Int))) + (1 : Int))) (8 : Int), ()), ())))
    (cond (x0 == (2 : Int))
     (some (((Int.tmod (w64 (w64 (x1 + w64 (Int.tdiv x1 (4 : Int))) + (2 : Int))) (8 : Int), ()), ())))
     (some ((((-1 : Int), ()), ()))))))
def impl_RoughPlace_fn (fuel : Nat) (x : ((Int × Unit) × ((Int × Unit) × Unit))) : Option ((Int × Unit) × Unit) := impl_RoughPlace_pre fuel x.1.1 x.2.1.1
theorem impl_RoughPlace_run (fuel : Nat) (x : PsT impl_RoughPlace_ps) : run (impl_RoughPlace_T fuel) 0 fuel impl_RoughPlace_c (env0 (svPs impl_RoughPlace_ps x) 0) [] (endF impl_RoughPlace_rv impl_RoughPlace_rs) = impl_RoughPlace_fn fuel x := by kernel_rfl
def impl_RoughPlace_tf (fuel : Nat) : TF := ⟨impl_RoughPlace_ps, impl_RoughPlace_rs, true, impl_RoughPlace_fn fuel⟩
theorem impl_RoughPlace_spec (fuel : Nat) : FnSpec Try.prog 104 (impl_RoughPlace_tf fuel) :=
  fn_spec (T := impl_RoughPlace_T fuel) (c := bodyOf Try.f104) (fn := Try.f104) (TabOK.of (entCons (impl_isThing_ok fuel) entNil) (methNil)) mixed (by kernel_rfl) (by kernel_rfl) impl_RoughPlace_l (by kernel_rfl) (Nat.le_of_ble_eq_true (by kernel_rfl)) (rv := impl_RoughPlace_rv) (by kernel_rfl) (impl_RoughPlace_run fuel)
theorem impl_RoughPlace_ok (fuel : Nat) : EntryOK Try.prog 104 (impl_RoughPlace_tf fuel).te := EntryOK.tf rfl (impl_RoughPlace_spec fuel) (isFn (fn := Try.f104) (by kernel_rfl) (by kernel_rfl) (by kernel_rfl))

/-! ### impl_RoughGet -/
def impl_RoughGet_T (fuel : Nat) : Tab := Tab.of [(24, (impl_RoughOk_tf fuel).te), (71, (impl_isThing_tf fuel).te), (104, (impl_RoughPlace_tf fuel).te)] []
abbrev impl_RoughGet_ps : List Pm := [{ cs := [(Kd.list (Kd.list (Kd.int IntKind.i64)), false)], ag := true }, { cs := [(Kd.int IntKind.i64, false)], ag := false }]
abbrev impl_RoughGet_rs : List Pm := [{ cs := [(Kd.int IntKind.i64, false)], ag := false }]
def impl_RoughGet_ann : List Norm := [{ live := [19, 18, 17, 5, 1], fix := [] }]
noncomputable def impl_RoughGet_c : C := irOf Try.prog Try.f72 [] impl_RoughGet_ann []
theorem impl_RoughGet_l : lightC Try.prog [] Try.f72.ntmps impl_RoughGet_ann [] 0 (bodyOf Try.f72) = some (impl_RoughGet_c, 1) := by kernel_rfl
def impl_RoughGet_rv : List (Nat × Option (Nat × Bool)) := [(4, none)]
abbrev impl_RoughGet_V0 := (Int) × (Int) × (List (List Int)) × (Int) × (Int)
def impl_RoughGet_enc0 (v : impl_RoughGet_V0) : Env × Heap := ([(19, SV.int IntKind.i64 v.1), (18, SV.int IntKind.i64 v.2.1), (17, SV.es (Kd.list (Kd.int IntKind.i64)) v.2.2.1), (5, SV.int IntKind.i64 v.2.2.2.1), (1, SV.int IntKind.i64 v.2.2.2.2)], [])
def impl_RoughGet_step0 (fuel : Nat) (g0 : impl_RoughGet_V0 → Option ((Int × Unit) × Unit)) (v : impl_RoughGet_V0) : Option ((Int × Unit) × Unit) :=
 cond (decide (v.1 < v.2.1))
 (tst (decide (0 ≤ v.1)) <|
  tst (decide (v.1 < (zz (List.length v.2.2.1)))) <|
  Option.bind (impl_RoughPlace_fn fuel ((v.1, ()), (v.2.2.2.2, ()), ())) fun y_2 =>
  tst (decide (0 ≤ y_2.fst.fst)) <|
   tst (decide (y_2.fst.fst < (zz (List.length (List.getD v.2.2.1 (Int.toNat v.1) []))))) <|
   g0 (w64 (v.1 + (1 : Int)), v.2.1, v.2.2.1, if List.getD (List.getD v.2.2.1 (Int.toNat v.1) []) (Int.toNat y_2.fst.fst) 0 < v.2.2.2.1 then List.getD (List.getD v.2.2.1 (Int.toNat v.1) []) (Int.toNat y_2.fst.fst) 0 else v.2.2.2.1, v.2.2.2.2))
 (some (((v.2.2.2.1, ()), ())))
def impl_RoughGet_st0 (fuel : Nat) (g0 : impl_RoughGet_V0 → Option ((Int × Unit) × Unit)) : impl_RoughGet_V0 → Option ((Int × Unit) × Unit) := impl_RoughGet_step0 fuel g0
theorem impl_RoughGet_lp0 (fuel : Nat) (G) : impl_RoughGet_c.lp (impl_RoughGet_T fuel) 0 fuel G (endF impl_RoughGet_rv impl_RoughGet_rs) 0 impl_RoughGet_enc0 = iter (impl_RoughGet_st0 fuel) fuel := C.lp_iter fun g v => by kernel_rfl
def impl_RoughGet_pre (fuel : Nat) (X0 : impl_RoughGet_V0 → Option ((Int × Unit) × Unit)) (x0 : List (List Int)) (x1 : Int) : Option ((Int × Unit) × Unit) :=
 Option.bind (impl_RoughOk_fn fuel ((x0, ()), ())) fun y_1 =>
 cond (!y_1.fst.fst)
  (some ((((-1 : Int), ()), ())))
  (Option.bind (impl_isThing_fn fuel ((x1, ()), ())) fun y_3 =>
   cond (!y_3.fst.fst)
    (some ((((-1 : Int), ()), ())))
    (X0 ((0 : Int), (zz (List.length x0)), x0, (2000 : Int), x1)))
def impl_RoughGet_fn (fuel : Nat) (x : (((List (List Int)) × Unit) × ((Int × Unit) × Unit))) : Option ((Int × Unit) × Unit) := impl_RoughGet_pre fuel (iter (impl_RoughGet_st0 fuel) fuel) x.1.1 x.2.1.1
theorem impl_RoughGet_run (fuel : Nat) (x : PsT impl_RoughGet_ps) : run (impl_RoughGet_T fuel) 0 fuel impl_RoughGet_c (env0 (svPs impl_RoughGet_ps x) 0) [] (endF impl_RoughGet_rv impl_RoughGet_rs) = impl_RoughGet_fn fuel x :=
  (show run (impl_RoughGet_T fuel) 0 fuel impl_RoughGet_c (env0 (svPs impl_RoughGet_ps x) 0) [] (endF impl_RoughGet_rv impl_RoughGet_rs) = impl_RoughGet_pre fuel (impl_RoughGet_c.lp (impl_RoughGet_T fuel) 0 fuel (fun _ _ _ => none) (endF impl_RoughGet_rv impl_RoughGet_rs) 0 impl_RoughGet_enc0) x.1.1 x.2.1.1 by kernel_rfl).trans (by rw [impl_RoughGet_lp0]; rfl)
def impl_RoughGet_tf (fuel : Nat) : TF := ⟨impl_RoughGet_ps, impl_RoughGet_rs, true, impl_RoughGet_fn fuel⟩
theorem impl_RoughGet_spec (fuel : Nat) : FnSpec Try.prog 72 (impl_RoughGet_tf fuel) :=
  fn_spec (T := impl_RoughGet_T fuel) (c := bodyOf Try.f72) (fn := Try.f72) (TabOK.of (entCons (impl_RoughOk_ok fuel) (entCons (impl_isThing_ok fuel) (entCons (impl_RoughPlace_ok fuel) entNil))) (methNil)) mixed (by kernel_rfl) (by kernel_rfl) impl_RoughGet_l (by kernel_rfl) (Nat.le_of_ble_eq_true (by kernel_rfl)) (rv := impl_RoughGet_rv) (by kernel_rfl) (impl_RoughGet_run fuel)
theorem impl_RoughGet_ok (fuel : Nat) : EntryOK Try.prog 72 (impl_RoughGet_tf fuel).te := EntryOK.tf rfl (impl_RoughGet_spec fuel) (isFn (fn := Try.f72) (by kernel_rfl) (by kernel_rfl) (by kernel_rfl))

/-! ### impl_SumGet -/
def impl_SumGet_T (fuel : Nat) : Tab := Tab.of [(18, (impl_SumOk_tf fuel).te), (31, (impl_TopGet_tf fuel).te), (32, (impl_FewHas_tf fuel).te), (71, (impl_isThing_tf fuel).te), (72, (impl_RoughGet_tf fuel).te)] []
abbrev impl_SumGet_ps : List Pm := [{ cs := [(Kd.list (Kd.list (Kd.int IntKind.i64)), false), (Kd.list (Kd.int IntKind.i64), false), (Kd.list (Kd.pair (Kd.int IntKind.i64) (Kd.pair (Kd.int IntKind.i64) Kd.unit)), false), (Kd.int IntKind.i64, false), (Kd.int IntKind.i64, false), (Kd.list (Kd.pair (Kd.int IntKind.i64) (Kd.pair (Kd.int IntKind.i64) Kd.unit)), false), (Kd.int IntKind.i64, false)], ag := true }, { cs := [(Kd.int IntKind.i64, false)], ag := false }]
abbrev impl_SumGet_rs : List Pm := [{ cs := [(Kd.int IntKind.i64, false)], ag := false }, { cs := [(Kd.int IntKind.i64, false)], ag := false }]
def impl_SumGet_ann : List Norm := []
noncomputable def impl_SumGet_c : C := irOf Try.prog Try.f29 [] impl_SumGet_ann []
theorem impl_SumGet_l : lightC Try.prog [] Try.f29.ntmps impl_SumGet_ann [] 0 (bodyOf Try.f29) = some (impl_SumGet_c, 0) := by kernel_rfl
def impl_SumGet_rv : List (Nat × Option (Nat × Bool)) := [(4, none), (5, none)]
def impl_SumGet_pre (fuel : Nat) (x0 : List (List Int)) (x1 : List Int) (x2 : List (Int × Int × Unit)) (x3 : Int) (x4 : Int) (x5 : List (Int × Int × Unit)) (x6 : Int) (x7 : Int) : Option ((Int × Unit) × ((Int × Unit) × Unit)) :=
 Option.bind (impl_SumOk_fn fuel ((x0, x1, x2, x3, x4, x5, x6, ()), ())) fun y_1 =>
 cond (!y_1.fst.fst)
  (some ((((-1 : Int), ()), ((-1 : Int), ()), ())))
  (Option.bind (impl_isThing_fn fuel ((x7, ()), ())) fun y_3 =>
   cond (!y_3.fst.fst)
    (some ((((-1 : Int), ()), ((-1 : Int), ()), ())))
    (Option.bind (impl_FewHas_fn fuel ((x1, ()), (x7, ()), ())) fun y_5 =>
     cond (y_5.snd.fst.fst)
      (cond (!y_5.fst.fst)
       (some ((((0 : Int), ()), ((0 : Int), ()), ())))
       (Option.bind (impl_TopGet_fn fuel ((x2, x3, x4, ()), (x7, ()), ())) fun y_8 =>
        cond (y_5.snd.fst.fst)
         (cond (y_5.fst.fst)
          (Option.bind (impl_RoughGet_fn fuel ((x0, ()), (x7, ()), ())) fun y_11 =>
           some (((if (1 : Int) > y_8.fst.fst then (1 : Int) else y_8.fst.fst, ()), (if y_11.fst.fst < y_8.snd.fst.fst then y_11.fst.fst else y_8.snd.fst.fst, ()), ())))
          (Option.bind (impl_RoughGet_fn fuel ((x0, ()), (x7, ()), ())) fun y_11 =>
           some (((y_8.fst.fst, ()), (if y_11.fst.fst < y_8.snd.fst.fst then y_11.fst.fst else y_8.snd.fst.fst, ()), ()))))
         (Option.bind (impl_RoughGet_fn fuel ((x0, ()), (x7, ()), ())) fun y_10 =>
          some (((y_8.fst.fst, ()), (if y_10.fst.fst < y_8.snd.fst.fst then y_10.fst.fst else y_8.snd.fst.fst, ()), ())))))
      (Option.bind (impl_TopGet_fn fuel ((x2, x3, x4, ()), (x7, ()), ())) fun y_7 =>
       cond (y_5.snd.fst.fst)
        (cond (y_5.fst.fst)
         (Option.bind (impl_RoughGet_fn fuel ((x0, ()), (x7, ()), ())) fun y_10 =>
          some (((if (1 : Int) > y_7.fst.fst then (1 : Int) else y_7.fst.fst, ()), (if y_10.fst.fst < y_7.snd.fst.fst then y_10.fst.fst else y_7.snd.fst.fst, ()), ())))
         (Option.bind (impl_RoughGet_fn fuel ((x0, ()), (x7, ()), ())) fun y_10 =>
          some (((y_7.fst.fst, ()), (if y_10.fst.fst < y_7.snd.fst.fst then y_10.fst.fst else y_7.snd.fst.fst, ()), ()))))
        (Option.bind (impl_RoughGet_fn fuel ((x0, ()), (x7, ()), ())) fun y_9 =>
         some (((y_7.fst.fst, ()), (if y_9.fst.fst < y_7.snd.fst.fst then y_9.fst.fst else y_7.snd.fst.fst, ()), ()))))))
def impl_SumGet_fn (fuel : Nat) (x : (((List (List Int)) × ((List Int) × ((List (Int × (Int × Unit))) × (Int × (Int × ((List (Int × (Int × Unit))) × (Int × Unit))))))) × ((Int × Unit) × Unit))) : Option ((Int × Unit) × ((Int × Unit) × Unit)) := impl_SumGet_pre fuel x.1.1 x.1.2.1 x.1.2.2.1 x.1.2.2.2.1 x.1.2.2.2.2.1 x.1.2.2.2.2.2.1 x.1.2.2.2.2.2.2.1 x.2.1.1
theorem impl_SumGet_run (fuel : Nat) (x : PsT impl_SumGet_ps) : run (impl_SumGet_T fuel) 0 fuel impl_SumGet_c (env0 (svPs impl_SumGet_ps x) 0) [] (endF impl_SumGet_rv impl_SumGet_rs) = impl_SumGet_fn fuel x := by kernel_rfl
def impl_SumGet_tf (fuel : Nat) : TF := ⟨impl_SumGet_ps, impl_SumGet_rs, true, impl_SumGet_fn fuel⟩
theorem impl_SumGet_spec (fuel : Nat) : FnSpec Try.prog 29 (impl_SumGet_tf fuel) :=
  fn_spec (T := impl_SumGet_T fuel) (c := bodyOf Try.f29) (fn := Try.f29) (TabOK.of (entCons (impl_SumOk_ok fuel) (entCons (impl_TopGet_ok fuel) (entCons (impl_FewHas_ok fuel) (entCons (impl_isThing_ok fuel) (entCons (impl_RoughGet_ok fuel) entNil))))) (methNil)) mixed (by kernel_rfl) (by kernel_rfl) impl_SumGet_l (by kernel_rfl) (Nat.le_of_ble_eq_true (by kernel_rfl)) (rv := impl_SumGet_rv) (by kernel_rfl) (impl_SumGet_run fuel)
theorem impl_SumGet_ok (fuel : Nat) : EntryOK Try.prog 29 (impl_SumGet_tf fuel).te := EntryOK.tf rfl (impl_SumGet_spec fuel) (isFn (fn := Try.f29) (by kernel_rfl) (by kernel_rfl) (by kernel_rfl))

/-! ### laws_FnExactSumGet -/
def laws_FnExactSumGet_T (fuel : Nat) : Tab := Tab.of [(12, (laws_eqSum_tf fuel).te), (15, (laws_szSum_tf fuel).te), (17, (laws_toSum_tf fuel).te), (28, (spec_SumGet_tf fuel).te), (29, (impl_SumGet_tf fuel).te)] []
abbrev laws_FnExactSumGet_ps : List Pm := [{ cs := [(Kd.list (Kd.list (Kd.int IntKind.i64)), false), (Kd.list (Kd.int IntKind.i64), false), (Kd.list (Kd.pair (Kd.int IntKind.i64) (Kd.pair (Kd.int IntKind.i64) Kd.unit)), false), (Kd.int IntKind.i64, false), (Kd.int IntKind.i64, false), (Kd.list (Kd.pair (Kd.int IntKind.i64) (Kd.pair (Kd.int IntKind.i64) Kd.unit)), false), (Kd.int IntKind.i64, false)], ag := true }, { cs := [(Kd.int IntKind.i64, false)], ag := false }]
abbrev laws_FnExactSumGet_rs : List Pm := [{ cs := [(Kd.bool, false)], ag := false }]
def laws_FnExactSumGet_ann : List Norm := []
noncomputable def laws_FnExactSumGet_c : C := irOf Try.prog Try.f8 [] laws_FnExactSumGet_ann []
theorem laws_FnExactSumGet_l : lightC Try.prog [] Try.f8.ntmps laws_FnExactSumGet_ann [] 0 (bodyOf Try.f8) = some (laws_FnExactSumGet_c, 0) := by kernel_rfl
def laws_FnExactSumGet_rv : List (Nat × Option (Nat × Bool)) := [(4, none)]
def laws_FnExactSumGet_pre (fuel : Nat) (x0 : List (List Int)) (x1 : List Int) (x2 : List (Int × Int × Unit)) (x3 : Int) (x4 : Int) (x5 : List (Int × Int × Unit)) (x6 : Int) (x7 : Int) : Option ((Bool × Unit) × Unit) :=
 Option.bind (laws_szSum_fn fuel ((x0, x1, x2, x3, x4, x5, x6, ()), ((1048576 : Int), ()), ())) fun y_1 =>
 cond (decide (y_1.fst.fst < (0 : Int)))
  (some (((true, ()), ())))
  (Option.bind (laws_toSum_fn fuel ((x0, x1, x2, x3, x4, x5, x6, ()), ())) fun y_3 =>
   Option.bind (spec_SumGet_fn fuel ((y_3.fst.fst, y_3.fst.snd.fst, y_3.fst.snd.snd.fst, y_3.fst.snd.snd.snd.fst, y_3.fst.snd.snd.snd.snd.fst, y_3.fst.snd.snd.snd.snd.snd.fst, y_3.fst.snd.snd.snd.snd.snd.snd.fst, ()), (x7, ()), ())) fun y_4 =>
    Option.bind (laws_toSum_fn fuel ((x0, x1, x2, x3, x4, x5, x6, ()), ())) fun y_5 =>
     Option.bind (impl_SumGet_fn fuel ((y_5.fst.fst, y_5.fst.snd.fst, y_5.fst.snd.snd.fst, y_5.fst.snd.snd.snd.fst, y_5.fst.snd.snd.snd.snd.fst, y_5.fst.snd.snd.snd.snd.snd.fst, y_5.fst.snd.snd.snd.snd.snd.snd.fst, ()), (x7, ()), ())) fun y_6 =>
      cond (y_6.fst.fst != y_4.fst.fst)
       (some (((false, ()), ())))
       (cond (y_6.snd.fst.fst != y_4.snd.fst.fst)
        (some (((false, ()), ())))
        (Option.bind (laws_toSum_fn fuel ((x0, x1, x2, x3, x4, x5, x6, ()), ())) fun y_9 =>
         Option.bind (laws_eqSum_fn fuel ((y_5.fst.fst, y_5.fst.snd.fst, y_5.fst.snd.snd.fst, y_5.fst.snd.snd.snd.fst, y_5.fst.snd.snd.snd.snd.fst, y_5.fst.snd.snd.snd.snd.snd.fst, y_5.fst.snd.snd.snd.snd.snd.snd.fst, ()), (y_9.fst.fst, y_9.fst.snd.fst, y_9.fst.snd.snd.fst, y_9.fst.snd.snd.snd.fst, y_9.fst.snd.snd.snd.snd.fst, y_9.fst.snd.snd.snd.snd.snd.fst, y_9.fst.snd.snd.snd.snd.snd.snd.fst, ()), ())) fun y_10 =>
          cond (!y_10.fst.fst)
           (some (((false, ()), ())))
           (some (((true, ()), ()))))))
def laws_FnExactSumGet_fn (fuel : Nat) (x : (((List (List Int)) × ((List Int) × ((List (Int × (Int × Unit))) × (Int × (Int × ((List (Int × (Int × Unit))) × (Int × Unit))))))) × ((Int × Unit) × Unit))) : Option ((Bool × Unit) × Unit) := laws_FnExactSumGet_pre fuel x.1.1 x.1.2.1 x.1.2.2.1 x.1.2.2.2.1 x.1.2.2.2.2.1 x.1.2.2.2.2.2.1 x.1.2.2.2.2.2.2.1 x.2.1.1
theorem laws_FnExactSumGet_run (fuel : Nat) (x : PsT laws_FnExactSumGet_ps) : run (laws_FnExactSumGet_T fuel) 0 fuel laws_FnExactSumGet_c (env0 (svPs laws_FnExactSumGet_ps x) 0) [] (endF laws_FnExactSumGet_rv laws_FnExactSumGet_rs) = laws_FnExactSumGet_fn fuel x := by kernel_rfl
def laws_FnExactSumGet_tf (fuel : Nat) : TF := ⟨laws_FnExactSumGet_ps, laws_FnExactSumGet_rs, true, laws_FnExactSumGet_fn fuel⟩
theorem laws_FnExactSumGet_spec (fuel : Nat) : FnSpec Try.prog 8 (laws_FnExactSumGet_tf fuel) :=
  fn_spec (T := laws_FnExactSumGet_T fuel) (c := bodyOf Try.f8) (fn := Try.f8) (TabOK.of (entCons (laws_eqSum_ok fuel) (entCons (laws_szSum_ok fuel) (entCons (laws_toSum_ok fuel) (entCons (spec_SumGet_ok fuel) (entCons (impl_SumGet_ok fuel) entNil))))) (methNil)) mixed (by kernel_rfl) (by kernel_rfl) laws_FnExactSumGet_l (by kernel_rfl) (Nat.le_of_ble_eq_true (by kernel_rfl)) (rv := laws_FnExactSumGet_rv) (by kernel_rfl) (laws_FnExactSumGet_run fuel)
theorem laws_FnExactSumGet_ok (fuel : Nat) : EntryOK Try.prog 8 (laws_FnExactSumGet_tf fuel).te := EntryOK.tf rfl (laws_FnExactSumGet_spec fuel) (isFn (fn := Try.f8) (by kernel_rfl) (by kernel_rfl) (by kernel_rfl))

end Go.Proofs.Ytjnkefbdpcbkmaa.Den
