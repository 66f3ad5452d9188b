/- Readings of functions of the sums, as functions on plain data (2). -/
import Derived.Test.YtjnkefbdpcbkmaaCS1
namespace Go.Proofs.Ytjnkefbdpcbkmaa.Den
open Go Go.RowKit
set_option linter.unusedVariables false
set_option linter.unusedSimpArgs false

/-! ### spec_TopOk -/
def spec_TopOk_T (fuel : Nat) : Tab := Tab.of [(67, (spec_l6In_tf fuel).te), (92, (spec_l3All_tf fuel).te)] []
abbrev spec_TopOk_ps : List Pm := [{ cs := [(Kd.list (Kd.pair (Kd.int IntKind.i64) (Kd.pair (Kd.int IntKind.i64) Kd.unit)), false), (Kd.int IntKind.i64, false), (Kd.int IntKind.i64, false)], ag := true }]
abbrev spec_TopOk_rs : List Pm := [{ cs := [(Kd.bool, false)], ag := false }]
def spec_TopOk_ann : List Norm := [{ live := [3, 1], fix := [] }]
noncomputable def spec_TopOk_c : C := irOf Try.prog Try.f53 [68, 72] spec_TopOk_ann []
theorem spec_TopOk_l : lightC Try.prog [68, 72] Try.f53.ntmps spec_TopOk_ann [] 0 (bodyOf Try.f53) = some (spec_TopOk_c, 1) := by kernel_rfl
def spec_TopOk_rv : List (Nat × Option (Nat × Bool)) := [(2, none)]
abbrev spec_TopOk_V0 := (Int) × (List (Int × Int × Unit)) × (Int) × (Int)
def spec_TopOk_enc0 (v : spec_TopOk_V0) : Env × Heap := ([(3, SV.int IntKind.i64 v.1), (1, SV.ptr 0 0)], [Blk.cells [SV.es (Kd.pair (Kd.int IntKind.i64) (Kd.pair (Kd.int IntKind.i64) Kd.unit)) v.2.1, SV.int IntKind.i64 v.2.2.1, SV.int IntKind.i64 v.2.2.2] 0 3])
def spec_TopOk_step0 (fuel : Nat) (g0 : spec_TopOk_V0 → Option ((Bool × Unit) × Unit)) (v : spec_TopOk_V0) : Option ((Bool × Unit) × Unit) :=
 cond (decide (v.1 < (zz (List.length v.2.1))))
 (tst (decide (0 ≤ v.1)) <|
  tst (decide (v.1 < (zz (List.length v.2.1)))) <|
  Option.bind (spec_l6In_fn fuel (((List.getD v.2.1 (Int.toNat v.1) (0, (0, ()))).fst, ()), ((0 : Int), ()), ((63 : Int), ()), ())) fun y_2 =>
  cond (!y_2.fst.fst)
   (some (((false, ()), ())))
   (tst (decide (0 ≤ v.1)) <|
    tst (decide (v.1 < (zz (List.length v.2.1)))) <|
    Option.bind (spec_l6In_fn fuel (((List.getD v.2.1 (Int.toNat v.1) (0, (0, ()))).snd.fst, ()), ((1 : Int), ()), ((2000 : Int), ()), ())) fun y_4 =>
    cond (!y_4.fst.fst)
     (some (((false, ()), ())))
     (cond (decide (v.1 > (0 : Int)))
      (tst (decide (0 ≤ w64 (v.1 - (1 : Int)))) <|
       tst (decide (w64 (v.1 - (1 : Int)) < (zz (List.length v.2.1)))) <|
       tst (decide (0 ≤ v.1)) <|
       tst (decide (v.1 < (zz (List.length v.2.1)))) <|
       cond (decide ((List.getD v.2.1 (Int.toNat (w64 (v.1 - (1 : Int)))) (0, (0, ()))).fst ≥ (List.getD v.2.1 (Int.toNat v.1) (0, (0, ()))).fst))
       (some (((false, ()), ())))
       (g0 (w64 (v.1 + (1 : Int)), v.2.1, v.2.2.1, v.2.2.2)))
      (g0 (w64 (v.1 + (1 : Int)), v.2.1, v.2.2.1, v.2.2.2)))))
 (cond (decide ((zz (List.length v.2.1)) ≤ (4 : Int)))
  (Option.bind (spec_l6In_fn fuel ((v.2.2.2, ()), ((0 : Int), ()), ((2000 : Int), ()), ())) fun y_3 =>
   cond (y_3.fst.fst)
    (Option.bind (spec_l6In_fn fuel ((v.2.2.1, ()), ((0 : Int), ()), ((2000 : Int), ()), ())) fun y_5 =>
     cond (y_5.fst.fst)
      (Option.bind (spec_l3All_fn fuel ((v.2.1, ()), ())) fun y_7 =>
       some (((decide (w64 (y_7.fst.fst + w64 ((5 : Int) * v.2.2.1)) ≤ v.2.2.2), ()), ())))
      (some (((false, ()), ()))))
    (some (((false, ()), ()))))
  (some (((false, ()), ()))))
def spec_TopOk_st0 (fuel : Nat) (g0 : spec_TopOk_V0 → Option ((Bool × Unit) × Unit)) : spec_TopOk_V0 → Option ((Bool × Unit) × Unit) := spec_TopOk_step0 fuel g0
theorem spec_TopOk_lp0 (fuel : Nat) (G) : spec_TopOk_c.lp (spec_TopOk_T fuel) 0 fuel G (endF spec_TopOk_rv spec_TopOk_rs) 0 spec_TopOk_enc0 = iter (spec_TopOk_st0 fuel) fuel := C.lp_iter fun g v => by kernel_rfl
def spec_TopOk_pre (fuel : Nat) (X0 : spec_TopOk_V0 → Option ((Bool × Unit) × Unit)) (x0 : List (Int × Int × Unit)) (x1 : Int) (x2 : Int) : Option ((Bool × Unit) × Unit) :=
 X0 ((0 : Int), x0, x1, x2)
def spec_TopOk_fn (fuel : Nat) (x : (((List (Int × (Int × Unit))) × (Int × (Int × Unit))) × Unit)) : Option ((Bool × Unit) × Unit) := spec_TopOk_pre fuel (iter (spec_TopOk_st0 fuel) fuel) x.1.1 x.1.2.1 x.1.2.2.1
theorem spec_TopOk_run (fuel : Nat) (x : PsT spec_TopOk_ps) : run (spec_TopOk_T fuel) 0 fuel spec_TopOk_c (env0 (svPs spec_TopOk_ps x) 0) [] (endF spec_TopOk_rv spec_TopOk_rs) = spec_TopOk_fn fuel x :=
  (show run (spec_TopOk_T fuel) 0 fuel spec_TopOk_c (env0 (svPs spec_TopOk_ps x) 0) [] (endF spec_TopOk_rv spec_TopOk_rs) = spec_TopOk_pre fuel (spec_TopOk_c.lp (spec_TopOk_T fuel) 0 fuel (fun _ _ _ => none) (endF spec_TopOk_rv spec_TopOk_rs) 0 spec_TopOk_enc0) x.1.1 x.1.2.1 x.1.2.2.1 by kernel_rfl).trans (by rw [spec_TopOk_lp0]; rfl)
def spec_TopOk_tf (fuel : Nat) : TF := ⟨spec_TopOk_ps, spec_TopOk_rs, true, spec_TopOk_fn fuel⟩
theorem spec_TopOk_spec (fuel : Nat) : FnSpec Try.prog 53 (spec_TopOk_tf fuel) :=
  fn_spec (T := spec_TopOk_T fuel) (c := bodyOf Try.f53) (fn := Try.f53) (TabOK.of (entCons (spec_l6In_ok fuel) (entCons (spec_l3All_ok fuel) entNil)) (methNil)) mixed (by kernel_rfl) (by kernel_rfl) spec_TopOk_l (by kernel_rfl) (Nat.le_of_ble_eq_true (by kernel_rfl)) (rv := spec_TopOk_rv) (by kernel_rfl) (spec_TopOk_run fuel)
theorem spec_TopOk_ok (fuel : Nat) : EntryOK Try.prog 53 (spec_TopOk_tf fuel).te := EntryOK.tf rfl (spec_TopOk_spec fuel) (isFn (fn := Try.f53) (by kernel_rfl) (by kernel_rfl) (by kernel_rfl))

/-! ### spec_RoughAll -/
def spec_RoughAll_T (fuel : Nat) : Tab := Tab.of [(51, (spec_RoughOk_tf fuel).te), (91, (spec_l1Sum_tf fuel).te)] []
abbrev spec_RoughAll_ps : List Pm := [{ cs := [(Kd.list (Kd.list (Kd.int IntKind.i64)), false)], ag := true }]
abbrev spec_RoughAll_rs : List Pm := [{ cs := [(Kd.int IntKind.i64, false)], ag := false }]
def spec_RoughAll_ann : List Norm := []
noncomputable def spec_RoughAll_c : C := irOf Try.prog Try.f55 [] spec_RoughAll_ann []
theorem spec_RoughAll_l : lightC Try.prog [] Try.f55.ntmps spec_RoughAll_ann [] 0 (bodyOf Try.f55) = some (spec_RoughAll_c, 0) := by kernel_rfl
def spec_RoughAll_rv : List (Nat × Option (Nat × Bool)) := [(2, none)]
def spec_RoughAll_pre (fuel : Nat) (x0 : List (List Int)) : Option ((Int × Unit) × Unit) :=
 Option.bind (spec_RoughOk_fn fuel ((x0, ()), ())) fun y_1 =>
 cond (!y_1.fst.fst)
  (some ((((-1 : Int), ()), ())))
  (tst (decide ((0 : Int) < (zz (List.length x0)))) <|
   Option.bind (spec_l1Sum_fn fuel ((List.getD x0 (Int.toNat (0 : Int)) [], ()), ())) fun y_3 =>
   some (((y_3.fst.fst, ()), ())))
def spec_RoughAll_fn (fuel : Nat) (x : (((List (List Int)) × Unit) × Unit)) : Option ((Int × Unit) × Unit) := spec_RoughAll_pre fuel x.1.1
theorem spec_RoughAll_run (fuel : Nat) (x : PsT spec_RoughAll_ps) : run (spec_RoughAll_T fuel) 0 fuel spec_RoughAll_c (env0 (svPs spec_RoughAll_ps x) 0) [] (endF spec_RoughAll_rv spec_RoughAll_rs) = spec_RoughAll_fn fuel x := by kernel_rfl
def spec_RoughAll_tf (fuel : Nat) : TF := ⟨spec_RoughAll_ps, spec_RoughAll_rs, true, spec_RoughAll_fn fuel⟩
theorem spec_RoughAll_spec (fuel : Nat) : FnSpec Try.prog 55 (spec_RoughAll_tf fuel) :=
  fn_spec (T := spec_RoughAll_T fuel) (c := bodyOf Try.f55) (fn := Try.f55) (TabOK.of (entCons (spec_RoughOk_ok fuel) (entCons (spec_l1Sum_ok fuel) entNil)) (methNil)) mixed (by kernel_rfl) (by kernel_rfl) spec_RoughAll_l (by kernel_rfl) (Nat.le_of_ble_eq_true (by kernel_rfl)) (rv := spec_RoughAll_rv) (by kernel_rfl) (spec_RoughAll_run fuel)
theorem spec_RoughAll_ok (fuel : Nat) : EntryOK Try.prog 55 (spec_RoughAll_tf fuel).te := EntryOK.tf rfl (spec_RoughAll_spec fuel) (isFn (fn := Try.f55) (by kernel_rfl) (by kernel_rfl) (by kernel_rfl))

/-! ### spec_SumOk -/
def spec_SumOk_T (fuel : Nat) : Tab := Tab.of [(51, (spec_RoughOk_tf fuel).te), (52, (spec_FewOk_tf fuel).te), (53, (spec_TopOk_tf fuel).te), (54, (spec_RankOk_tf fuel).te), (55, (spec_RoughAll_tf fuel).te)] []
abbrev spec_SumOk_ps : List Pm := [{ cs := [(Kd.list (Kd.list (Kd.int IntKind.i64)), false), (Kd.list (Kd.int IntKind.i64), false), (Kd.list (Kd.pair (Kd.int IntKind.i64) (Kd.pair (Kd.int IntKind.i64) Kd.unit)), false), (Kd.int IntKind.i64, false), (Kd.int IntKind.i64, false), (Kd.list (Kd.pair (Kd.int IntKind.i64) (Kd.pair (Kd.int IntKind.i64) Kd.unit)), false), (Kd.int IntKind.i64, false)], ag := true }]
abbrev spec_SumOk_rs : List Pm := [{ cs := [(Kd.bool, false)], ag := false }]
def spec_SumOk_ann : List Norm := []
noncomputable def spec_SumOk_c : C := irOf Try.prog Try.f16 [27] spec_SumOk_ann []
theorem spec_SumOk_l : lightC Try.prog [27] Try.f16.ntmps spec_SumOk_ann [] 0 (bodyOf Try.f16) = some (spec_SumOk_c, 0) := by kernel_rfl
def spec_SumOk_rv : List (Nat × Option (Nat × Bool)) := [(2, none)]
def spec_SumOk_pre (fuel : Nat) (x0 : List (List Int)) (x1 : List Int) (x2 : List (Int × Int × Unit)) (x3 : Int) (x4 : Int) (x5 : List (Int × Int × Unit)) (x6 : Int) : Option ((Bool × Unit) × Unit) :=
 Option.bind (spec_RoughOk_fn fuel ((x0, ()), ())) fun y_1 =>
 cond (y_1.fst.fst)
  (Option.bind (spec_FewOk_fn fuel ((x1, ()), ())) fun y_3 =>
   cond (y_3.fst.fst)
    (Option.bind (spec_TopOk_fn fuel ((x2, x3, x4, ()), ())) fun y_5 =>
     cond (y_5.fst.fst)
      (Option.bind (spec_RankOk_fn fuel ((x5, x6, ()), ())) fun y_7 =>
       cond (y_7.fst.fst)
        (Option.bind (spec_RoughAll_fn fuel ((x0, ()), ())) fun y_9 =>
         cond (y_9.fst.fst == x4)
          (cond (x4 == x6)
           (some (((decide ((zz (List.length x1)) > (0 : Int)) == decide (x4 > (0 : Int)), ()), ())))
           (some (((false, ()), ()))))
          (some (((false, ()), ()))))
        (some (((false, ()), ()))))
      (some (((false, ()), ()))))
    (some (((false, ()), ()))))
  (some (((false, ()), ())))
def spec_SumOk_fn (fuel : Nat) (x : (((List (List Int)) × ((List Int) × ((List (Int × (Int × Unit))) × (Int × (Int × ((List (Int × (Int × Unit))) × (Int × Unit))))))) × Unit)) : Option ((Bool × Unit) × Unit) := spec_SumOk_pre fuel x.1.1 x.1.2.1 x.1.2.2.1 x.1.2.2.2.1 x.1.2.2.2.2.1 x.1.2.2.2.2.2.1 x.1.2.2.2.2.2.2.1
theorem spec_SumOk_run (fuel : Nat) (x : PsT spec_SumOk_ps) : run (spec_SumOk_T fuel) 0 fuel spec_SumOk_c (env0 (svPs spec_SumOk_ps x) 0) [] (endF spec_SumOk_rv spec_SumOk_rs) = spec_SumOk_fn fuel x := by kernel_rfl
def spec_SumOk_tf (fuel : Nat) : TF := ⟨spec_SumOk_ps, spec_SumOk_rs, true, spec_SumOk_fn fuel⟩
theorem spec_SumOk_spec (fuel : Nat) : FnSpec Try.prog 16 (spec_SumOk_tf fuel) :=
  fn_spec (T := spec_SumOk_T fuel) (c := bodyOf Try.f16) (fn := Try.f16) (TabOK.of (entCons (spec_RoughOk_ok fuel) (entCons (spec_FewOk_ok fuel) (entCons (spec_TopOk_ok fuel) (entCons (spec_RankOk_ok fuel) (entCons (spec_RoughAll_ok fuel) entNil))))) (methNil)) mixed (by kernel_rfl) (by kernel_rfl) spec_SumOk_l (by kernel_rfl) (Nat.le_of_ble_eq_true (by kernel_rfl)) (rv := spec_SumOk_rv) (by kernel_rfl) (spec_SumOk_run fuel)
theorem spec_SumOk_ok (fuel : Nat) : EntryOK Try.prog 16 (spec_SumOk_tf fuel).te := EntryOK.tf rfl (spec_SumOk_spec fuel) (isFn (fn := Try.f16) (by kernel_rfl) (by kernel_rfl) (by kernel_rfl))

/-! ### laws_toIntS -/
def laws_toIntS_T (fuel : Nat) : Tab := Tab.of [] []
abbrev laws_toIntS_ps : List Pm := [{ cs := [(Kd.list (Kd.int IntKind.i64), false)], ag := false }]
abbrev laws_toIntS_rs : List Pm := [{ cs := [(Kd.list (Kd.int IntKind.i64), true)], ag := false }]
def laws_toIntS_ann : List Norm := [{ live := [4, 0, 3], fix := [] }]
noncomputable def laws_toIntS_c : C := irOf Try.prog Try.f94 [] laws_toIntS_ann []
theorem laws_toIntS_l : lightC Try.prog [] Try.f94.ntmps laws_toIntS_ann [] 0 (bodyOf Try.f94) = some (laws_toIntS_c, 1) := by kernel_rfl
def laws_toIntS_rv : List (Nat × Option (Nat × Bool)) := [(2, none)]
abbrev laws_toIntS_V0 := (Int) × (List Int) × (List Int)
def laws_toIntS_enc0 (v : laws_toIntS_V0) : Env × Heap := ([(4, SV.int IntKind.i64 v.1), (0, SV.es (Kd.int IntKind.i64) v.2.1), (3, SV.own 0)], [Blk.arr (Kd.int IntKind.i64) v.2.2 0])
def laws_toIntS_step0 (fuel : Nat) (g0 : laws_toIntS_V0 → Option (((List Int) × Unit) × Unit)) (v : laws_toIntS_V0) : Option (((List Int) × Unit) × Unit) :=
 cond (decide (v.1 < (zz (List.length v.2.1))))
 (tst (decide (0 ≤ v.1)) <|
  tst (decide (v.1 < (zz (List.length v.2.1)))) <|
  tst (decide (0 ≤ v.1)) <|
  tst (decide (v.1 < (zz (List.length v.2.2)))) <|
  tst (decide (Int.toNat v.1 < List.length v.2.2)) <|
  g0 (w64 (v.1 + (1 : Int)), v.2.1, List.set v.2.2 (Int.toNat v.1) (List.getD v.2.1 (Int.toNat v.1) 0)))
 (some (((v.2.2, ()), ())))
def laws_toIntS_st0 (fuel : Nat) (g0 : laws_toIntS_V0 → Option (((List Int) × Unit) × Unit)) : laws_toIntS_V0 → Option (((List Int) × Unit) × Unit) := laws_toIntS_step0 fuel g0
theorem laws_toIntS_lp0 (fuel : Nat) (G) : laws_toIntS_c.lp (laws_toIntS_T fuel) 0 fuel G (endF laws_toIntS_rv laws_toIntS_rs) 0 laws_toIntS_enc0 = iter (laws_toIntS_st0 fuel) fuel := C.lp_iter fun g v => by kernel_rfl
def laws_toIntS_pre (fuel : Nat) (X0 : laws_toIntS_V0 → Option (((List Int) × Unit) × Unit)) (x0 : List Int) : Option (((List Int) × Unit) × Unit) :=
 tst (decide (0 ≤ (zz (List.length x0)))) <|
 tst (decide ((zz (List.length x0)) ≤ (zz (List.length x0)))) <|
 tst (decide (Int.toNat (zz (List.length x0)) < LIM)) <|
 X0 ((0 : Int), x0, List.replicate (Int.toNat (zz (List.length x0))) 0)
def laws_toIntS_fn (fuel : Nat) (x : (((List Int) × Unit) × Unit)) : Option (((List Int) × Unit) × Unit) := laws_toIntS_pre fuel (iter (laws_toIntS_st0 fuel) fuel) x.1.1
theorem laws_toIntS_run (fuel : Nat) (x : PsT laws_toIntS_ps) : run (laws_toIntS_T fuel) 0 fuel laws_toIntS_c (env0 (svPs laws_toIntS_ps x) 0) [] (endF laws_toIntS_rv laws_toIntS_rs) = laws_toIntS_fn fuel x :=
  (show run (laws_toIntS_T fuel) 0 fuel laws_toIntS_c (env0 (svPs laws_toIntS_ps x) 0) [] (endF laws_toIntS_rv laws_toIntS_rs) = laws_toIntS_pre fuel (laws_toIntS_c.lp (laws_toIntS_T fuel) 0 fuel (fun _ _ _ => none) (endF laws_toIntS_rv laws_toIntS_rs) 0 laws_toIntS_enc0) x.1.1 by kernel_rfl).trans (by rw [laws_toIntS_lp0]; rfl)
def laws_toIntS_tf (fuel : Nat) : TF := ⟨laws_toIntS_ps, laws_toIntS_rs, true, laws_toIntS_fn fuel⟩
theorem laws_toIntS_spec (fuel : Nat) : FnSpec Try.prog 94 (laws_toIntS_tf fuel) :=
  fn_spec (T := laws_toIntS_T fuel) (c := bodyOf Try.f94) (fn := Try.f94) (TabOK.of (entNil) (methNil)) mixed (by kernel_rfl) (by kernel_rfl) laws_toIntS_l (by kernel_rfl) (Nat.le_of_ble_eq_true (by kernel_rfl)) (rv := laws_toIntS_rv) (by kernel_rfl) (laws_toIntS_run fuel)
theorem laws_toIntS_ok (fuel : Nat) : EntryOK Try.prog 94 (laws_toIntS_tf fuel).te := EntryOK.tf rfl (laws_toIntS_spec fuel) (isFn (fn := Try.f94) (by kernel_rfl) (by kernel_rfl) (by kernel_rfl))

/-! ### laws_toIntSS -/
def laws_toIntSS_T (fuel : Nat) : Tab := Tab.of [(94, (laws_toIntS_tf fuel).te)] []
abbrev laws_toIntSS_ps : List Pm := [{ cs := [(Kd.list (Kd.list (Kd.int IntKind.i64)), false)], ag := false }]
abbrev laws_toIntSS_rs : List Pm := [{ cs := [(Kd.list (Kd.list (Kd.int IntKind.i64)), false)], ag := false }]
def laws_toIntSS_ann : List Norm := [{ live := [4, 0, 3], fix := [] }]
noncomputable def laws_toIntSS_c : C := irOf Try.prog Try.f93 [] laws_toIntSS_ann []
theorem laws_toIntSS_l : lightC Try.prog [] Try.f93.ntmps laws_toIntSS_ann [] 0 (bodyOf Try.f93) = some (laws_toIntSS_c, 1) := by kernel_rfl
def laws_toIntSS_rv : List (Nat × Option (Nat × Bool)) := [(2, none)]
abbrev laws_toIntSS_V0 := (Int) × (List (List Int)) × (List (List Int))
def laws_toIntSS_enc0 (v : laws_toIntSS_V0) : Env × Heap := ([(4, SV.int IntKind.i64 v.1), (0, SV.es (Kd.list (Kd.int IntKind.i64)) v.2.1), (3, SV.own 0)], [Blk.arr (Kd.list (Kd.int IntKind.i64)) v.2.2 0])
def laws_toIntSS_step0 (fuel : Nat) (g0 : laws_toIntSS_V0 → Option (((List (List Int)) × Unit) × Unit)) (v : laws_toIntSS_V0) : Option (((List (List Int)) × Unit) × Unit) :=
 cond (decide (v.1 < (zz (List.length v.2.1))))
 (tst (decide (0 ≤ v.1)) <|
  tst (decide (v.1 < (zz (List.length v.2.1)))) <|
  Option.bind (laws_toIntS_fn fuel ((List.getD v.2.1 (Int.toNat v.1) [], ()), ())) fun y_2 =>
  tst (decide (0 ≤ v.1)) <|
   tst (decide (v.1 < (zz (List.length v.2.2)))) <|
   tst (decide (Int.toNat v.1 < List.length v.2.2)) <|
   g0 (w64 (v.1 + (1 : Int)), v.2.1, List.set v.2.2 (Int.toNat v.1) y_2.fst.fst))
 (some (((v.2.2, ()), ())))
def laws_toIntSS_st0 (fuel : Nat) (g0 : laws_toIntSS_V0 → Option (((List (List Int)) × Unit) × Unit)) : laws_toIntSS_V0 → Option (((List (List Int)) × Unit) × Unit) := laws_toIntSS_step0 fuel g0
theorem laws_toIntSS_lp0 (fuel : Nat) (G) : laws_toIntSS_c.lp (laws_toIntSS_T fuel) 0 fuel G (endF laws_toIntSS_rv laws_toIntSS_rs) 0 laws_toIntSS_enc0 = iter (laws_toIntSS_st0 fuel) fuel := C.lp_iter fun g v => by kernel_rfl
def laws_toIntSS_pre (fuel : Nat) (X0 : laws_toIntSS_V0 → Option (((List (List Int)) × Unit) × Unit)) (x0 : List (List Int)) : Option (((List (List Int)) × Unit) × Unit) :=
 tst (decide (0 ≤ (zz (List.length x0)))) <|
 tst (decide ((zz (List.length x0)) ≤ (zz (List.length x0)))) <|
 tst (decide (Int.toNat (zz (List.length x0)) < LIM)) <|
 X0 ((0 : Int), x0, List.replicate (Int.toNat (zz (List.length x0))) [])
def laws_toIntSS_fn (fuel : Nat) (x : (((List (List Int)) × Unit) × Unit)) : Option (((List (List Int)) × Unit) × Unit) := laws_toIntSS_pre fuel (iter (laws_toIntSS_st0 fuel) fuel) x.1.1
theorem laws_toIntSS_run (fuel : Nat) (x : PsT laws_toIntSS_ps) : run (laws_toIntSS_T fuel) 0 fuel laws_toIntSS_c (env0 (svPs laws_toIntSS_ps x) 0) [] (endF laws_toIntSS_rv laws_toIntSS_rs) = laws_toIntSS_fn fuel x :=
  (show run (laws_toIntSS_T fuel) 0 fuel laws_toIntSS_c (env0 (svPs laws_toIntSS_ps x) 0) [] (endF laws_toIntSS_rv laws_toIntSS_rs) = laws_toIntSS_pre fuel (laws_toIntSS_c.lp (laws_toIntSS_T fuel) 0 fuel (fun _ _ _ => none) (endF laws_toIntSS_rv laws_toIntSS_rs) 0 laws_toIntSS_enc0) x.1.1 by kernel_rfl).trans (by rw [laws_toIntSS_lp0]; rfl)
def laws_toIntSS_tf (fuel : Nat) : TF := ⟨laws_toIntSS_ps, laws_toIntSS_rs, false, laws_toIntSS_fn fuel⟩
theorem laws_toIntSS_spec (fuel : Nat) : FnSpec Try.prog 93 (laws_toIntSS_tf fuel) :=
  fn_spec (T := laws_toIntSS_T fuel) (c := bodyOf Try.f93) (fn := Try.f93) (TabOK.of (entCons (laws_toIntS_ok fuel) entNil) (methNil)) mixed (by kernel_rfl) (by kernel_rfl) laws_toIntSS_l (by kernel_rfl) (Nat.le_of_ble_eq_true (by kernel_rfl)) (rv := laws_toIntSS_rv) (by kernel_rfl) (laws_toIntSS_run fuel)
theorem laws_toIntSS_ok (fuel : Nat) : EntryOK Try.prog 93 (laws_toIntSS_tf fuel).te := EntryOK.tf rfl (laws_toIntSS_spec fuel) (isFn (fn := Try.f93) (by kernel_rfl) (by kernel_rfl) (by kernel_rfl))

/-! ### laws_toRough -/
def laws_toRough_T (fuel : Nat) : Tab := Tab.of [(93, (laws_toIntSS_tf fuel).te)] []
abbrev laws_toRough_ps : List Pm := [{ cs := [(Kd.list (Kd.list (Kd.int IntKind.i64)), false)], ag := true }]
abbrev laws_toRough_rs : List Pm := [{ cs := [(Kd.list (Kd.list (Kd.int IntKind.i64)), false)], ag := true }]
def laws_toRough_ann : List Norm := []
noncomputable def laws_toRough_c : C := irOf Try.prog Try.f56 [] laws_toRough_ann []
theorem laws_toRough_l : lightC Try.prog [] Try.f56.ntmps laws_toRough_ann [] 0 (bodyOf Try.f56) = some (laws_toRough_c, 0) := by kernel_rfl
def laws_toRough_rv : List (Nat × Option (Nat × Bool)) := [(2, some (1, true))]
def laws_toRough_pre (fuel : Nat) (x0 : List (List Int)) : Option (((List (List Int)) × Unit) × Unit) :=
 Option.bind (laws_toIntSS_fn fuel ((x0, ()), ())) fun y_1 =>
 some (((y_1.fst.fst, ()), ()))
def laws_toRough_fn (fuel : Nat) (x : (((List (List Int)) × Unit) × Unit)) : Option (((List (List Int)) × Unit) × Unit) := laws_toRough_pre fuel x.1.1
theorem laws_toRough_run (fuel : Nat) (x : PsT laws_toRough_ps) : run (laws_toRough_T fuel) 0 fuel laws_toRough_c (env0 (svPs laws_toRough_ps x) 0) [] (endF laws_toRough_rv laws_toRough_rs) = laws_toRough_fn fuel x := by kernel_rfl
def laws_toRough_tf (fuel : Nat) : TF := ⟨laws_toRough_ps, laws_toRough_rs, false, laws_toRough_fn fuel⟩
theorem laws_toRough_spec (fuel : Nat) : FnSpec Try.prog 56 (laws_toRough_tf fuel) :=
  fn_spec (T := laws_toRough_T fuel) (c := bodyOf Try.f56) (fn := Try.f56) (TabOK.of (entCons (laws_toIntSS_ok fuel) entNil) (methNil)) mixed (by kernel_rfl) (by kernel_rfl) laws_toRough_l (by kernel_rfl) (Nat.le_of_ble_eq_true (by kernel_rfl)) (rv := laws_toRough_rv) (by kernel_rfl) (laws_toRough_run fuel)
theorem laws_toRough_ok (fuel : Nat) : EntryOK Try.prog 56 (laws_toRough_tf fuel).te := EntryOK.tf rfl (laws_toRough_spec fuel) (isFn (fn := Try.f56) (by kernel_rfl) (by kernel_rfl) (by kernel_rfl))

/-! ### laws_toFew -/
def laws_toFew_T (fuel : Nat) : Tab := Tab.of [(94, (laws_toIntS_tf fuel).te)] []
abbrev laws_toFew_ps : List Pm := [{ cs := [(Kd.list (Kd.int IntKind.i64), false)], ag := true }]
abbrev laws_toFew_rs : List Pm := [{ cs := [(Kd.list (Kd.int IntKind.i64), true)], ag := true }]
def laws_toFew_ann : List Norm := []
noncomputable def laws_toFew_c : C := irOf Try.prog Try.f57 [] laws_toFew_ann []
theorem laws_toFew_l : lightC Try.prog [] Try.f57.ntmps laws_toFew_ann [] 0 (bodyOf Try.f57) = some (laws_toFew_c, 0) := by kernel_rfl
def laws_toFew_rv : List (Nat × Option (Nat × Bool)) := [(2, some (1, true))]
def laws_toFew_pre (fuel : Nat) (x0 : List Int) : Option (((List Int) × Unit) × Unit) :=
 Option.bind (laws_toIntS_fn fuel ((x0, ()), ())) fun y_1 =>
 some (((y_1.fst.fst, ()), ()))
def laws_toFew_fn (fuel : Nat) (x : (((List Int) × Unit) × Unit)) : Option (((List Int) × Unit) × Unit) := laws_toFew_pre fuel x.1.1
theorem laws_toFew_run (fuel : Nat) (x : PsT laws_toFew_ps) : run (laws_toFew_T fuel) 0 fuel laws_toFew_c (env0 (svPs laws_toFew_ps x) 0) [] (endF laws_toFew_rv laws_toFew_rs) = laws_toFew_fn fuel x := by kernel_rfl
def laws_toFew_tf (fuel : Nat) : TF := ⟨laws_toFew_ps, laws_toFew_rs, true, laws_toFew_fn fuel⟩
theorem laws_toFew_spec (fuel : Nat) : FnSpec Try.prog 57 (laws_toFew_tf fuel) :=
  fn_spec (T := laws_toFew_T fuel) (c := bodyOf Try.f57) (fn := Try.f57) (TabOK.of (entCons (laws_toIntS_ok fuel) entNil) (methNil)) mixed (by kernel_rfl) (by kernel_rfl) laws_toFew_l (by kernel_rfl) (Nat.le_of_ble_eq_true (by kernel_rfl)) (rv := laws_toFew_rv) (by kernel_rfl) (laws_toFew_run fuel)
theorem laws_toFew_ok (fuel : Nat) : EntryOK Try.prog 57 (laws_toFew_tf fuel).te := EntryOK.tf rfl (laws_toFew_spec fuel) (isFn (fn := Try.f57) (by kernel_rfl) (by kernel_rfl) (by kernel_rfl))

/-! ### laws_toPair -/
def laws_toPair_T (fuel : Nat) : Tab := Tab.of [] []
abbrev laws_toPair_ps : List Pm := [{ cs := [(Kd.int IntKind.i64, false), (Kd.int IntKind.i64, false)], ag := true }]
abbrev laws_toPair_rs : List Pm := [{ cs := [(Kd.int IntKind.i64, false), (Kd.int IntKind.i64, false)], ag := true }]
def laws_toPair_ann : List Norm := []
noncomputable def laws_toPair_c : C := irOf Try.prog Try.f108 [] laws_toPair_ann []
theorem laws_toPair_l : lightC Try.prog [] Try.f108.ntmps laws_toPair_ann [] 0 (bodyOf Try.f108) = some (laws_toPair_c, 0) := by kernel_rfl
def laws_toPair_rv : List (Nat × Option (Nat × Bool)) := [(2, some (2, true))]
def laws_toPair_pre (fuel : Nat) (x0 : Int) (x1 : Int) : Option ((Int × (Int × Unit)) × Unit) :=
 some (((x0, x1, ()), ()))
def laws_toPair_fn (fuel : Nat) (x : ((Int × (Int × Unit)) × Unit)) : Option ((Int × (Int × Unit)) × Unit) := laws_toPair_pre fuel x.1.1 x.1.2.1
theorem laws_toPair_run (fuel : Nat) (x : PsT laws_toPair_ps) : run (laws_toPair_T fuel) 0 fuel laws_toPair_c (env0 (svPs laws_toPair_ps x) 0) [] (endF laws_toPair_rv laws_toPair_rs) = laws_toPair_fn fuel x := by kernel_rfl
def laws_toPair_tf (fuel : Nat) : TF := ⟨laws_toPair_ps, laws_toPair_rs, true, laws_toPair_fn fuel⟩
theorem laws_toPair_spec (fuel : Nat) : FnSpec Try.prog 108 (laws_toPair_tf fuel) :=
  fn_spec (T := laws_toPair_T fuel) (c := bodyOf Try.f108) (fn := Try.f108) (TabOK.of (entNil) (methNil)) mixed (by kernel_rfl) (by kernel_rfl) laws_toPair_l (by kernel_rfl) (Nat.le_of_ble_eq_true (by kernel_rfl)) (rv := laws_toPair_rv) (by kernel_rfl) (laws_toPair_run fuel)
theorem laws_toPair_ok (fuel : Nat) : EntryOK Try.prog 108 (laws_toPair_tf fuel).te := EntryOK.tf rfl (laws_toPair_spec fuel) (isFn (fn := Try.f108) (by kernel_rfl) (by kernel_rfl) (by kernel_rfl))

/-! ### laws_toPairS -/
def laws_toPairS_T (fuel : Nat) : Tab := Tab.of [(108, (laws_toPair_tf fuel).te)] []
abbrev laws_toPairS_ps : List Pm := [{ cs := [(Kd.list (Kd.pair (Kd.int IntKind.i64) (Kd.pair (Kd.int IntKind.i64) Kd.unit)), false)], ag := false }]
abbrev laws_toPairS_rs : List Pm := [{ cs := [(Kd.list (Kd.pair (Kd.int IntKind.i64) (Kd.pair (Kd.int IntKind.i64) Kd.unit)), true)], ag := false }]
def laws_toPairS_ann : List Norm := [{ live := [4, 0, 3], fix := [] }]
noncomputable def laws_toPairS_c : C := irOf Try.prog Try.f95 [] laws_toPairS_ann []
theorem laws_toPairS_l : lightC Try.prog [] Try.f95.ntmps laws_toPairS_ann [] 0 (bodyOf Try.f95) = some (laws_toPairS_c, 1) := by kernel_rfl
def laws_toPairS_rv : List (Nat × Option (Nat × Bool)) := [(2, none)]
abbrev laws_toPairS_V0 := (Int) × (List (Int × Int × Unit)) × (List (Int × Int × Unit))
def laws_toPairS_enc0 (v : laws_toPairS_V0) : Env × Heap := ([(4, SV.int IntKind.i64 v.1), (0, SV.es (Kd.pair (Kd.int IntKind.i64) (Kd.pair (Kd.int IntKind.i64) Kd.unit)) v.2.1), (3, SV.own 0)], [Blk.arr (Kd.pair (Kd.int IntKind.i64) (Kd.pair (Kd.int IntKind.i64) Kd.unit)) v.2.2 0])
def laws_toPairS_step0 (fuel : Nat) (g0 : laws_toPairS_V0 → Option (((List (Int × (Int × Unit))) × Unit) × Unit)) (v : laws_toPairS_V0) : Option (((List (Int × (Int × Unit))) × Unit) × Unit) :=
 cond (decide (v.1 < (zz (List.length v.2.1))))
 (tst (decide (0 ≤ v.1)) <|
  tst (decide (v.1 < (zz (List.length v.2.1)))) <|
  Option.bind (laws_toPair_fn fuel (((List.getD v.2.1 (Int.toNat v.1) (0, (0, ()))).fst, (List.getD v.2.1 (Int.toNat v.1) (0, (0, ()))).snd.fst, ()), ())) fun y_2 =>
  tst (decide (0 ≤ v.1)) <|
   tst (decide (v.1 < (zz (List.length v.2.2)))) <|
   tst (decide (Int.toNat v.1 < List.length v.2.2)) <|
   g0 (w64 (v.1 + (1 : Int)), v.2.1, List.set v.2.2 (Int.toNat v.1) (y_2.fst.fst, y_2.fst.snd.fst, ())))
 (some (((v.2.2, ()), ())))
def laws_toPairS_st0 (fuel : Nat) (g0 : laws_toPairS_V0 → Option (((List (Int × (Int × Unit))) × Unit) × Unit)) : laws_toPairS_V0 → Option (((List (Int × (Int × Unit))) × Unit) × Unit) := laws_toPairS_step0 fuel g0
theorem laws_toPairS_lp0 (fuel : Nat) (G) : laws_toPairS_c.lp (laws_toPairS_T fuel) 0 fuel G (endF laws_toPairS_rv laws_toPairS_rs) 0 laws_toPairS_enc0 = iter (laws_toPairS_st0 fuel) fuel := C.lp_iter fun g v => by kernel_rfl
def laws_toPairS_pre (fuel : Nat) (X0 : laws_toPairS_V0 → Option (((List (Int × (Int × Unit))) × Unit) × Unit)) (x0 : List (Int × Int × Unit)) : Option (((List (Int × (Int × Unit))) × Unit) × Unit) :=
 tst (decide (0 ≤ (zz (List.length x0)))) <|
 tst (decide ((zz (List.length x0)) ≤ (zz (List.length x0)))) <|
 tst (decide (Int.toNat (zz (List.length x0)) < LIM)) <|
 X0 ((0 : Int), x0, List.replicate (Int.toNat (zz (List.length x0))) (0, (0, ())))
def laws_toPairS_fn (fuel : Nat) (x : (((List (Int × (Int × Unit))) × Unit) × Unit)) : Option (((List (Int × (Int × Unit))) × Unit) × Unit) := laws_toPairS_pre fuel (iter (laws_toPairS_st0 fuel) fuel) x.1.1
theorem laws_toPairS_run (fuel : Nat) (x : PsT laws_toPairS_ps) : run (laws_toPairS_T fuel) 0 fuel laws_toPairS_c (env0 (svPs laws_toPairS_ps x) 0) [] (endF laws_toPairS_rv laws_toPairS_rs) = laws_toPairS_fn fuel x :=
  (show run (laws_toPairS_T fuel) 0 fuel laws_toPairS_c (env0 (svPs laws_toPairS_ps x) 0) [] (endF laws_toPairS_rv laws_toPairS_rs) = laws_toPairS_pre fuel (laws_toPairS_c.lp (laws_toPairS_T fuel) 0 fuel (fun _ _ _ => none) (endF laws_toPairS_rv laws_toPairS_rs) 0 laws_toPairS_enc0) x.1.1 by kernel_rfl).trans (by rw [laws_toPairS_lp0]; rfl)
def laws_toPairS_tf (fuel : Nat) : TF := ⟨laws_toPairS_ps, laws_toPairS_rs, true, laws_toPairS_fn fuel⟩
theorem laws_toPairS_spec (fuel : Nat) : FnSpec Try.prog 95 (laws_toPairS_tf fuel) :=
  fn_spec (T := laws_toPairS_T fuel) (c := bodyOf Try.f95) (fn := Try.f95) (TabOK.of (entCons (laws_toPair_ok fuel) entNil) (methNil)) mixed (by kernel_rfl) (by kernel_rfl) laws_toPairS_l (by kernel_rfl) (Nat.le_of_ble_eq_true (by kernel_rfl)) (rv := laws_toPairS_rv) (by kernel_rfl) (laws_toPairS_run fuel)
theorem laws_toPairS_ok (fuel : Nat) : EntryOK Try.prog 95 (laws_toPairS_tf fuel).te := EntryOK.tf rfl (laws_toPairS_spec fuel) (isFn (fn := Try.f95) (by kernel_rfl) (by kernel_rfl) (by kernel_rfl))

/-! ### laws_toTop -/
def laws_toTop_T (fuel : Nat) : Tab := Tab.of [(95, (laws_toPairS_tf fuel).te)] []
abbrev laws_toTop_ps : List Pm := [{ cs := [(Kd.list (Kd.pair (Kd.int IntKind.i64) (Kd.pair (Kd.int IntKind.i64) Kd.unit)), false), (Kd.int IntKind.i64, false), (Kd.int IntKind.i64, false)], ag := true }]
abbrev laws_toTop_rs : List Pm := [{ cs := [(Kd.list (Kd.pair (Kd.int IntKind.i64) (Kd.pair (Kd.int IntKind.i64) Kd.unit)), true), (Kd.int IntKind.i64, false), (Kd.int IntKind.i64, false)], ag := true }]
def laws_toTop_ann : List Norm := []
noncomputable def laws_toTop_c : C := irOf Try.prog Try.f58 [] laws_toTop_ann []
theorem laws_toTop_l : lightC Try.prog [] Try.f58.ntmps laws_toTop_ann [] 0 (bodyOf Try.f58) = some (laws_toTop_c, 0) := by kernel_rfl
def laws_toTop_rv : List (Nat × Option (Nat × Bool)) := [(2, some (3, true))]
def laws_toTop_pre (fuel : Nat) (x0 : List (Int × Int × Unit)) (x1 : Int) (x2 : Int) : Option (((List (Int × (Int × Unit))) × (Int × (Int × Unit))) × Unit) :=
 Option.bind (laws_toPairS_fn fuel ((x0, ()), ())) fun y_1 =>
 some (((y_1.fst.fst, x1, x2, ()), ()))
def laws_toTop_fn (fuel : Nat) (x : (((List (Int × (Int × Unit))) × (Int × (Int × Unit))) × Unit)) : Option (((List (Int × (Int × Unit))) × (Int × (Int × Unit))) × Unit) := laws_toTop_pre fuel x.1.1 x.1.2.1 x.1.2.2.1
theorem laws_toTop_run (fuel : Nat) (x : PsT laws_toTop_ps) : run (laws_toTop_T fuel) 0 fuel laws_toTop_c (env0 (svPs laws_toTop_ps x) 0) [] (endF laws_toTop_rv laws_toTop_rs) = laws_toTop_fn fuel x := by kernel_rfl
def laws_toTop_tf (fuel : Nat) : TF := ⟨laws_toTop_ps, laws_toTop_rs, true, laws_toTop_fn fuel⟩
theorem laws_toTop_spec (fuel : Nat) : FnSpec Try.prog 58 (laws_toTop_tf fuel) :=
  fn_spec (T := laws_toTop_T fuel) (c := bodyOf Try.f58) (fn := Try.f58) (TabOK.of (entCons (laws_toPairS_ok fuel) entNil) (methNil)) mixed (by kernel_rfl) (by kernel_rfl) laws_toTop_l (by kernel_rfl) (Nat.le_of_ble_eq_true (by kernel_rfl)) (rv := laws_toTop_rv) (by kernel_rfl) (laws_toTop_run fuel)
theorem laws_toTop_ok (fuel : Nat) : EntryOK Try.prog 58 (laws_toTop_tf fuel).te := EntryOK.tf rfl (laws_toTop_spec fuel) (isFn (fn := Try.f58) (by kernel_rfl) (by kernel_rfl) (by kernel_rfl))

/-! ### laws_toKnot -/
def laws_toKnot_T (fuel : Nat) : Tab := Tab.of [] []
abbrev laws_toKnot_ps : List Pm := [{ cs := [(Kd.int IntKind.i64, false), (Kd.int IntKind.i64, false)], ag := true }]
abbrev laws_toKnot_rs : List Pm := [{ cs := [(Kd.int IntKind.i64, false), (Kd.int IntKind.i64, false)], ag := true }]
def laws_toKnot_ann : List Norm := []
noncomputable def laws_toKnot_c : C := irOf Try.prog Try.f109 [] laws_toKnot_ann []
theorem laws_toKnot_l : lightC Try.prog [] Try.f109.ntmps laws_toKnot_ann [] 0 (bodyOf Try.f109) = some (laws_toKnot_c, 0) := by kernel_rfl
def laws_toKnot_rv : List (Nat × Option (Nat × Bool)) := [(2, some (2, true))]
def laws_toKnot_pre (fuel : Nat) (x0 : Int) (x1 : Int) : Option ((Int × (Int × Unit)) × Unit) :=
 some (((x0, x1, ()), ()))
def laws_toKnot_fn (fuel : Nat) (x : ((Int × (Int × Unit)) × Unit)) : Option ((Int × (Int × Unit)) × Unit) := laws_toKnot_pre fuel x.1.1 x.1.2.1
theorem laws_toKnot_run (fuel : Nat) (x : PsT laws_toKnot_ps) : run (laws_toKnot_T fuel) 0 fuel laws_toKnot_c (env0 (svPs laws_toKnot_ps x) 0) [] (endF laws_toKnot_rv laws_toKnot_rs) = laws_toKnot_fn fuel x := by kernel_rfl
def laws_toKnot_tf (fuel : Nat) : TF := ⟨laws_toKnot_ps, laws_toKnot_rs, true, laws_toKnot_fn fuel⟩
theorem laws_toKnot_spec (fuel : Nat) : FnSpec Try.prog 109 (laws_toKnot_tf fuel) :=
  fn_spec (T := laws_toKnot_T fuel) (c := bodyOf Try.f109) (fn := Try.f109) (TabOK.of (entNil) (methNil)) mixed (by kernel_rfl) (by kernel_rfl) laws_toKnot_l (by kernel_rfl) (Nat.le_of_ble_eq_true (by kernel_rfl)) (rv := laws_toKnot_rv) (by kernel_rfl) (laws_toKnot_run fuel)
theorem laws_toKnot_ok (fuel : Nat) : EntryOK Try.prog 109 (laws_toKnot_tf fuel).te := EntryOK.tf rfl (laws_toKnot_spec fuel) (isFn (fn := Try.f109) (by kernel_rfl) (by kernel_rfl) (by kernel_rfl))

/-! ### laws_toKnotS -/
def laws_toKnotS_T (fuel : Nat) : Tab := Tab.of [(109, (laws_toKnot_tf fuel).te)] []
abbrev laws_toKnotS_ps : List Pm := [{ cs := [(Kd.list (Kd.pair (Kd.int IntKind.i64) (Kd.pair (Kd.int IntKind.i64) Kd.unit)), false)], ag := false }]
abbrev laws_toKnotS_rs : List Pm := [{ cs := [(Kd.list (Kd.pair (Kd.int IntKind.i64) (Kd.pair (Kd.int IntKind.i64) Kd.unit)), true)], ag := false }]
def laws_toKnotS_ann : List Norm := [{ live := [4, 0, 3], fix := [] }]
noncomputable def laws_toKnotS_c : C := irOf Try.prog Try.f96 [] laws_toKnotS_ann []
theorem laws_toKnotS_l : lightC Try.prog [] Try.f96.ntmps laws_toKnotS_ann [] 0 (bodyOf Try.f96) = some (laws_toKnotS_c, 1) := by kernel_rfl
def laws_toKnotS_rv : List (Nat × Option (Nat × Bool)) := [(2, none)]
abbrev laws_toKnotS_V0 := (Int) × (List (Int × Int × Unit)) × (List (Int × Int × Unit))
def laws_toKnotS_enc0 (v : laws_toKnotS_V0) : Env × Heap := ([(4, SV.int IntKind.i64 v.1), (0, SV.es (Kd.pair (Kd.int IntKind.i64) (Kd.pair (Kd.int IntKind.i64) Kd.unit)) v.2.1), (3, SV.own 0)], [Blk.arr (Kd.pair (Kd.int IntKind.i64) (Kd.pair (Kd.int IntKind.i64) Kd.unit)) v.2.2 0])
def laws_toKnotS_step0 (fuel : Nat) (g0 : laws_toKnotS_V0 → Option (((List (Int × (Int × Unit))) × Unit) × Unit)) (v : laws_toKnotS_V0) : Option (((List (Int × (Int × Unit))) × Unit) × Unit) :=
 cond (decide (v.1 < (zz (List.length v.2.1))))
 (tst (decide (0 ≤ v.1)) <|
  tst (decide (v.1 < (zz (List.length v.2.1)))) <|
  Option.bind (laws_toKnot_fn fuel (((List.getD v.2.1 (Int.toNat v.1) (0, (0, ()))).fst, (List.getD v.2.1 (Int.toNat v.1) (0, (0, ()))).snd.fst, ()), ())) fun y_2 =>
  tst (decide (0 ≤ v.1)) <|
   tst (decide (v.1 < (zz (List.length v.2.2)))) <|
   tst (decide (Int.toNat v.1 < List.length v.2.2)) <|
   g0 (w64 (v.1 + (1 : Int)), v.2.1, List.set v.2.2 (Int.toNat v.1) (y_2.fst.fst, y_2.fst.snd.fst, ())))
 (some (((v.2.2, ()), ())))
def laws_toKnotS_st0 (fuel : Nat) (g0 : laws_toKnotS_V0 → Option (((List (Int × (Int × Unit))) × Unit) × Unit)) : laws_toKnotS_V0 → Option (((List (Int × (Int × Unit))) × Unit) × Unit) := laws_toKnotS_step0 fuel g0
theorem laws_toKnotS_lp0 (fuel : Nat) (G) : laws_toKnotS_c.lp (laws_toKnotS_T fuel) 0 fuel G (endF laws_toKnotS_rv laws_toKnotS_rs) 0 laws_toKnotS_enc0 = iter (laws_toKnotS_st0 fuel) fuel := C.lp_iter fun g v => by kernel_rfl
def laws_toKnotS_pre (fuel : Nat) (X0 : laws_toKnotS_V0 → Option (((List (Int × (Int × Unit))) × Unit) × Unit)) (x0 : List (Int × Int × Unit)) : Option (((List (Int × (Int × Unit))) × Unit) × Unit) :=
 tst (decide (0 ≤ (zz (List.length x0)))) <|
 tst (decide ((zz (List.length x0)) ≤ (zz (List.length x0)))) <|
 tst (decide (Int.toNat (zz (List.length x0)) < LIM)) <|
 X0 ((0 : Int), x0, List.replicate (Int.toNat (zz (List.length x0))) (0, (0, ())))
def laws_toKnotS_fn (fuel : Nat) (x : (((List (Int × (Int × Unit))) × Unit) × Unit)) : Option (((List (Int × (Int × Unit))) × Unit) × Unit) := laws_toKnotS_pre fuel (iter (laws_toKnotS_st0 fuel) fuel) x.1.1
theorem laws_toKnotS_run (fuel : Nat) (x : PsT laws_toKnotS_ps) : run (laws_toKnotS_T fuel) 0 fuel laws_toKnotS_c (env0 (svPs laws_toKnotS_ps x) 0) [] (endF laws_toKnotS_rv laws_toKnotS_rs) = laws_toKnotS_fn fuel x :=
  (show run (laws_toKnotS_T fuel) 0 fuel laws_toKnotS_c (env0 (svPs laws_toKnotS_ps x) 0) [] (endF laws_toKnotS_rv laws_toKnotS_rs) = laws_toKnotS_pre fuel (laws_toKnotS_c.lp (laws_toKnotS_T fuel) 0 fuel (fun _ _ _ => none) (endF laws_toKnotS_rv laws_toKnotS_rs) 0 laws_toKnotS_enc0) x.1.1 by kernel_rfl).trans (by rw [laws_toKnotS_lp0]; rfl)
def laws_toKnotS_tf (fuel : Nat) : TF := ⟨laws_toKnotS_ps, laws_toKnotS_rs, true, laws_toKnotS_fn fuel⟩
theorem laws_toKnotS_spec (fuel : Nat) : FnSpec Try.prog 96 (laws_toKnotS_tf fuel) :=
  fn_spec (T := laws_toKnotS_T fuel) (c := bodyOf Try.f96) (fn := Try.f96) (TabOK.of (entCons (laws_toKnot_ok fuel) entNil) (methNil)) mixed (by kernel_rfl) (by kernel_rfl) laws_toKnotS_l (by kernel_rfl) (Nat.le_of_ble_eq_true (by kernel_rfl)) (rv := laws_toKnotS_rv) (by kernel_rfl) (laws_toKnotS_run fuel)
theorem laws_toKnotS_ok (fuel : Nat) : EntryOK Try.prog 96 (laws_toKnotS_tf fuel).te := EntryOK.tf rfl (laws_toKnotS_spec fuel) (isFn (fn := Try.f96) (by kernel_rfl) (by kernel_rfl) (by kernel_rfl))

/-! ### laws_toRank -/
def laws_toRank_T (fuel : Nat) : Tab := Tab.of [(96, (laws_toKnotS_tf fuel).te)] []
abbrev laws_toRank_ps : List Pm := [{ cs := [(Kd.list (Kd.pair (Kd.int IntKind.i64) (Kd.pair (Kd.int IntKind.i64) Kd.unit)), false), (Kd.int IntKind.i64, false)], ag := true }]
abbrev laws_toRank_rs : List Pm := [{ cs := [(Kd.list (Kd.pair (Kd.int IntKind.i64) (Kd.pair (Kd.int IntKind.i64) Kd.unit)), true), (Kd.int IntKind.i64, false)], ag := true }]
def laws_toRank_ann : List Norm := []
noncomputable def laws_toRank_c : C := irOf Try.prog Try.f59 [] laws_toRank_ann []
theorem laws_toRank_l : lightC Try.prog [] Try.f59.ntmps laws_toRank_ann [] 0 (bodyOf Try.f59) = some (laws_toRank_c, 0) := by kernel_rfl
def laws_toRank_rv : List (Nat × Option (Nat × Bool)) := [(2, some (2, true))]
def laws_toRank_pre (fuel : Nat) (x0 : List (Int × Int × Unit)) (x1 : Int) : Option (((List (Int × (Int × Unit))) × (Int × Unit)) × Unit) :=
 Option.bind (laws_toKnotS_fn fuel ((x0, ()), ())) fun y_1 =>
 some (((y_1.fst.fst, x1, ()), ()))
def laws_toRank_fn (fuel : Nat) (x : (((List (Int × (Int × Unit))) × (Int × Unit)) × Unit)) : Option (((List (Int × (Int × Unit))) × (Int × Unit)) × Unit) := laws_toRank_pre fuel x.1.1 x.1.2.1
theorem laws_toRank_run (fuel : Nat) (x : PsT laws_toRank_ps) : run (laws_toRank_T fuel) 0 fuel laws_toRank_c (env0 (svPs laws_toRank_ps x) 0) [] (endF laws_toRank_rv laws_toRank_rs) = laws_toRank_fn fuel x := by kernel_rfl
def laws_toRank_tf (fuel : Nat) : TF := ⟨laws_toRank_ps, laws_toRank_rs, true, laws_toRank_fn fuel⟩
theorem laws_toRank_spec (fuel : Nat) : FnSpec Try.prog 59 (laws_toRank_tf fuel) :=
  fn_spec (T := laws_toRank_T fuel) (c := bodyOf Try.f59) (fn := Try.f59) (TabOK.of (entCons (laws_toKnotS_ok fuel) entNil) (methNil)) mixed (by kernel_rfl) (by kernel_rfl) laws_toRank_l (by kernel_rfl) (Nat.le_of_ble_eq_true (by kernel_rfl)) (rv := laws_toRank_rv) (by kernel_rfl) (laws_toRank_run fuel)
theorem laws_toRank_ok (fuel : Nat) : EntryOK Try.prog 59 (laws_toRank_tf fuel).te := EntryOK.tf rfl (laws_toRank_spec fuel) (isFn (fn := Try.f59) (by kernel_rfl) (by kernel_rfl) (by kernel_rfl))

/-! ### laws_toSum -/
def laws_toSum_T (fuel : Nat) : Tab := Tab.of [(56, (laws_toRough_tf fuel).te), (57, (laws_toFew_tf fuel).te), (58, (laws_toTop_tf fuel).te), (59, (laws_toRank_tf fuel).te)] []
abbrev laws_toSum_ps : List Pm := [{ cs := [(Kd.list (Kd.list (Kd.int IntKind.i64)), false), (Kd.list (Kd.int IntKind.i64), false), (Kd.list (Kd.pair (Kd.int IntKind.i64) (Kd.pair (Kd.int IntKind.i64) Kd.unit)), false), (Kd.int IntKind.i64, false), (Kd.int IntKind.i64, false), (Kd.list (Kd.pair (Kd.int IntKind.i64) (Kd.pair (Kd.int IntKind.i64) Kd.unit)), false), (Kd.int IntKind.i64, false)], ag := true }]
abbrev laws_toSum_rs : List Pm := [{ cs := [(Kd.list (Kd.list (Kd.int IntKind.i64)), false), (Kd.list (Kd.int IntKind.i64), true), (Kd.list (Kd.pair (Kd.int IntKind.i64) (Kd.pair (Kd.int IntKind.i64) Kd.unit)), true), (Kd.int IntKind.i64, false), (Kd.int IntKind.i64, false), (Kd.list (Kd.pair (Kd.int IntKind.i64) (Kd.pair (Kd.int IntKind.i64) Kd.unit)), true), (Kd.int IntKind.i64, false)], ag := true }]
def laws_toSum_ann : List Norm := []
noncomputable def laws_toSum_c : C := irOf Try.prog Try.f17 [] laws_toSum_ann []
theorem laws_toSum_l : lightC Try.prog [] Try.f17.ntmps laws_toSum_ann [] 0 (bodyOf Try.f17) = some (laws_toSum_c, 0) := by kernel_rfl
def laws_toSum_rv : List (Nat × Option (Nat × Bool)) := [(2, some (7, true))]
def laws_toSum_pre (fuel : Nat) (x0 : List (List Int)) (x1 : List Int) (x2 : List (Int × Int × Unit)) (x3 : Int) (x4 : Int) (x5 : List (Int × Int × Unit)) (x6 : Int) : Option (((List (List Int)) × ((List Int) × ((List (Int × (Int × Unit))) × (Int × (Int × ((List (Int × (Int × Unit))) × (Int × Unit))))))) × Unit) :=
 Option.bind (laws_toRough_fn fuel ((x0, ()), ())) fun y_1 =>
 Option.bind (laws_toFew_fn fuel ((x1, ()), ())) fun y_2 =>
  Option.bind (laws_toTop_fn fuel ((x2, x3, x4, ()), ())) fun y_3 =>
   Option.bind (laws_toRank_fn fuel ((x5, x6, ()), ())) fun y_4 =>
    some (((y_1.fst.fst, y_2.fst.fst, y_3.fst.fst, y_3.fst.snd.fst, y_3.fst.snd.snd.fst, y_4.fst.fst, y_4.fst.snd.fst, ()), ()))
def laws_toSum_fn (fuel : Nat) (x : (((List (List Int)) × ((List Int) × ((List (Int × (Int × Unit))) × (Int × (Int × ((List (Int × (Int × Unit))) × (Int × Unit))))))) × Unit)) : Option (((List (List Int)) × ((List Int) × ((List (Int × (Int × Unit))) × (Int × (Int × ((List (Int × (Int × Unit))) × (Int × Unit))))))) × Unit) := laws_toSum_pre fuel x.1.1 x.1.2.1 x.1.2.2.1 x.1.2.2.2.1 x.1.2.2.2.2.1 x.1.2.2.2.2.2.1 x.1.2.2.2.2.2.2.1
theorem laws_toSum_run (fuel : Nat) (x : PsT laws_toSum_ps) : run (laws_toSum_T fuel) 0 fuel laws_toSum_c (env0 (svPs laws_toSum_ps x) 0) [] (endF laws_toSum_rv laws_toSum_rs) = laws_toSum_fn fuel x := by kernel_rfl
def laws_toSum_tf (fuel : Nat) : TF := ⟨laws_toSum_ps, laws_toSum_rs, false, laws_toSum_fn fuel⟩
theorem laws_toSum_spec (fuel : Nat) : FnSpec Try.prog 17 (laws_toSum_tf fuel) :=
  fn_spec (T := laws_toSum_T fuel) (c := bodyOf Try.f17) (fn := Try.f17) (TabOK.of (entCons (laws_toRough_ok fuel) (entCons (laws_toFew_ok fuel) (entCons (laws_toTop_ok fuel) (entCons (laws_toRank_ok fuel) entNil)))) (methNil)) mixed (by kernel_rfl) (by kernel_rfl) laws_toSum_l (by kernel_rfl) (Nat.le_of_ble_eq_true (by kernel_rfl)) (rv := laws_toSum_rv) (by kernel_rfl) (laws_toSum_run fuel)
theorem laws_toSum_ok (fuel : Nat) : EntryOK Try.prog 17 (laws_toSum_tf fuel).te := EntryOK.tf rfl (laws_toSum_spec fuel) (isFn (fn := Try.f17) (by kernel_rfl) (by kernel_rfl) (by kernel_rfl))

end Go.Proofs.Ytjnkefbdpcbkmaa.Den
