/- Readings of functions of the ranks, as functions on plain data (C1). -/
import Derived.Test.YtapicafncjajnaaK0
namespace Go.Proofs.Ytapicafncjajnaa.Den
open Go Go.RowKit
set_option linter.unusedVariables false
set_option linter.unusedSimpArgs false

/-! ### spec_l6Open -/
def spec_l6Open_T (fuel : Nat) : Tab := Tab.of [] []
abbrev spec_l6Open_ps : List Pm := [{ cs := [(Kd.list (Kd.int IntKind.u8), false)], ag := false }]
abbrev spec_l6Open_cs : List (Kd × Bool) := [(Kd.list (Kd.int IntKind.u8), false), (Kd.int IntKind.i64, false)]
def spec_l6Open_ann : List Norm := []
noncomputable def spec_l6Open_c : C := irOf Try.prog Try.f34 [] spec_l6Open_ann []
theorem spec_l6Open_l : lightC Try.prog [] Try.f34.ntmps spec_l6Open_ann [] 0 (bodyOf Try.f34) = some (spec_l6Open_c, 0) := by kernel_rfl
def spec_l6Open_rv : List (Nat × Option (Nat × Bool)) := [(2, none)]
def spec_l6Open_pre (fuel : Nat) (x0 : List Int) : Option ((List Int) × (Int × Unit)) :=
 cond (decide ((zz (List.length x0)) > (2000 : Int)))
 (tst (decide ((2000 : Int) ≤ (zz (List.length x0)))) <|
  some ((List.drop 0 (List.take (Int.toNat (2000 : Int)) x0), (0 : Int), ())))
 (some ((x0, (0 : Int), ())))
def spec_l6Open_fn (fuel : Nat) (x : (((List Int) × Unit) × Unit)) : Option ((List Int) × (Int × Unit)) := spec_l6Open_pre fuel x.1.1
theorem spec_l6Open_run (fuel : Nat) (x : PsT spec_l6Open_ps) : run (spec_l6Open_T fuel) 0 fuel spec_l6Open_c (env0 (svPs spec_l6Open_ps x) 0) [] (endP spec_l6Open_rv spec_l6Open_cs 69) = spec_l6Open_fn fuel x := by kernel_rfl
def spec_l6Open_tf (fuel : Nat) : TFP := ⟨spec_l6Open_ps, spec_l6Open_cs, 69, spec_l6Open_fn fuel⟩
theorem spec_l6Open_spec (fuel : Nat) : FnSpecP Try.prog 34 (spec_l6Open_tf fuel) :=
  fn_specP (T := spec_l6Open_T fuel) (c := bodyOf Try.f34) (fn := Try.f34) (TabOK.of (entNil) methNil) mixed (by kernel_rfl) (by kernel_rfl) spec_l6Open_l (by kernel_rfl) (Nat.le_of_ble_eq_true (by kernel_rfl)) (rv := spec_l6Open_rv) (by kernel_rfl) (spec_l6Open_run fuel)
theorem spec_l6Open_ok (fuel : Nat) : EntryOK Try.prog 34 (spec_l6Open_tf fuel).te := EntryOK.tfp (spec_l6Open_spec fuel) (isFn (fn := Try.f34) (by kernel_rfl) (by kernel_rfl) (by kernel_rfl))

/-! ### spec_l6In -/
def spec_l6In_T (fuel : Nat) : Tab := Tab.of [] []
abbrev spec_l6In_ps : List Pm := [{ cs := [(Kd.int IntKind.i64, false)], ag := false }, { cs := [(Kd.int IntKind.i64, false)], ag := false }, { cs := [(Kd.int IntKind.i64, false)], ag := false }]
abbrev spec_l6In_rs : List Pm := [{ cs := [(Kd.bool, false)], ag := false }]
def spec_l6In_ann : List Norm := []
noncomputable def spec_l6In_c : C := irOf Try.prog Try.f30 [] spec_l6In_ann []
theorem spec_l6In_l : lightC Try.prog [] Try.f30.ntmps spec_l6In_ann [] 0 (bodyOf Try.f30) = some (spec_l6In_c, 0) := by kernel_rfl
def spec_l6In_rv : List (Nat × Option (Nat × Bool)) := [(6, none)]
def spec_l6In_pre (fuel : Nat) (x0 : Int) (x1 : Int) (x2 : Int) : Option ((Bool × Unit) × Unit) :=
 cond (decide (x0 ≥ x1))
 (some (((decide (x0 ≤ x2), ()), ())))
 (some (((false, ()), ())))
def spec_l6In_fn (fuel : Nat) (x : ((Int × Unit) × ((Int × Unit) × ((Int × Unit) × Unit)))) : Option ((Bool × Unit) × Unit) := spec_l6In_pre fuel x.1.1 x.2.1.1 x.2.2.1.1
theorem spec_l6In_run (fuel : Nat) (x : PsT spec_l6In_ps) : run (spec_l6In_T fuel) 0 fuel spec_l6In_c (env0 (svPs spec_l6In_ps x) 0) [] (endF spec_l6In_rv spec_l6In_rs) = spec_l6In_fn fuel x := by kernel_rfl
def spec_l6In_tf (fuel : Nat) : TF := ⟨spec_l6In_ps, spec_l6In_rs, true, spec_l6In_fn fuel⟩
theorem spec_l6In_spec (fuel : Nat) : FnSpec Try.prog 30 (spec_l6In_tf fuel) :=
  fn_spec (T := spec_l6In_T fuel) (c := bodyOf Try.f30) (fn := Try.f30) (TabOK.of (entNil) methNil) mixed (by kernel_rfl) (by kernel_rfl) spec_l6In_l (by kernel_rfl) (Nat.le_of_ble_eq_true (by kernel_rfl)) (rv := spec_l6In_rv) (by kernel_rfl) (spec_l6In_run fuel)
theorem spec_l6In_ok (fuel : Nat) : EntryOK Try.prog 30 (spec_l6In_tf fuel).te := EntryOK.tf rfl (spec_l6In_spec fuel) (isFn (fn := Try.f30) (by kernel_rfl) (by kernel_rfl) (by kernel_rfl))

/-! ### spec_RankOk -/
def spec_RankOk_T (fuel : Nat) : Tab := Tab.of [(30, (spec_l6In_tf fuel).te)] []
abbrev spec_RankOk_ps : List Pm := [{ cs := [(Kd.list (Kd.pair (Kd.int IntKind.i64) (Kd.pair (Kd.int IntKind.i64) Kd.unit)), false), (Kd.int IntKind.i64, false)], ag := true }]
abbrev spec_RankOk_rs : List Pm := [{ cs := [(Kd.bool, false)], ag := false }]
def spec_RankOk_ann : List Norm := [{ live := [4, 1, 3], fix := [] }]
noncomputable def spec_RankOk_c : C := irOf Try.prog Try.f29 [] spec_RankOk_ann []
theorem spec_RankOk_l : lightC Try.prog [] Try.f29.ntmps spec_RankOk_ann [] 0 (bodyOf Try.f29) = some (spec_RankOk_c, 1) := by kernel_rfl
def spec_RankOk_rv : List (Nat × Option (Nat × Bool)) := [(2, none)]
abbrev spec_RankOk_V0 := (Int) × (Int) × (List (Int × Int × Unit)) × (Int)
def spec_RankOk_enc0 (v : spec_RankOk_V0) : Env × Heap := ([(4, SV.int IntKind.i64 v.1), (1, SV.ptr 0 0), (3, SV.int IntKind.i64 v.2.1)], [Blk.cells [SV.es (Kd.pair (Kd.int IntKind.i64) (Kd.pair (Kd.int IntKind.i64) Kd.unit)) v.2.2.1, SV.int IntKind.i64 v.2.2.2] 0 2])
def spec_RankOk_step0 (fuel : Nat) (g0 : spec_RankOk_V0 → Option ((Bool × Unit) × Unit)) (v : spec_RankOk_V0) : Option ((Bool × Unit) × Unit) :=
 cond (decide (v.1 < (zz (List.length v.2.2.1))))
 (tst (decide (0 ≤ v.1)) <|
  tst (decide (v.1 < (zz (List.length v.2.2.1)))) <|
  Option.bind (spec_l6In_fn fuel (((List.getD v.2.2.1 (Int.toNat v.1) (0, (0, ()))).fst, ()), ((1 : Int), ()), ((127 : Int), ()), ())) fun y_2 =>
  cond (!y_2.fst.fst)
   (some (((false, ()), ())))
   (Option.bind (spec_l6In_fn fuel (((List.getD v.2.2.1 (Int.toNat v.1) (0, (0, ()))).snd.fst, ()), ((1 : Int), ()), ((2000 : Int), ()), ())) fun y_4 =>
    cond (!y_4.fst.fst)
     (some (((false, ()), ())))
     (cond (decide (v.1 > (0 : Int)))
      (tst (decide (0 ≤ w64 (v.1 - (1 : Int)))) <|
       tst (decide (w64 (v.1 - (1 : Int)) < (zz (List.length v.2.2.1)))) <|
       cond (decide ((List.getD v.2.2.1 (Int.toNat (w64 (v.1 - (1 : Int)))) (0, (0, ()))).fst ≥ (List.getD v.2.2.1 (Int.toNat v.1) (0, (0, ()))).fst))
       (some (((false, ()), ())))
       (cond (decide ((List.getD v.2.2.1 (Int.toNat v.1) (0, (0, ()))).fst < (64 : Int)))
        (cond (decide ((List.getD v.2.2.1 (Int.toNat v.1) (0, (0, ()))).snd.fst > w64 (Int.tdiv v.2.2.2 (8 : Int))))
         (some (((false, ()), ())))
         (g0 (w64 (v.1 + (1 : Int)), w64 (v.2.1 + (List.getD v.2.2.1 (Int.toNat v.1) (0, (0, ()))).snd.fst), v.2.2.1, v.2.2.2)))
        (g0 (w64 (v.1 + (1 : Int)), w64 (v.2.1 + (List.getD v.2.2.1 (Int.toNat v.1) (0, (0, ()))).snd.fst), v.2.2.1, v.2.2.2))))
      (cond (decide ((List.getD v.2.2.1 (Int.toNat v.1) (0, (0, ()))).fst < (64 : Int)))
       (cond (decide ((List.getD v.2.2.1 (Int.toNat v.1) (0, (0, ()))).snd.fst > w64 (Int.tdiv v.2.2.2 (8 : Int))))
        (some (((false, ()), ())))
        (g0 (w64 (v.1 + (1 : Int)), w64 (v.2.1 + (List.getD v.2.2.1 (Int.toNat v.1) (0, (0, ()))).snd.fst), v.2.2.1, v.2.2.2)))
       (g0 (w64 (v.1 + (1 : Int)), w64 (v.2.1 + (List.getD v.2.2.1 (Int.toNat v.1) (0, (0, ()))).snd.fst), v.2.2.1, v.2.2.2))))))
 (some (((v.2.1 == v.2.2.2, ()), ())))
def spec_RankOk_st0 (fuel : Nat) (g0 : spec_RankOk_V0 → Option ((Bool × Unit) × Unit)) : spec_RankOk_V0 → Option ((Bool × Unit) × Unit) := spec_RankOk_step0 fuel g0
theorem spec_RankOk_lp0 (fuel : Nat) (G) : spec_RankOk_c.lp (spec_RankOk_T fuel) 0 fuel G (endF spec_RankOk_rv spec_RankOk_rs) 0 spec_RankOk_enc0 = iter (spec_RankOk_st0 fuel) fuel := C.lp_iter fun g v => by kernel_rfl
def spec_RankOk_pre (fuel : Nat) (X0 : spec_RankOk_V0 → Option ((Bool × Unit) × Unit)) (x0 : List (Int × Int × Unit)) (x1 : Int) : Option ((Bool × Unit) × Unit) :=
 Option.bind (spec_l6In_fn fuel ((x1, ()), ((0 : Int), ()), ((2000 : Int), ()), ())) fun y_1 =>
 cond (!y_1.fst.fst)
  (some (((false, ()), ())))
  (X0 ((0 : Int), (0 : Int), x0, x1))
def spec_RankOk_fn (fuel : Nat) (x : (((List (Int × (Int × Unit))) × (Int × Unit)) × Unit)) : Option ((Bool × Unit) × Unit) := spec_RankOk_pre fuel (iter (spec_RankOk_st0 fuel) fuel) x.1.1 x.1.2.1
theorem spec_RankOk_run (fuel : Nat) (x : PsT spec_RankOk_ps) : run (spec_RankOk_T fuel) 0 fuel spec_RankOk_c (env0 (svPs spec_RankOk_ps x) 0) [] (endF spec_RankOk_rv spec_RankOk_rs) = spec_RankOk_fn fuel x :=
  (show run (spec_RankOk_T fuel) 0 fuel spec_RankOk_c (env0 (svPs spec_RankOk_ps x) 0) [] (endF spec_RankOk_rv spec_RankOk_rs) = spec_RankOk_pre fuel (spec_RankOk_c.lp (spec_RankOk_T fuel) 0 fuel (fun _ _ _ => none) (endF spec_RankOk_rv spec_RankOk_rs) 0 spec_RankOk_enc0) x.1.1 x.1.2.1 by kernel_rfl).trans (by rw [spec_RankOk_lp0]; rfl)
def spec_RankOk_tf (fuel : Nat) : TF := ⟨spec_RankOk_ps, spec_RankOk_rs, true, spec_RankOk_fn fuel⟩
theorem spec_RankOk_spec (fuel : Nat) : FnSpec Try.prog 29 (spec_RankOk_tf fuel) :=
  fn_spec (T := spec_RankOk_T fuel) (c := bodyOf Try.f29) (fn := Try.f29) (TabOK.of (entCons (spec_l6In_ok fuel) entNil) methNil) mixed (by kernel_rfl) (by kernel_rfl) spec_RankOk_l (by kernel_rfl) (Nat.le_of_ble_eq_true (by kernel_rfl)) (rv := spec_RankOk_rv) (by kernel_rfl) (spec_RankOk_run fuel)
theorem spec_RankOk_ok (fuel : Nat) : EntryOK Try.prog 29 (spec_RankOk_tf fuel).te := EntryOK.tf rfl (spec_RankOk_spec fuel) (isFn (fn := Try.f29) (by kernel_rfl) (by kernel_rfl) (by kernel_rfl))

/-! ### spec_l4Nums -/
def spec_l4Nums_T (fuel : Nat) : Tab := Tab.of [] []
abbrev spec_l4Nums_ps : List Pm := [{ cs := [(Kd.list (Kd.pair (Kd.int IntKind.i64) (Kd.pair (Kd.int IntKind.i64) Kd.unit)), false)], ag := false }]
abbrev spec_l4Nums_rs : List Pm := [{ cs := [(Kd.list (Kd.int IntKind.i64), true)], ag := false }]
def spec_l4Nums_ann : List Norm := [{ live := [4, 0, 3], fix := [] }]
noncomputable def spec_l4Nums_c : C := irOf Try.prog Try.f36 [] spec_l4Nums_ann []
theorem spec_l4Nums_l : lightC Try.prog [] Try.f36.ntmps spec_l4Nums_ann [] 0 (bodyOf Try.f36) = some (spec_l4Nums_c, 1) := by kernel_rfl
def spec_l4Nums_rv : List (Nat × Option (Nat × Bool)) := [(2, none)]
abbrev spec_l4Nums_V0 := (Int) × (List (Int × Int × Unit)) × (List Int)
def spec_l4Nums_enc0 (v : spec_l4Nums_V0) : Env × Heap := ([(4, SV.int IntKind.i64 v.1), (0, SV.es (Kd.pair (Kd.int IntKind.i64) (Kd.pair (Kd.int IntKind.i64) Kd.unit)) v.2.1), (3, SV.own 0)], [Blk.arr (Kd.int IntKind.i64) v.2.2 0])
def spec_l4Nums_step0 (fuel : Nat) (g0 : spec_l4Nums_V0 → Option (((List Int) × Unit) × Unit)) (v : spec_l4Nums_V0) : Option (((List Int) × Unit) × Unit) :=
 cond (decide (v.1 < (zz (List.length v.2.1))))
 (tst (decide (0 ≤ v.1)) <|
  tst (decide (v.1 < (zz (List.length v.2.1)))) <|
  tst (decide (0 ≤ v.1)) <|
  tst (decide (v.1 < (zz (List.length v.2.1)))) <|
  tst (decide (0 ≤ (List.getD v.2.1 (Int.toNat v.1) (0, (0, ()))).fst)) <|
  tst (decide ((List.getD v.2.1 (Int.toNat v.1) (0, (0, ()))).fst < (zz (List.length v.2.2)))) <|
  tst (decide (Int.toNat (List.getD v.2.1 (Int.toNat v.1) (0, (0, ()))).fst < List.length v.2.2)) <|
  tst (decide (0 ≤ v.1)) <|
  tst (decide (v.1 < (zz (List.length v.2.1)))) <|
  tst (decide (0 ≤ (List.getD v.2.1 (Int.toNat v.1) (0, (0, ()))).fst)) <|
  tst (decide ((List.getD v.2.1 (Int.toNat v.1) (0, (0, ()))).fst < (zz (List.length v.2.2)))) <|
  tst (decide (Int.toNat (List.getD v.2.1 (Int.toNat v.1) (0, (0, ()))).fst < List.length v.2.2)) <|
  g0 (w64 (v.1 + (1 : Int)), v.2.1, List.set v.2.2 (Int.toNat (List.getD v.2.1 (Int.toNat v.1) (0, (0, ()))).fst) (w64 (List.getD v.2.2 (Int.toNat (List.getD v.2.1 (Int.toNat v.1) (0, (0, ()))).fst) 0 + (List.getD v.2.1 (Int.toNat v.1) (0, (0, ()))).snd.fst))))
 (some (((v.2.2, ()), ())))
def spec_l4Nums_st0 (fuel : Nat) (g0 : spec_l4Nums_V0 → Option (((List Int) × Unit) × Unit)) : spec_l4Nums_V0 → Option (((List Int) × Unit) × Unit) := spec_l4Nums_step0 fuel g0
theorem spec_l4Nums_lp0 (fuel : Nat) (G) : spec_l4Nums_c.lp (spec_l4Nums_T fuel) 0 fuel G (endF spec_l4Nums_rv spec_l4Nums_rs) 0 spec_l4Nums_enc0 = iter (spec_l4Nums_st0 fuel) fuel := C.lp_iter fun g v => by kernel_rfl
def spec_l4Nums_pre (fuel : Nat) (X0 : spec_l4Nums_V0 → Option (((List Int) × Unit) × Unit)) (x0 : List (Int × Int × Unit)) : Option (((List Int) × Unit) × Unit) :=
 X0 ((0 : Int), x0, List.replicate (Int.toNat (128 : Int)) 0)
def spec_l4Nums_fn (fuel : Nat) (x : (((List (Int × (Int × Unit))) × Unit) × Unit)) : Option (((List Int) × Unit) × Unit) := spec_l4Nums_pre fuel (iter (spec_l4Nums_st0 fuel) fuel) x.1.1
theorem spec_l4Nums_run (fuel : Nat) (x : PsT spec_l4Nums_ps) : run (spec_l4Nums_T fuel) 0 fuel spec_l4Nums_c (env0 (svPs spec_l4Nums_ps x) 0) [] (endF spec_l4Nums_rv spec_l4Nums_rs) = spec_l4Nums_fn fuel x :=
  (show run (spec_l4Nums_T fuel) 0 fuel spec_l4Nums_c (env0 (svPs spec_l4Nums_ps x) 0) [] (endF spec_l4Nums_rv spec_l4Nums_rs) = spec_l4Nums_pre fuel (spec_l4Nums_c.lp (spec_l4Nums_T fuel) 0 fuel (fun _ _ _ => none) (endF spec_l4Nums_rv spec_l4Nums_rs) 0 spec_l4Nums_enc0) x.1.1 by kernel_rfl).trans (by rw [spec_l4Nums_lp0]; rfl)
def spec_l4Nums_tf (fuel : Nat) : TF := ⟨spec_l4Nums_ps, spec_l4Nums_rs, true, spec_l4Nums_fn fuel⟩
theorem spec_l4Nums_spec (fuel : Nat) : FnSpec Try.prog 36 (spec_l4Nums_tf fuel) :=
  fn_spec (T := spec_l4Nums_T fuel) (c := bodyOf Try.f36) (fn := Try.f36) (TabOK.of (entNil) methNil) mixed (by kernel_rfl) (by kernel_rfl) spec_l4Nums_l (by kernel_rfl) (Nat.le_of_ble_eq_true (by kernel_rfl)) (rv := spec_l4Nums_rv) (by kernel_rfl) (spec_l4Nums_run fuel)
theorem spec_l4Nums_ok (fuel : Nat) : EntryOK Try.prog 36 (spec_l4Nums_tf fuel).te := EntryOK.tf rfl (spec_l4Nums_spec fuel) (isFn (fn := Try.f36) (by kernel_rfl) (by kernel_rfl) (by kernel_rfl))

/-! ### spec_l4List -/
def spec_l4List_T (fuel : Nat) : Tab := Tab.of [] []
abbrev spec_l4List_ps : List Pm := [{ cs := [(Kd.list (Kd.int IntKind.i64), false)], ag := false }]
abbrev spec_l4List_rs : List Pm := [{ cs := [(Kd.list (Kd.pair (Kd.int IntKind.i64) (Kd.pair (Kd.int IntKind.i64) Kd.unit)), true)], ag := false }]
def spec_l4List_ann : List Norm := [{ live := [4, 0, 3], fix := [(3, none, Kd.pair (Kd.int IntKind.i64) (Kd.pair (Kd.int IntKind.i64) Kd.unit), true)] }]
noncomputable def spec_l4List_c : C := irOf Try.prog Try.f37 [] spec_l4List_ann []
theorem spec_l4List_l : lightC Try.prog [] Try.f37.ntmps spec_l4List_ann [] 0 (bodyOf Try.f37) = some (spec_l4List_c, 1) := by kernel_rfl
def spec_l4List_rv : List (Nat × Option (Nat × Bool)) := [(2, none)]
abbrev spec_l4List_V0 := (Int) × (List Int) × (List (Int × Int × Unit))
def spec_l4List_enc0 (v : spec_l4List_V0) : Env × Heap := ([(4, SV.int IntKind.i64 v.1), (0, SV.es (Kd.int IntKind.i64) v.2.1), (3, SV.own 0)], [Blk.arr (Kd.pair (Kd.int IntKind.i64) (Kd.pair (Kd.int IntKind.i64) Kd.unit)) v.2.2 0])
def spec_l4List_step0 (fuel : Nat) (g0 : spec_l4List_V0 → Option (((List (Int × (Int × Unit))) × Unit) × Unit)) (v : spec_l4List_V0) : Option (((List (Int × (Int × Unit))) × Unit) × Unit) :=
 cond (decide (v.1 < (zz (List.length v.2.1))))
 (tst (decide (0 ≤ v.1)) <|
  tst (decide (v.1 < (zz (List.length v.2.1)))) <|
  cond (decide (List.getD v.2.1 (Int.toNat v.1) 0 > (0 : Int)))
  (tst (decide (0 ≤ v.1)) <|
   tst (decide (v.1 < (zz (List.length v.2.1)))) <|
   tst (decide (List.length v.2.2 + List.length [(v.1, List.getD v.2.1 (Int.toNat v.1) 0, ())] < LIM)) <|
   g0 (w64 (v.1 + (1 : Int)), v.2.1, v.2.2 ++ [(v.1, List.getD v.2.1 (Int.toNat v.1) 0, ())]))
  (g0 (w64 (v.1 + (1 : Int)), v.2.1, v.2.2)))
 (some (((v.2.2, ()), ())))
def spec_l4List_st0 (fuel : Nat) (g0 : spec_l4List_V0 → Option (((List (Int × (Int × Unit))) × Unit) × Unit)) : spec_l4List_V0 → Option (((List (Int × (Int × Unit))) × Unit) × Unit) := spec_l4List_step0 fuel g0
theorem spec_l4List_lp0 (fuel : Nat) (G) : spec_l4List_c.lp (spec_l4List_T fuel) 0 fuel G (endF spec_l4List_rv spec_l4List_rs) 0 spec_l4List_enc0 = iter (spec_l4List_st0 fuel) fuel := C.lp_iter fun g v => by kernel_rfl
def spec_l4List_pre (fuel : Nat) (X0 : spec_l4List_V0 → Option (((List (Int × (Int × Unit))) × Unit) × Unit)) (x0 : List Int) : Option (((List (Int × (Int × Unit))) × Unit) × Unit) :=
 X0 ((1 : Int), x0, [])
def spec_l4List_fn (fuel : Nat) (x : (((List Int) × Unit) × Unit)) : Option (((List (Int × (Int × Unit))) × Unit) × Unit) := spec_l4List_pre fuel (iter (spec_l4List_st0 fuel) fuel) x.1.1
theorem spec_l4List_run (fuel : Nat) (x : PsT spec_l4List_ps) : run (spec_l4List_T fuel) 0 fuel spec_l4List_c (env0 (svPs spec_l4List_ps x) 0) [] (endF spec_l4List_rv spec_l4List_rs) = spec_l4List_fn fuel x :=
  (show run (spec_l4List_T fuel) 0 fuel spec_l4List_c (env0 (svPs spec_l4List_ps x) 0) [] (endF spec_l4List_rv spec_l4List_rs) = spec_l4List_pre fuel (spec_l4List_c.lp (spec_l4List_T fuel) 0 fuel (fun _ _ _ => none) (endF spec_l4List_rv spec_l4List_rs) 0 spec_l4List_enc0) x.1.1 by kernel_rfl).trans (by rw [spec_l4List_lp0]; rfl)
def spec_l4List_tf (fuel : Nat) : TF := ⟨spec_l4List_ps, spec_l4List_rs, true, spec_l4List_fn fuel⟩
theorem spec_l4List_spec (fuel : Nat) : FnSpec Try.prog 37 (spec_l4List_tf fuel) :=
  fn_spec (T := spec_l4List_T fuel) (c := bodyOf Try.f37) (fn := Try.f37) (TabOK.of (entNil) methNil) mixed (by kernel_rfl) (by kernel_rfl) spec_l4List_l (by kernel_rfl) (Nat.le_of_ble_eq_true (by kernel_rfl)) (rv := spec_l4List_rv) (by kernel_rfl) (spec_l4List_run fuel)
theorem spec_l4List_ok (fuel : Nat) : EntryOK Try.prog 37 (spec_l4List_tf fuel).te := EntryOK.tf rfl (spec_l4List_spec fuel) (isFn (fn := Try.f37) (by kernel_rfl) (by kernel_rfl) (by kernel_rfl))

/-! ### spec_l4Squeeze -/
def spec_l4Squeeze_T (fuel : Nat) : Tab := Tab.of [] []
abbrev spec_l4Squeeze_ps : List Pm := [{ cs := [(Kd.int IntKind.i64, false)], ag := false }]
abbrev spec_l4Squeeze_rs : List Pm := []
def spec_l4Squeeze_ann : List Norm := [{ live := [5, 0, 1], fix := [] }]
noncomputable def spec_l4Squeeze_c : C := irOf Try.prog Try.f38 [] spec_l4Squeeze_ann []
theorem spec_l4Squeeze_l : lightC Try.prog [] Try.f38.ntmps spec_l4Squeeze_ann [] 0 (bodyOf Try.f38) = some (spec_l4Squeeze_c, 1) := by kernel_rfl
def spec_l4Squeeze_rv : List (Nat × Option (Nat × Bool)) := [(4, none)]
abbrev spec_l4Squeeze_V0 := (Int) × (Int) × (List Int)
def spec_l4Squeeze_enc0 (v : spec_l4Squeeze_V0) : Env × Heap := ([(5, SV.int IntKind.i64 v.1), (0, SV.own 0), (1, SV.int IntKind.i64 v.2.1)], [Blk.arr (Kd.int IntKind.i64) v.2.2 0])
def spec_l4Squeeze_step0 (fuel : Nat) (g0 : spec_l4Squeeze_V0 → Option ((List Int) × Unit)) (v : spec_l4Squeeze_V0) : Option ((List Int) × Unit) :=
 cond (decide (v.1 ≥ (2 : Int)))
 (tst (decide (0 ≤ v.1)) <|
  tst (decide (v.1 < (zz (List.length v.2.2)))) <|
  tst (decide (Int.toNat v.1 < List.length v.2.2)) <|
  tst (decide (0 ≤ w64 (v.1 + (1 : Int)))) <|
  tst (decide (w64 (v.1 + (1 : Int)) < (zz (List.length v.2.2)))) <|
  tst (decide (Int.toNat (w64 (v.1 + (1 : Int))) < List.length v.2.2)) <|
  cond (decide (w64 (List.getD v.2.2 (Int.toNat v.1) 0 + List.getD v.2.2 (Int.toNat (w64 (v.1 + (1 : Int)))) 0) > (0 : Int)))
  (tst (decide (0 ≤ w64 (Int.tdiv v.1 (2 : Int)))) <|
   tst (decide (w64 (Int.tdiv v.1 (2 : Int)) < (zz (List.length v.2.2)))) <|
   tst (decide (Int.toNat (w64 (Int.tdiv v.1 (2 : Int))) < List.length v.2.2)) <|
   cond (decide (w64 (w64 (List.getD v.2.2 (Int.toNat v.1) 0 + List.getD v.2.2 (Int.toNat (w64 (v.1 + (1 : Int)))) 0) + List.getD v.2.2 (Int.toNat (w64 (Int.tdiv v.1 (2 : Int)))) 0) ≤ w64 (Int.tdiv v.2.1 (8 : Int))))
   (tst (decide (0 ≤ w64 (Int.tdiv v.1 (2 : Int)))) <|
    tst (decide (w64 (Int.tdiv v.1 (2 : Int)) < (zz (List.length v.2.2)))) <|
    tst (decide (Int.toNat (w64 (Int.tdiv v.1 (2 : Int))) < List.length v.2.2)) <|
    tst (decide (0 ≤ w64 (Int.tdiv v.1 (2 : Int)))) <|
    tst (decide (w64 (Int.tdiv v.1 (2 : Int)) < (zz (List.length v.2.2)))) <|
    tst (decide (Int.toNat (w64 (Int.tdiv v.1 (2 : Int))) < List.length v.2.2)) <|
    tst (decide (0 ≤ v.1)) <|
    tst (decide (v.1 < (zz (List.length (List.set v.2.2 (Int.toNat (w64 (Int.tdiv v.1 (2 : Int)))) (w64 (List.getD v.2.2 (Int.toNat (w64 (Int.tdiv v.1 (2 : Int)))) 0 + w64 (List.getD v.2.2 (Int.toNat v.1) 0 + List.getD v.2.2 (Int.toNat (w64 (v.1 + (1 : Int)))) 0)))))))) <|
    tst (decide (Int.toNat v.1 < List.length (List.set v.2.2 (Int.toNat (w64 (Int.tdiv v.1 (2 : Int)))) (w64 (List.getD v.2.2 (Int.toNat (w64 (Int.tdiv v.1 (2 : Int)))) 0 + w64 (List.getD v.2.2 (Int.toNat v.1) 0 + List.getD v.2.2 (Int.toNat (w64 (v.1 + (1 : Int)))) 0)))))) <|
    tst (decide (0 ≤ w64 (v.1 + (1 : Int)))) <|
    tst (decide (w64 (v.1 + (1 : Int)) < (zz (List.length (List.set (List.set v.2.2 (Int.toNat (w64 (Int.tdiv v.1 (2 : Int)))) (w64 (List.getD v.2.2 (Int.toNat (w64 (Int.tdiv v.1 (2 : Int)))) 0 + w64 (List.getD v.2.2 (Int.toNat v.1) 0 + List.getD v.2.2 (Int.toNat (w64 (v.1 + (1 : Int)))) 0)))) (Int.toNat v.1) (0 : Int)))))) <|
    tst (decide (Int.toNat (w64 (v.1 + (1 : Int))) < List.length (List.set (List.set v.2.2 (Int.toNat (w64 (Int.tdiv v.1 (2 : Int)))) (w64 (List.getD v.2.2 (Int.toNat (w64 (Int.tdiv v.1 (2 : Int)))) 0 + w64 (List.getD v.2.2 (Int.toNat v.1) 0 + List.getD v.2.2 (Int.toNat (w64 (v.1 + (1 : Int)))) 0)))) (Int.toNat v.1) (0 : Int)))) <|
    g0 (w64 (v.1 - (2 : Int)), v.2.1, List.set (List.set (List.set v.2.2 (Int.toNat (w64 (Int.tdiv v.1 (2 : Int)))) (w64 (List.getD v.2.2 (Int.toNat (w64 (Int.tdiv v.1 (2 : Int)))) 0 + w64 (List.getD v.2.2 (Int.toNat v.1) 0 + List.getD v.2.2 (Int.toNat (w64 (v.1 + (1 : Int)))) 0)))) (Int.toNat v.1) (0 : Int)) (Int.toNat (w64 (v.1 + (1 : Int)))) (0 : Int)))
   (g0 (w64 (v.1 - (2 : Int)), v.2.1, v.2.2)))
  (g0 (w64 (v.1 - (2 : Int)), v.2.1, v.2.2)))
 (some ((v.2.2, ())))
def spec_l4Squeeze_st0 (fuel : Nat) (g0 : spec_l4Squeeze_V0 → Option ((List Int) × Unit)) : spec_l4Squeeze_V0 → Option ((List Int) × Unit) := spec_l4Squeeze_step0 fuel g0
theorem spec_l4Squeeze_lp0 (fuel : Nat) (G) : spec_l4Squeeze_c.lp (spec_l4Squeeze_T fuel) 1 fuel G (endS spec_l4Squeeze_rv (Kd.int IntKind.i64) true spec_l4Squeeze_rs) 0 spec_l4Squeeze_enc0 = iter (spec_l4Squeeze_st0 fuel) fuel := C.lp_iter fun g v => by kernel_rfl
def spec_l4Squeeze_pre (fuel : Nat) (X0 : spec_l4Squeeze_V0 → Option ((List Int) × Unit)) (d0 : List Int) (x0 : Int) : Option ((List Int) × Unit) :=
 X0 (w64 ((zz (List.length d0)) - (2 : Int)), x0, d0)
def spec_l4Squeeze_fn (fuel : Nat) (z : (List Int) × Unit × ((Int × Unit) × Unit)) : Option ((List Int) × Unit) := spec_l4Squeeze_pre fuel (iter (spec_l4Squeeze_st0 fuel) fuel) z.1 z.2.2.1.1
theorem spec_l4Squeeze_run (fuel : Nat) (c : List (Kd.T (Kd.int IntKind.i64))) (d : CsT []) (x : PsT spec_l4Squeeze_ps) : run (spec_l4Squeeze_T fuel) 1 fuel spec_l4Squeeze_c ((0, firstV false 0 (svCs [] d)) :: env0 (svPs spec_l4Squeeze_ps x) 1) [.arr (Kd.int IntKind.i64) c 0] (endS spec_l4Squeeze_rv (Kd.int IntKind.i64) true spec_l4Squeeze_rs) = spec_l4Squeeze_fn fuel (c, d, x) :=
  (show run (spec_l4Squeeze_T fuel) 1 fuel spec_l4Squeeze_c ((0, firstV false 0 (svCs [] d)) :: env0 (svPs spec_l4Squeeze_ps x) 1) [.arr (Kd.int IntKind.i64) c 0] (endS spec_l4Squeeze_rv (Kd.int IntKind.i64) true spec_l4Squeeze_rs) = spec_l4Squeeze_pre fuel (spec_l4Squeeze_c.lp (spec_l4Squeeze_T fuel) 1 fuel (fun _ _ _ => none) (endS spec_l4Squeeze_rv (Kd.int IntKind.i64) true spec_l4Squeeze_rs) 0 spec_l4Squeeze_enc0) c x.1.1 by kernel_rfl).trans (by rw [spec_l4Squeeze_lp0]; rfl)
def spec_l4Squeeze_tf (fuel : Nat) : TFS := ⟨(Kd.int IntKind.i64), false, [], spec_l4Squeeze_ps, spec_l4Squeeze_rs, true, spec_l4Squeeze_fn fuel⟩
theorem spec_l4Squeeze_spec (fuel : Nat) : FnSpecS Try.prog 38 (spec_l4Squeeze_tf fuel) :=
  fn_specS (T := spec_l4Squeeze_T fuel) (c := bodyOf Try.f38) (fn := Try.f38) (TabOK.of (entNil) methNil) mixed (by kernel_rfl) (by kernel_rfl) spec_l4Squeeze_l (by kernel_rfl) (Nat.le_of_ble_eq_true (by kernel_rfl)) (rv := spec_l4Squeeze_rv) (by kernel_rfl) (spec_l4Squeeze_run fuel)
theorem spec_l4Squeeze_ok (fuel : Nat) : EntryOK Try.prog 38 (spec_l4Squeeze_tf fuel).te := EntryOK.tfs (spec_l4Squeeze_spec fuel) (isFn (fn := Try.f38) (by kernel_rfl) (by kernel_rfl) (by kernel_rfl))

/-! ### spec_RankAdd -/
def spec_RankAdd_T (fuel : Nat) : Tab := Tab.of [(29, (spec_RankOk_tf fuel).te), (30, (spec_l6In_tf fuel).te), (36, (spec_l4Nums_tf fuel).te), (37, (spec_l4List_tf fuel).te), (38, (spec_l4Squeeze_tf fuel).te)] []
abbrev spec_RankAdd_ps : List Pm := [{ cs := [(Kd.list (Kd.pair (Kd.int IntKind.i64) (Kd.pair (Kd.int IntKind.i64) Kd.unit)), false), (Kd.int IntKind.i64, false)], ag := true }, { cs := [(Kd.int IntKind.i64, false)], ag := false }]
abbrev spec_RankAdd_rs : List Pm := [{ cs := [(Kd.list (Kd.pair (Kd.int IntKind.i64) (Kd.pair (Kd.int IntKind.i64) Kd.unit)), true), (Kd.int IntKind.i64, false)], ag := true }, { cs := [(Kd.bool, false)], ag := false }]
def spec_RankAdd_ann : List Norm := []
noncomputable def spec_RankAdd_c : C := irOf Try.prog Try.f26 [41] spec_RankAdd_ann []
theorem spec_RankAdd_l : lightC Try.prog [41] Try.f26.ntmps spec_RankAdd_ann [] 0 (bodyOf Try.f26) = some (spec_RankAdd_c, 0) := by kernel_rfl
def spec_RankAdd_rv : List (Nat × Option (Nat × Bool)) := [(4, some (2, true)), (5, none)]
def spec_RankAdd_pre (fuel : Nat) (x0 : List (Int × Int × Unit)) (x1 : Int) (x2 : Int) : Option (((List (Int × (Int × Unit))) × (Int × Unit)) × ((Bool × Unit) × Unit)) :=
 Option.bind (spec_RankOk_fn fuel ((x0, x1, ()), ())) fun y_1 =>
 cond (!y_1.fst.fst)
  (some ((([], (0 : Int), ()), (false, ()), ())))
  (Option.bind (spec_l6In_fn fuel ((x2, ()), ((0 : Int), ()), ((63 : Int), ()), ())) fun y_3 =>
   cond (!y_3.fst.fst)
    (some ((([], (0 : Int), ()), (false, ()), ())))
    (cond (decide (x1 ≥ (2000 : Int)))
     (some ((([], (0 : Int), ()), (false, ()), ())))
     (Option.bind (spec_l4Nums_fn fuel ((x0, ()), ())) fun y_6 =>
      tst (decide (0 ≤ w64 ((64 : Int) + x2))) <|
       tst (decide (w64 ((64 : Int) + x2) < (zz (List.length y_6.fst.fst)))) <|
       tst (decide (Int.toNat (w64 ((64 : Int) + x2)) < List.length y_6.fst.fst)) <|
       tst (decide (0 ≤ w64 ((64 : Int) + x2))) <|
       tst (decide (w64 ((64 : Int) + x2) < (zz (List.length y_6.fst.fst)))) <|
       tst (decide (Int.toNat (w64 ((64 : Int) + x2)) < List.length y_6.fst.fst)) <|
       Option.bind (spec_l4Squeeze_fn fuel (List.set y_6.fst.fst (Int.toNat (w64 ((64 : Int) + x2))) (w64 (List.getD y_6.fst.fst (Int.toNat (w64 ((64 : Int) + x2))) 0 + (1 : Int))), (), (w64 (x1 + (1 : Int)), ()), ())) fun y_7 =>
       Option.bind (spec_l4List_fn fuel ((y_7.fst, ()), ())) fun y_8 =>
        some (((y_8.fst.fst, w64 (x1 + (1 : Int)), ()), (true, ()), ())))))
def spec_RankAdd_fn (fuel : Nat) (x : (((List (Int × (Int × Unit))) × (Int × Unit)) × ((Int × Unit) × Unit))) : Option (((List (Int × (Int × Unit))) × (Int × Unit)) × ((Bool × Unit) × Unit)) := spec_RankAdd_pre fuel x.1.1 x.1.2.1 x.2.1.1
theorem spec_RankAdd_run (fuel : Nat) (x : PsT spec_RankAdd_ps) : run (spec_RankAdd_T fuel) 0 fuel spec_RankAdd_c (env0 (svPs spec_RankAdd_ps x) 0) [] (endF spec_RankAdd_rv spec_RankAdd_rs) = spec_RankAdd_fn fuel x := by kernel_rfl
def spec_RankAdd_tf (fuel : Nat) : TF := ⟨spec_RankAdd_ps, spec_RankAdd_rs, true, spec_RankAdd_fn fuel⟩
theorem spec_RankAdd_spec (fuel : Nat) : FnSpec Try.prog 26 (spec_RankAdd_tf fuel) :=
  fn_spec (T := spec_RankAdd_T fuel) (c := bodyOf Try.f26) (fn := Try.f26) (TabOK.of (entCons (spec_RankOk_ok fuel) (entCons (spec_l6In_ok fuel) (entCons (spec_l4Nums_ok fuel) (entCons (spec_l4List_ok fuel) (entCons (spec_l4Squeeze_ok fuel) entNil))))) methNil) mixed (by kernel_rfl) (by kernel_rfl) spec_RankAdd_l (by kernel_rfl) (Nat.le_of_ble_eq_true (by kernel_rfl)) (rv := spec_RankAdd_rv) (by kernel_rfl) (spec_RankAdd_run fuel)
theorem spec_RankAdd_ok (fuel : Nat) : EntryOK Try.prog 26 (spec_RankAdd_tf fuel).te := EntryOK.tf rfl (spec_RankAdd_spec fuel) (isFn (fn := Try.f26) (by kernel_rfl) (by kernel_rfl) (by kernel_rfl))

/-! ### spec_l6Rd_pick -/
def spec_l6Rd_pick_T (fuel : Nat) : Tab := Tab.of [] []
abbrev spec_l6Rd_pick_ps : List Pm := [{ cs := [(Kd.int IntKind.i64, false)], ag := false }]
abbrev spec_l6Rd_pick_rs : List Pm := [{ cs := [(Kd.int IntKind.i64, false)], ag := false }]
abbrev spec_l6Rd_pick_rf : Rf := Rf.cells [(Kd.list (Kd.int IntKind.u8), false), (Kd.int IntKind.i64, false)] 69
def spec_l6Rd_pick_ann : List Norm := []
noncomputable def spec_l6Rd_pick_c : C := irOf Try.prog Try.f45 [] spec_l6Rd_pick_ann []
theorem spec_l6Rd_pick_l : lightC Try.prog [] Try.f45.ntmps spec_l6Rd_pick_ann [] 0 (bodyOf Try.f45) = some (spec_l6Rd_pick_c, 0) := by kernel_rfl
def spec_l6Rd_pick_rv : List (Nat × Option (Nat × Bool)) := [(4, none)]
def spec_l6Rd_pick_pre (fuel : Nat) (d0 : List Int) (d1 : Int) (x0 : Int) : Option (((List Int) × (Int × Unit)) × ((Int × Unit) × Unit)) :=
 cond (decide (x0 < (1 : Int)))
 (some (((d0, w64 (d1 + (1 : Int)), ()), ((0 : Int), ()), ())))
 (cond ((zz (List.length d0)) == (0 : Int))
  (some (((d0, w64 (d1 + (1 : Int)), ()), ((0 : Int), ()), ())))
  (cond (decide (w64 (w64 (d1 + (1 : Int)) - (1 : Int)) < (zz (List.length d0))))
   (tst (decide (0 ≤ w64 (w64 (d1 + (1 : Int)) - (1 : Int)))) <|
    tst (decide (w64 (w64 (d1 + (1 : Int)) - (1 : Int)) < (zz (List.length d0)))) <|
    tst (!decide (x0 = 0)) <|
    some (((d0, w64 (d1 + (1 : Int)), ()), (Int.tmod (w64 (List.getD d0 (Int.toNat (w64 (w64 (d1 + (1 : Int)) - (1 : Int)))) 0)) x0, ()), ())))
   (tst (!decide ((zz (List.length d0)) = 0)) <|
    tst (decide (0 ≤ Int.tmod (w64 (w64 (d1 + (1 : Int)) - (1 : Int))) (zz (List.length d0)))) <|
    tst (decide (Int.tmod (w64 (w64 (d1 + (1 : Int)) - (1 : Int))) (zz (List.length d0)) < (zz (List.length d0)))) <|
    tst (!decide ((zz (List.length d0)) = 0)) <|
    tst (decide (0 ≤ Int.tmod (w64 (w64 (w64 (w64 (d1 + (1 : Int)) - (1 : Int)) * (7 : Int)) + (3 : Int))) (zz (List.length d0)))) <|
    tst (decide (Int.tmod (w64 (w64 (w64 (w64 (d1 + (1 : Int)) - (1 : Int)) * (7 : Int)) + (3 : Int))) (zz (List.length d0)) < (zz (List.length d0)))) <|
    tst (!decide ((zz (List.length d0)) = 0)) <|
    tst (!decide (x0 = 0)) <|
    some (((d0, w64 (d1 + (1 : Int)), ()), (Int.tmod (w64 (zz (BitVec.toNat (BitVec.ofInt (IntKind.bits IntKind.i64) (w64 (w64 (w64 (w64 (w64 (List.getD d0 (Int.toNat (Int.tmod (w64 (w64 (d1 + (1 : Int)) - (1 : Int))) (zz (List.length d0)))) 0) * (131 : Int)) + w64 (w64 (List.getD d0 (Int.toNat (Int.tmod (w64 (w64 (w64 (w64 (d1 + (1 : Int)) - (1 : Int)) * (7 : Int)) + (3 : Int))) (zz (List.length d0)))) 0) * (1117 : Int))) + w64 (w64 (w64 (d1 + (1 : Int)) - (1 : Int)) * (29 : Int))) + w64 (w64 (Int.tdiv (w64 (w64 (d1 + (1 : Int)) - (1 : Int))) (zz (List.length d0))) * (53 : Int)))) ^^^ BitVec.ofInt (IntKind.bits IntKind.i64) (w64 (Int.tdiv (w64 (w64 (w64 (w64 (w64 (List.getD d0 (Int.toNat (Int.tmod (w64 (w64 (d1 + (1 : Int)) - (1 : Int))) (zz (List.length d0)))) 0) * (131 : Int)) + w64 (w64 (List.getD d0 (Int.toNat (Int.tmod (w64 (w64 (w64 (w64 (d1 + (1 : Int)) - (1 : Int)) * (7 : Int)) + (3 : Int))) (zz (List.length d0)))) 0) * (1117 : Int))) + w64 (w64 (w64 (d1 + (1 : Int)) - (1 : Int)) * (29 : Int))) + w64 (w64 (Int.tdiv (w64 (w64 (d1 + (1 : Int)) - (1 : Int))) (zz (List.length d0))) * (53 : Int)))) (64 : Int))))))) x0, ()), ())))))
def spec_l6Rd_pick_fn (fuel : Nat) (z : ((List Int) × (Int × Unit)) × ((Int × Unit) × Unit)) : Option (((List Int) × (Int × Unit)) × ((Int × Unit) × Unit)) := spec_l6Rd_pick_pre fuel z.1.1 z.1.2.1 z.2.1.1
theorem spec_l6Rd_pick_run (fuel : Nat) (c : Rf.T spec_l6Rd_pick_rf) (x : PsT spec_l6Rd_pick_ps) : run (spec_l6Rd_pick_T fuel) 1 fuel spec_l6Rd_pick_c ((0, .ptr 0 0) :: env0 (svPs spec_l6Rd_pick_ps x) 1) [spec_l6Rd_pick_rf.blk c] (endU spec_l6Rd_pick_rv spec_l6Rd_pick_rf spec_l6Rd_pick_rs) = spec_l6Rd_pick_fn fuel (c, x) := by kernel_rfl
def spec_l6Rd_pick_tf (fuel : Nat) : TFU := ⟨spec_l6Rd_pick_rf, spec_l6Rd_pick_ps, spec_l6Rd_pick_rs, spec_l6Rd_pick_fn fuel⟩
theorem spec_l6Rd_pick_spec (fuel : Nat) : FnSpecU Try.prog 45 (spec_l6Rd_pick_tf fuel) :=
  fn_specU (T := spec_l6Rd_pick_T fuel) (c := bodyOf Try.f45) (fn := Try.f45) (TabOK.of (entNil) methNil) mixed (by kernel_rfl) (by kernel_rfl) spec_l6Rd_pick_l (by kernel_rfl) (Nat.le_of_ble_eq_true (by kernel_rfl)) (rv := spec_l6Rd_pick_rv) (by kernel_rfl) (spec_l6Rd_pick_run fuel)
theorem spec_l6Rd_pick_ok (fuel : Nat) : EntryOK Try.prog 45 (spec_l6Rd_pick_tf fuel).te := EntryOK.tfu (spec_l6Rd_pick_spec fuel) (isFn (fn := Try.f45) (by kernel_rfl) (by kernel_rfl) (by kernel_rfl))

/-! ### spec_l71Thing -/
def spec_l71Thing_T (fuel : Nat) : Tab := Tab.of [(45, (spec_l6Rd_pick_tf fuel).te)] []
abbrev spec_l71Thing_ps : List Pm := []
abbrev spec_l71Thing_rs : List Pm := [{ cs := [(Kd.int IntKind.i64, false)], ag := false }]
abbrev spec_l71Thing_rf : Rf := Rf.cells [(Kd.list (Kd.int IntKind.u8), false), (Kd.int IntKind.i64, false)] 69
def spec_l71Thing_ann : List Norm := []
noncomputable def spec_l71Thing_c : C := irOf Try.prog Try.f46 [] spec_l71Thing_ann []
theorem spec_l71Thing_l : lightC Try.prog [] Try.f46.ntmps spec_l71Thing_ann [] 0 (bodyOf Try.f46) = some (spec_l71Thing_c, 0) := by kernel_rfl
def spec_l71Thing_rv : List (Nat × Option (Nat × Bool)) := [(2, none)]
def spec_l71Thing_pre (fuel : Nat) (d0 : List Int) (d1 : Int) : Option (((List Int) × (Int × Unit)) × ((Int × Unit) × Unit)) :=
 Option.bind (spec_l6Rd_pick_fn fuel ((d0, d1, ()), ((12 : Int), ()), ())) fun y_1 =>
 cond (y_1.snd.fst.fst == (0 : Int))
  (Option.bind (spec_l6Rd_pick_fn fuel ((y_1.fst.fst, y_1.fst.snd.fst, ()), ((4 : Int), ()), ())) fun y_3 =>
   tst (decide (0 ≤ y_3.snd.fst.fst)) <|
    tst (decide (y_3.snd.fst.fst < (zz (List.length [(-1 : Int), (64 : Int), (0 : Int), (63 : Int)])))) <|
    tst (decide (Int.toNat y_3.snd.fst.fst < List.length [(-1 : Int), (64 : Int), (0 : Int), (63 : Int)])) <|
    some (((y_3.fst.fst, y_3.fst.snd.fst, ()), (List.getD [(-1 : Int), (64 : Int), (0 : Int), (63 : Int)] (Int.toNat y_3.snd.fst.fst) 0, ()), ())))
  (cond (y_1.snd.fst.fst == (1 : Int))
   (cond (y_1.snd.fst.fst == (1 : Int))
    (Option.bind (spec_l6Rd_pick_fn fuel ((y_1.fst.fst, y_1.fst.snd.fst, ()), ((64 : Int), ()), ())) fun y_5 =>
     some (((y_5.fst.fst, y_5.fst.snd.fst, ()), (y_5.snd.fst.fst, ()), ())))
    (Option.bind (spec_l6Rd_pick_fn fuel ((y_1.fst.fst, y_1.fst.snd.fst, ()), ((6 : Int), ()), ())) fun y_5 =>
     tst (decide (0 ≤ y_5.snd.fst.fst)) <|
      tst (decide (y_5.snd.fst.fst < (zz (List.length [(3 : Int), (5 : Int), (9 : Int), (17 : Int), (33 : Int), (40 : Int)])))) <|
      tst (decide (Int.toNat y_5.snd.fst.fst < List.length [(3 : Int), (5 : Int), (9 : Int), (17 : Int), (33 : Int), (40 : Int)])) <|
      some (((y_5.fst.fst, y_5.fst.snd.fst, ()), (List.getD [(3 : Int), (5 : Int), (9 : Int), (17 : Int), (33 : Int), (40 : Int)] (Int.toNat y_5.snd.fst.fst) 0, ()), ()))))
   (cond (y_1.snd.fst.fst == (2 : Int))
    (cond (y_1.snd.fst.fst == (2 : Int))
     (Option.bind (spec_l6Rd_pick_fn fuel ((y_1.fst.fst, y_1.fst.snd.fst, ()), ((64 : Int), ()), ())) fun y_6 =>
      some (((y_6.fst.fst, y_6.fst.snd.fst, ()), (y_6.snd.fst.fst, ()), ())))
     (Option.bind (spec_l6Rd_pick_fn fuel ((y_1.fst.fst, y_1.fst.snd.fst, ()), ((6 : Int), ()), ())) fun y_6 =>
      tst (decide (0 ≤ y_6.snd.fst.fst)) <|
       tst (decide (y_6.snd.fst.fst < (zz (List.length [(3 : Int), (5 : Int), (9 : Int), (17 : Int), (33 : Int), (40 : Int)])))) <|
       tst (decide (Int.toNat y_6.snd.fst.fst < List.length [(3 : Int), (5 : Int), (9 : Int), (17 : Int), (33 : Int), (40 : Int)])) <|
       some (((y_6.fst.fst, y_6.fst.snd.fst, ()), (List.getD [(3 : Int), (5 : Int), (9 : Int), (17 : Int), (33 : Int), (40 : Int)] (Int.toNat y_6.snd.fst.fst) 0, ()), ()))))
    (cond (y_1.snd.fst.fst == (3 : Int))
     (Option.bind (spec_l6Rd_pick_fn fuel ((y_1.fst.fst, y_1.fst.snd.fst, ()), ((64 : Int), ()), ())) fun y_6 =>
      some (((y_6.fst.fst, y_6.fst.snd.fst, ()), (y_6.snd.fst.fst, ()), ())))
     (Option.bind (spec_l6Rd_pick_fn fuel ((y_1.fst.fst, y_1.fst.snd.fst, ()), ((6 : Int), ()), ())) fun y_6 =>
      tst (decide (0 ≤ y_6.snd.fst.fst)) <|
       tst (decide (y_6.snd.fst.fst < (zz (List.length [(3 : Int), (5 : Int), (9 : Int), (17 : Int), (33 : Int), (40 : Int)])))) <|
       tst (decide (Int.toNat y_6.snd.fst.fst < List.length [(3 : Int), (5 : Int), (9 : Int), (17 : Int), (33 : Int), (40 : Int)])) <|
       some (((y_6.fst.fst, y_6.fst.snd.fst, ()), (List.getD [(3 : Int), (5 : Int), (9 : Int), (17 : Int), (33 : Int), (40 : Int)] (Int.toNat y_6.snd.fst.fst) 0, ()), ()))))))
def spec_l71Thing_fn (fuel : Nat) (z : ((List Int) × (Int × Unit)) × Unit) : Option (((List Int) × (Int × Unit)) × ((Int × Unit) × Unit)) := spec_l71Thing_pre fuel z.1.1 z.1.2.1
theorem spec_l71Thing_run (fuel : Nat) (c : Rf.T spec_l71Thing_rf) (x : PsT spec_l71Thing_ps) : run (spec_l71Thing_T fuel) 1 fuel spec_l71Thing_c ((0, .ptr 0 0) :: env0 (svPs spec_l71Thing_ps x) 1) [spec_l71Thing_rf.blk c] (endU spec_l71Thing_rv spec_l71Thing_rf spec_l71Thing_rs) = spec_l71Thing_fn fuel (c, x) := by kernel_rfl
def spec_l71Thing_tf (fuel : Nat) : TFU := ⟨spec_l71Thing_rf, spec_l71Thing_ps, spec_l71Thing_rs, spec_l71Thing_fn fuel⟩
theorem spec_l71Thing_spec (fuel : Nat) : FnSpecU Try.prog 46 (spec_l71Thing_tf fuel) :=
  fn_specU (T := spec_l71Thing_T fuel) (c := bodyOf Try.f46) (fn := Try.f46) (TabOK.of (entCons (spec_l6Rd_pick_ok fuel) entNil) methNil) mixed (by kernel_rfl) (by kernel_rfl) spec_l71Thing_l (by kernel_rfl) (Nat.le_of_ble_eq_true (by kernel_rfl)) (rv := spec_l71Thing_rv) (by kernel_rfl) (spec_l71Thing_run fuel)
theorem spec_l71Thing_ok (fuel : Nat) : EntryOK Try.prog 46 (spec_l71Thing_tf fuel).te := EntryOK.tfu (spec_l71Thing_spec fuel) (isFn (fn := Try.f46) (by kernel_rfl) (by kernel_rfl) (by kernel_rfl))

/-! ### spec_l71Things -/
def spec_l71Things_T (fuel : Nat) : Tab := Tab.of [(30, (spec_l6In_tf fuel).te), (45, (spec_l6Rd_pick_tf fuel).te), (46, (spec_l71Thing_tf fuel).te)] []
abbrev spec_l71Things_ps : List Pm := [{ cs := [(Kd.int IntKind.i64, false)], ag := false }]
abbrev spec_l71Things_rs : List Pm := [{ cs := [(Kd.list (Kd.int IntKind.i64), true)], ag := false }]
abbrev spec_l71Things_rf : Rf := Rf.cells [(Kd.list (Kd.int IntKind.u8), false), (Kd.int IntKind.i64, false)] 69
def spec_l71Things_ann : List Norm := [{ live := [6, 0, 5], fix := [(5, none, Kd.int IntKind.i64, true)] }]
noncomputable def spec_l71Things_c : C := irOf Try.prog Try.f48 [] spec_l71Things_ann []
theorem spec_l71Things_l : lightC Try.prog [] Try.f48.ntmps spec_l71Things_ann [] 0 (bodyOf Try.f48) = some (spec_l71Things_c, 1) := by kernel_rfl
def spec_l71Things_rv : List (Nat × Option (Nat × Bool)) := [(4, none)]
abbrev spec_l71Things_V0 := (Int) × (List Int) × (Int) × (List Int)
def spec_l71Things_enc0 (v : spec_l71Things_V0) : Env × Heap := ([(6, SV.int IntKind.i64 v.1), (0, SV.ptr 0 0), (5, SV.own 1)], [Blk.cells [SV.es (Kd.int IntKind.u8) v.2.1, SV.int IntKind.i64 v.2.2.1] 0 2, Blk.arr (Kd.int IntKind.i64) v.2.2.2 0])
def spec_l71Things_step0 (fuel : Nat) (g0 : spec_l71Things_V0 → Option (((List Int) × (Int × Unit)) × (((List Int) × Unit) × Unit))) (v : spec_l71Things_V0) : Option (((List Int) × (Int × Unit)) × (((List Int) × Unit) × Unit)) :=
 cond (decide (v.1 > (0 : Int)))
 (Option.bind (spec_l71Thing_fn fuel ((v.2.1, v.2.2.1, ()), ())) fun y_2 =>
  Option.bind (spec_l6In_fn fuel ((y_2.snd.fst.fst, ()), ((0 : Int), ()), ((63 : Int), ()), ())) fun y_3 =>
   cond (y_3.fst.fst)
    (tst (decide (List.length v.2.2.2 + List.length [y_2.snd.fst.fst] < LIM)) <|
     g0 (w64 (v.1 - (1 : Int)), y_2.fst.fst, y_2.fst.snd.fst, v.2.2.2 ++ [y_2.snd.fst.fst]))
    (g0 (w64 (v.1 - (1 : Int)), y_2.fst.fst, y_2.fst.snd.fst, v.2.2.2)))
 (some (((v.2.1, v.2.2.1, ()), (v.2.2.2, ()), ())))
def spec_l71Things_st0 (fuel : Nat) (g0 : spec_l71Things_V0 → Option (((List Int) × (Int × Unit)) × (((List Int) × Unit) × Unit))) : spec_l71Things_V0 → Option (((List Int) × (Int × Unit)) × (((List Int) × Unit) × Unit)) := spec_l71Things_step0 fuel g0
theorem spec_l71Things_lp0 (fuel : Nat) (G) : spec_l71Things_c.lp (spec_l71Things_T fuel) 1 fuel G (endU spec_l71Things_rv spec_l71Things_rf spec_l71Things_rs) 0 spec_l71Things_enc0 = iter (spec_l71Things_st0 fuel) fuel := C.lp_iter fun g v => by kernel_rfl
def spec_l71Things_pre (fuel : Nat) (X0 : spec_l71Things_V0 → Option (((List Int) × (Int × Unit)) × (((List Int) × Unit) × Unit))) (d0 : List Int) (d1 : Int) (x0 : Int) : Option (((List Int) × (Int × Unit)) × (((List Int) × Unit) × Unit)) :=
 Option.bind (spec_l6Rd_pick_fn fuel ((d0, d1, ()), (w64 (x0 + (1 : Int)), ()), ())) fun y_1 =>
 X0 (y_1.snd.fst.fst, y_1.fst.fst, y_1.fst.snd.fst, [])
def spec_l71Things_fn (fuel : Nat) (z : ((List Int) × (Int × Unit)) × ((Int × Unit) × Unit)) : Option (((List Int) × (Int × Unit)) × (((List Int) × Unit) × Unit)) := spec_l71Things_pre fuel (iter (spec_l71Things_st0 fuel) fuel) z.1.1 z.1.2.1 z.2.1.1
theorem spec_l71Things_run (fuel : Nat) (c : Rf.T spec_l71Things_rf) (x : PsT spec_l71Things_ps) : run (spec_l71Things_T fuel) 1 fuel spec_l71Things_c ((0, .ptr 0 0) :: env0 (svPs spec_l71Things_ps x) 1) [spec_l71Things_rf.blk c] (endU spec_l71Things_rv spec_l71Things_rf spec_l71Things_rs) = spec_l71Things_fn fuel (c, x) :=
  (show run (spec_l71Things_T fuel) 1 fuel spec_l71Things_c ((0, .ptr 0 0) :: env0 (svPs spec_l71Things_ps x) 1) [spec_l71Things_rf.blk c] (endU spec_l71Things_rv spec_l71Things_rf spec_l71Things_rs) = spec_l71Things_pre fuel (spec_l71Things_c.lp (spec_l71Things_T fuel) 1 fuel (fun _ _ _ => none) (endU spec_l71Things_rv spec_l71Things_rf spec_l71Things_rs) 0 spec_l71Things_enc0) c.1 c.2.1 x.1.1 by kernel_rfl).trans (by rw [spec_l71Things_lp0]; rfl)
def spec_l71Things_tf (fuel : Nat) : TFU := ⟨spec_l71Things_rf, spec_l71Things_ps, spec_l71Things_rs, spec_l71Things_fn fuel⟩
theorem spec_l71Things_spec (fuel : Nat) : FnSpecU Try.prog 48 (spec_l71Things_tf fuel) :=
  fn_specU (T := spec_l71Things_T fuel) (c := bodyOf Try.f48) (fn := Try.f48) (TabOK.of (entCons (spec_l6In_ok fuel) (entCons (spec_l6Rd_pick_ok fuel) (entCons (spec_l71Thing_ok fuel) entNil))) methNil) mixed (by kernel_rfl) (by kernel_rfl) spec_l71Things_l (by kernel_rfl) (Nat.le_of_ble_eq_true (by kernel_rfl)) (rv := spec_l71Things_rv) (by kernel_rfl) (spec_l71Things_run fuel)
theorem spec_l71Things_ok (fuel : Nat) : EntryOK Try.prog 48 (spec_l71Things_tf fuel).te := EntryOK.tfu (spec_l71Things_spec fuel) (isFn (fn := Try.f48) (by kernel_rfl) (by kernel_rfl) (by kernel_rfl))

/-! ### spec_l71Rank -/
def spec_l71Rank_T (fuel : Nat) : Tab := Tab.of [(26, (spec_RankAdd_tf fuel).te), (45, (spec_l6Rd_pick_tf fuel).te), (48, (spec_l71Things_tf fuel).te)] []
abbrev spec_l71Rank_ps : List Pm := []
abbrev spec_l71Rank_rs : List Pm := [{ cs := [(Kd.list (Kd.pair (Kd.int IntKind.i64) (Kd.pair (Kd.int IntKind.i64) Kd.unit)), true), (Kd.int IntKind.i64, false)], ag := true }]
abbrev spec_l71Rank_rf : Rf := Rf.cells [(Kd.list (Kd.int IntKind.u8), false), (Kd.int IntKind.i64, false)] 69
def spec_l71Rank_ann : List Norm := [{ live := [5, 4, 3, 0, 2], fix := [(3, some 0, Kd.pair (Kd.int IntKind.i64) (Kd.pair (Kd.int IntKind.i64) Kd.unit), true)] }]
noncomputable def spec_l71Rank_c : C := irOf Try.prog Try.f35 [35, 36, 59] spec_l71Rank_ann []
theorem spec_l71Rank_l : lightC Try.prog [35, 36, 59] Try.f35.ntmps spec_l71Rank_ann [] 0 (bodyOf Try.f35) = some (spec_l71Rank_c, 1) := by kernel_rfl
def spec_l71Rank_rv : List (Nat × Option (Nat × Bool)) := [(2, some (2, true))]
abbrev spec_l71Rank_V0 := (Int) × (List Int) × (Int) × (List Int) × (Int) × (Int) × (List (Int × Int × Unit))
def spec_l71Rank_enc0 (v : spec_l71Rank_V0) : Env × Heap := ([(5, SV.int IntKind.i64 v.1), (4, SV.own 1), (3, SV.ptr 2 0), (0, SV.ptr 0 0), (2, SV.ptr 3 0)], [Blk.cells [SV.es (Kd.int IntKind.u8) v.2.1, SV.int IntKind.i64 v.2.2.1] 0 2, Blk.arr (Kd.int IntKind.i64) v.2.2.2.1 0, Blk.cells [SV.own 4, SV.int IntKind.i64 v.2.2.2.2.1] 0 2, Blk.cells [SV.nils, SV.int IntKind.i64 v.2.2.2.2.2.1] 0 2, Blk.arr (Kd.pair (Kd.int IntKind.i64) (Kd.pair (Kd.int IntKind.i64) Kd.unit)) v.2.2.2.2.2.2 0])
def spec_l71Rank_step0 (fuel : Nat) (g0 : spec_l71Rank_V0 → Option (((List Int) × (Int × Unit)) × (((List (Int × (Int × Unit))) × (Int × Unit)) × Unit))) (v : spec_l71Rank_V0) : Option (((List Int) × (Int × Unit)) × (((List (Int × (Int × Unit))) × (Int × Unit)) × Unit)) :=
 cond (decide (v.1 < (zz (List.length v.2.2.2.1))))
 (tst (decide (0 ≤ v.1)) <|
  tst (decide (v.1 < (zz (List.length v.2.2.2.1)))) <|
  tst (decide (Int.toNat v.1 < List.length v.2.2.2.1)) <|
  Option.bind (spec_RankAdd_fn fuel ((v.2.2.2.2.2.2, v.2.2.2.2.1, ()), (List.getD v.2.2.2.1 (Int.toNat v.1) 0, ()), ())) fun y_2 =>
  g0 (w64 (v.1 + (1 : Int)), v.2.1, v.2.2.1, v.2.2.2.1, y_2.fst.snd.fst, v.2.2.2.2.2.1, y_2.fst.fst))
 (Option.bind (spec_l6Rd_pick_fn fuel ((v.2.1, v.2.2.1, ()), ((24 : Int), ()), ())) fun y_2 =>
  cond (y_2.snd.fst.fst == (0 : Int))
   (some (((y_2.fst.fst, y_2.fst.snd.fst, ()), (v.2.2.2.2.2.2, w64 (v.2.2.2.2.1 + (1 : Int)), ()), ())))
   (cond (y_2.snd.fst.fst == (1 : Int))
    (Option.bind (spec_l6Rd_pick_fn fuel ((y_2.fst.fst, y_2.fst.snd.fst, ()), ((3 : Int), ()), ())) fun y_5 =>
     tst (decide (0 ≤ y_5.snd.fst.fst)) <|
      tst (decide (y_5.snd.fst.fst < (zz (List.length [(127 : Int), (128 : Int), (5 : Int)])))) <|
      tst (decide (List.length v.2.2.2.2.2.2 + List.length [(List.getD [(127 : Int), (128 : Int), (5 : Int)] (Int.toNat y_5.snd.fst.fst) 0, (1 : Int), ())] < LIM)) <|
      some (((y_5.fst.fst, y_5.fst.snd.fst, ()), (v.2.2.2.2.2.2 ++ [(List.getD [(127 : Int), (128 : Int), (5 : Int)] (Int.toNat y_5.snd.fst.fst) 0, (1 : Int), ())], w64 (v.2.2.2.2.1 + (1 : Int)), ()), ())))
    (cond (y_2.snd.fst.fst == (2 : Int))
     (Option.bind (spec_l6Rd_pick_fn fuel ((y_2.fst.fst, y_2.fst.snd.fst, ()), ((3 : Int), ()), ())) fun y_6 =>
      Option.bind (spec_l6Rd_pick_fn fuel ((y_6.fst.fst, y_6.fst.snd.fst, ()), ((9 : Int), ()), ())) fun y_7 =>
       tst (decide (List.length [(y_6.snd.fst.fst, w64 ((1 : Int) + y_7.snd.fst.fst), ())] + List.length v.2.2.2.2.2.2 < LIM)) <|
        some (((y_7.fst.fst, y_7.fst.snd.fst, ()), ([(y_6.snd.fst.fst, w64 ((1 : Int) + y_7.snd.fst.fst), ())] ++ v.2.2.2.2.2.2, v.2.2.2.2.1, ()), ())))
     (some (((y_2.fst.fst, y_2.fst.snd.fst, ()), (v.2.2.2.2.2.2, v.2.2.2.2.1, ()), ()))))))
def spec_l71Rank_st0 (fuel : Nat) (g0 : spec_l71Rank_V0 → Option (((List Int) × (Int × Unit)) × (((List (Int × (Int × Unit))) × (Int × Unit)) × Unit))) : spec_l71Rank_V0 → Option (((List Int) × (Int × Unit)) × (((List (Int × (Int × Unit))) × (Int × Unit)) × Unit)) := spec_l71Rank_step0 fuel g0
theorem spec_l71Rank_lp0 (fuel : Nat) (G) : spec_l71Rank_c.lp (spec_l71Rank_T fuel) 1 fuel G (endU spec_l71Rank_rv spec_l71Rank_rf spec_l71Rank_rs) 0 spec_l71Rank_enc0 = iter (spec_l71Rank_st0 fuel) fuel := C.lp_iter fun g v => by kernel_rfl
def spec_l71Rank_pre (fuel : Nat) (X0 : spec_l71Rank_V0 → Option (((List Int) × (Int × Unit)) × (((List (Int × (Int × Unit))) × (Int × Unit)) × Unit))) (d0 : List Int) (d1 : Int) : Option (((List Int) × (Int × Unit)) × (((List (Int × (Int × Unit))) × (Int × Unit)) × Unit)) :=
 Option.bind (spec_l71Things_fn fuel ((d0, d1, ()), ((40 : Int), ()), ())) fun y_1 =>
 X0 ((0 : Int), y_1.fst.fst, y_1.fst.snd.fst, y_1.snd.fst.fst, (0 : Int), (0 : Int), [])
def spec_l71Rank_fn (fuel : Nat) (z : ((List Int) × (Int × Unit)) × Unit) : Option (((List Int) × (Int × Unit)) × (((List (Int × (Int × Unit))) × (Int × Unit)) × Unit)) := spec_l71Rank_pre fuel (iter (spec_l71Rank_st0 fuel) fuel) z.1.1 z.1.2.1
theorem spec_l71Rank_run (fuel : Nat) (c : Rf.T spec_l71Rank_rf) (x : PsT spec_l71Rank_ps) : run (spec_l71Rank_T fuel) 1 fuel spec_l71Rank_c ((0, .ptr 0 0) :: env0 (svPs spec_l71Rank_ps x) 1) [spec_l71Rank_rf.blk c] (endU spec_l71Rank_rv spec_l71Rank_rf spec_l71Rank_rs) = spec_l71Rank_fn fuel (c, x) :=
  (show run (spec_l71Rank_T fuel) 1 fuel spec_l71Rank_c ((0, .ptr 0 0) :: env0 (svPs spec_l71Rank_ps x) 1) [spec_l71Rank_rf.blk c] (endU spec_l71Rank_rv spec_l71Rank_rf spec_l71Rank_rs) = spec_l71Rank_pre fuel (spec_l71Rank_c.lp (spec_l71Rank_T fuel) 1 fuel (fun _ _ _ => none) (endU spec_l71Rank_rv spec_l71Rank_rf spec_l71Rank_rs) 0 spec_l71Rank_enc0) c.1 c.2.1 by kernel_rfl).trans (by rw [spec_l71Rank_lp0]; rfl)
def spec_l71Rank_tf (fuel : Nat) : TFU := ⟨spec_l71Rank_rf, spec_l71Rank_ps, spec_l71Rank_rs, spec_l71Rank_fn fuel⟩
theorem spec_l71Rank_spec (fuel : Nat) : FnSpecU Try.prog 35 (spec_l71Rank_tf fuel) :=
  fn_specU (T := spec_l71Rank_T fuel) (c := bodyOf Try.f35) (fn := Try.f35) (TabOK.of (entCons (spec_RankAdd_ok fuel) (entCons (spec_l6Rd_pick_ok fuel) (entCons (spec_l71Things_ok fuel) entNil))) methNil) mixed (by kernel_rfl) (by kernel_rfl) spec_l71Rank_l (by kernel_rfl) (Nat.le_of_ble_eq_true (by kernel_rfl)) (rv := spec_l71Rank_rv) (by kernel_rfl) (spec_l71Rank_run fuel)
theorem spec_l71Rank_ok (fuel : Nat) : EntryOK Try.prog 35 (spec_l71Rank_tf fuel).te := EntryOK.tfu (spec_l71Rank_spec fuel) (isFn (fn := Try.f35) (by kernel_rfl) (by kernel_rfl) (by kernel_rfl))

/-! ### spec_DrawRankAdd -/
def spec_DrawRankAdd_T (fuel : Nat) : Tab := Tab.of [(34, (spec_l6Open_tf fuel).te), (35, (spec_l71Rank_tf fuel).te), (46, (spec_l71Thing_tf fuel).te)] []
abbrev spec_DrawRankAdd_ps : List Pm := [{ cs := [(Kd.list (Kd.int IntKind.u8), false)], ag := false }]
abbrev spec_DrawRankAdd_rs : List Pm := [{ cs := [(Kd.list (Kd.pair (Kd.int IntKind.i64) (Kd.pair (Kd.int IntKind.i64) Kd.unit)), true), (Kd.int IntKind.i64, false)], ag := true }, { cs := [(Kd.int IntKind.i64, false)], ag := false }]
def spec_DrawRankAdd_ann : List Norm := []
noncomputable def spec_DrawRankAdd_c : C := irOf Try.prog Try.f28 [] spec_DrawRankAdd_ann []
theorem spec_DrawRankAdd_l : lightC Try.prog [] Try.f28.ntmps spec_DrawRankAdd_ann [] 0 (bodyOf Try.f28) = some (spec_DrawRankAdd_c, 0) := by kernel_rfl
def spec_DrawRankAdd_rv : List (Nat × Option (Nat × Bool)) := [(2, some (2, true)), (3, none)]
def spec_DrawRankAdd_pre (fuel : Nat) (x0 : List Int) : Option (((List (Int × (Int × Unit))) × (Int × Unit)) × ((Int × Unit) × Unit)) :=
 Option.bind (spec_l6Open_fn fuel ((x0, ()), ())) fun y_1 =>
 Option.bind (spec_l71Rank_fn fuel ((y_1.fst, y_1.snd.fst, ()), ())) fun y_2 =>
  Option.bind (spec_l71Thing_fn fuel ((y_2.fst.fst, y_2.fst.snd.fst, ()), ())) fun y_3 =>
   some (((y_2.snd.fst.fst, y_2.snd.fst.snd.fst, ()), (y_3.snd.fst.fst, ()), ()))
def spec_DrawRankAdd_fn (fuel : Nat) (x : (((List Int) × Unit) × Unit)) : Option (((List (Int × (Int × Unit))) × (Int × Unit)) × ((Int × Unit) × Unit)) := spec_DrawRankAdd_pre fuel x.1.1
theorem spec_DrawRankAdd_run (fuel : Nat) (x : PsT spec_DrawRankAdd_ps) : run (spec_DrawRankAdd_T fuel) 0 fuel spec_DrawRankAdd_c (env0 (svPs spec_DrawRankAdd_ps x) 0) [] (endF spec_DrawRankAdd_rv spec_DrawRankAdd_rs) = spec_DrawRankAdd_fn fuel x := by kernel_rfl
def spec_DrawRankAdd_tf (fuel : Nat) : TF := ⟨spec_DrawRankAdd_ps, spec_DrawRankAdd_rs, true, spec_DrawRankAdd_fn fuel⟩
theorem spec_DrawRankAdd_spec (fuel : Nat) : FnSpec Try.prog 28 (spec_DrawRankAdd_tf fuel) :=
  fn_spec (T := spec_DrawRankAdd_T fuel) (c := bodyOf Try.f28) (fn := Try.f28) (TabOK.of (entCons (spec_l6Open_ok fuel) (entCons (spec_l71Rank_ok fuel) (entCons (spec_l71Thing_ok fuel) entNil))) methNil) mixed (by kernel_rfl) (by kernel_rfl) spec_DrawRankAdd_l (by kernel_rfl) (Nat.le_of_ble_eq_true (by kernel_rfl)) (rv := spec_DrawRankAdd_rv) (by kernel_rfl) (spec_DrawRankAdd_run fuel)
theorem spec_DrawRankAdd_ok (fuel : Nat) : EntryOK Try.prog 28 (spec_DrawRankAdd_tf fuel).te := EntryOK.tf rfl (spec_DrawRankAdd_spec fuel) (isFn (fn := Try.f28) (by kernel_rfl) (by kernel_rfl) (by kernel_rfl))

/-! ### spec_DrawRankBelow -/
def spec_DrawRankBelow_T (fuel : Nat) : Tab := Tab.of [(28, (spec_DrawRankAdd_tf fuel).te)] []
abbrev spec_DrawRankBelow_ps : List Pm := [{ cs := [(Kd.list (Kd.int IntKind.u8), false)], ag := false }]
abbrev spec_DrawRankBelow_rs : List Pm := [{ cs := [(Kd.list (Kd.pair (Kd.int IntKind.i64) (Kd.pair (Kd.int IntKind.i64) Kd.unit)), true), (Kd.int IntKind.i64, false)], ag := true }, { cs := [(Kd.int IntKind.i64, false)], ag := false }]
def spec_DrawRankBelow_ann : List Norm := []
noncomputable def spec_DrawRankBelow_c : C := irOf Try.prog Try.f10 [] spec_DrawRankBelow_ann []
theorem spec_DrawRankBelow_l : lightC Try.prog [] Try.f10.ntmps spec_DrawRankBelow_ann [] 0 (bodyOf Try.f10) = some (spec_DrawRankBelow_c, 0) := by kernel_rfl
def spec_DrawRankBelow_rv : List (Nat × Option (Nat × Bool)) := [(2, some (2, true)), (3, none)]
def spec_DrawRankBelow_pre (fuel : Nat) (x0 : List Int) : Option (((List (Int × (Int × Unit))) × (Int × Unit)) × ((Int × Unit) × Unit)) :=
 Option.bind (spec_DrawRankAdd_fn fuel ((x0, ()), ())) fun y_1 =>
 some (((y_1.fst.fst, y_1.fst.snd.fst, ()), (y_1.snd.fst.fst, ()), ()))
def spec_DrawRankBelow_fn (fuel : Nat) (x : (((List Int) × Unit) × Unit)) : Option (((List (Int × (Int × Unit))) × (Int × Unit)) × ((Int × Unit) × Unit)) := spec_DrawRankBelow_pre fuel x.1.1
theorem spec_DrawRankBelow_run (fuel : Nat) (x : PsT spec_DrawRankBelow_ps) : run (spec_DrawRankBelow_T fuel) 0 fuel spec_DrawRankBelow_c (env0 (svPs spec_DrawRankBelow_ps x) 0) [] (endF spec_DrawRankBelow_rv spec_DrawRankBelow_rs) = spec_DrawRankBelow_fn fuel x := by kernel_rfl
def spec_DrawRankBelow_tf (fuel : Nat) : TF := ⟨spec_DrawRankBelow_ps, spec_DrawRankBelow_rs, true, spec_DrawRankBelow_fn fuel⟩
theorem spec_DrawRankBelow_spec (fuel : Nat) : FnSpec Try.prog 10 (spec_DrawRankBelow_tf fuel) :=
  fn_spec (T := spec_DrawRankBelow_T fuel) (c := bodyOf Try.f10) (fn := Try.f10) (TabOK.of (entCons (spec_DrawRankAdd_ok fuel) entNil) methNil) mixed (by kernel_rfl) (by kernel_rfl) spec_DrawRankBelow_l (by kernel_rfl) (Nat.le_of_ble_eq_true (by kernel_rfl)) (rv := spec_DrawRankBelow_rv) (by kernel_rfl) (spec_DrawRankBelow_run fuel)
theorem spec_DrawRankBelow_ok (fuel : Nat) : EntryOK Try.prog 10 (spec_DrawRankBelow_tf fuel).te := EntryOK.tf rfl (spec_DrawRankBelow_spec fuel) (isFn (fn := Try.f10) (by kernel_rfl) (by kernel_rfl) (by kernel_rfl))

end Go.Proofs.Ytapicafncjajnaa.Den
