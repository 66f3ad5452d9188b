/- Readings of functions of the sums, as functions on plain data (6). -/
import Derived.Test.YtjnkefbdpcbkmaaCS5
namespace Go.Proofs.Ytjnkefbdpcbkmaa.Den
open Go Go.RowKit
set_option linter.unusedVariables false
set_option linter.unusedSimpArgs false

/-! ### spec_l3Over -/
def spec_l3Over_T (fuel : Nat) : Tab := Tab.of [] []
abbrev spec_l3Over_ps : List Pm := [{ cs := [(Kd.list (Kd.pair (Kd.int IntKind.i64) (Kd.pair (Kd.int IntKind.i64) Kd.unit)), false)], ag := false }]
abbrev spec_l3Over_rs : List Pm := [{ cs := [(Kd.int IntKind.i64, false)], ag := false }]
def spec_l3Over_ann : List Norm := [{ live := [4, 0, 3], fix := [] }, { live := [6, 0, 4, 5, 3], fix := [] }]
noncomputable def spec_l3Over_c : C := irOf Try.prog Try.f124 [] spec_l3Over_ann []
theorem spec_l3Over_l : lightC Try.prog [] Try.f124.ntmps spec_l3Over_ann [] 0 (bodyOf Try.f124) = some (spec_l3Over_c, 2) := by kernel_rfl
def spec_l3Over_rv : List (Nat × Option (Nat × Bool)) := [(2, none)]
abbrev spec_l3Over_V0 := (Int) × (List (Int × Int × Unit)) × (Int)
abbrev spec_l3Over_V1 := (Int) × (List (Int × Int × Unit)) × (Int) × (Int) × (Int)
def spec_l3Over_enc0 (v : spec_l3Over_V0) : Env × Heap := ([(4, SV.int IntKind.i64 v.1), (0, SV.es (Kd.pair (Kd.int IntKind.i64) (Kd.pair (Kd.int IntKind.i64) Kd.unit)) v.2.1), (3, SV.int IntKind.i64 v.2.2)], [])
def spec_l3Over_enc1 (v : spec_l3Over_V1) : Env × Heap := ([(6, SV.int IntKind.i64 v.1), (0, SV.es (Kd.pair (Kd.int IntKind.i64) (Kd.pair (Kd.int IntKind.i64) Kd.unit)) v.2.1), (4, SV.int IntKind.i64 v.2.2.1), (5, SV.int IntKind.i64 v.2.2.2.1), (3, SV.int IntKind.i64 v.2.2.2.2)], [])
def spec_l3Over_step1 (fuel : Nat) (g0 : spec_l3Over_V0 → Option ((Int × Unit) × Unit)) (g1 : spec_l3Over_V1 → Option ((Int × Unit) × Unit)) (v : spec_l3Over_V1) : Option ((Int × Unit) × Unit) :=
 cond (decide (v.1 < (zz (List.length v.2.1))))
 (tst (decide (0 ≤ v.1)) <|
  tst (decide (v.1 < (zz (List.length v.2.1)))) <|
  tst (decide (0 ≤ v.2.2.1)) <|
  tst (decide (v.2.2.1 < (zz (List.length v.2.1)))) <|
  cond (decide ((List.getD v.2.1 (Int.toNat v.1) (0, (0, ()))).snd.fst ≥ (List.getD v.2.1 (Int.toNat v.2.2.1) (0, (0, ()))).snd.fst))
  (g1 (w64 (v.1 + (1 : Int)), v.2.1, v.2.2.1, w64 (v.2.2.2.1 + (1 : Int)), v.2.2.2.2))
  (g1 (w64 (v.1 + (1 : Int)), v.2.1, v.2.2.1, v.2.2.2.1, v.2.2.2.2)))
 (cond (decide (v.2.2.2.1 > (4 : Int)))
  (tst (decide (0 ≤ v.2.2.1)) <|
   tst (decide (v.2.2.1 < (zz (List.length v.2.1)))) <|
   g0 (w64 (v.2.2.1 + (1 : Int)), v.2.1, if (List.getD v.2.1 (Int.toNat v.2.2.1) (0, (0, ()))).snd.fst > v.2.2.2.2 then (List.getD v.2.1 (Int.toNat v.2.2.1) (0, (0, ()))).snd.fst else v.2.2.2.2))
  (g0 (w64 (v.2.2.1 + (1 : Int)), v.2.1, v.2.2.2.2)))
def spec_l3Over_st1 (fuel : Nat) (g0 : spec_l3Over_V0 → Option ((Int × Unit) × Unit)) (g1 : spec_l3Over_V1 → Option ((Int × Unit) × Unit)) : spec_l3Over_V1 → Option ((Int × Unit) × Unit) := spec_l3Over_step1 fuel g0 g1
theorem spec_l3Over_lp1 (fuel : Nat) (G) : spec_l3Over_c.lp (spec_l3Over_T fuel) 0 fuel G (endF spec_l3Over_rv spec_l3Over_rs) 1 spec_l3Over_enc1 = iter (spec_l3Over_st1 fuel (fun v => G 0 (spec_l3Over_enc0 v).1 (spec_l3Over_enc0 v).2)) fuel := C.lp_iter fun g v =>
  (show run (spec_l3Over_T fuel) 0 fuel (spec_l3Over_c.bdAt 1) (spec_l3Over_enc1 v).1 (spec_l3Over_enc1 v).2 (loopK 0 (spec_l3Over_c.nmAt 1) g (spec_l3Over_c.contAt (spec_l3Over_T fuel) 0 fuel G 0 1 (endF spec_l3Over_rv spec_l3Over_rs))) = spec_l3Over_step1 fuel (fun v => G 0 (spec_l3Over_enc0 v).1 (spec_l3Over_enc0 v).2) (fun v => g (spec_l3Over_enc1 v).1 (spec_l3Over_enc1 v).2) v by kernel_rfl)
def spec_l3Over_step0 (fuel : Nat) (X1 : spec_l3Over_V1 → Option ((Int × Unit) × Unit)) (g0 : spec_l3Over_V0 → Option ((Int × Unit) × Unit)) (v : spec_l3Over_V0) : Option ((Int × Unit) × Unit) :=
 cond (decide (v.1 < (zz (List.length v.2.1))))
 (X1 ((0 : Int), v.2.1, v.1, (0 : Int), v.2.2))
 (some (((v.2.2, ()), ())))
def spec_l3Over_st0 (fuel : Nat) (g0 : spec_l3Over_V0 → Option ((Int × Unit) × Unit)) : spec_l3Over_V0 → Option ((Int × Unit) × Unit) := spec_l3Over_step0 fuel (iter (spec_l3Over_st1 fuel g0) fuel) g0
theorem spec_l3Over_lp0 (fuel : Nat) (G) : spec_l3Over_c.lp (spec_l3Over_T fuel) 0 fuel G (endF spec_l3Over_rv spec_l3Over_rs) 0 spec_l3Over_enc0 = iter (spec_l3Over_st0 fuel) fuel := C.lp_iter fun g v =>
  (show run (spec_l3Over_T fuel) 0 fuel (spec_l3Over_c.bdAt 0) (spec_l3Over_enc0 v).1 (spec_l3Over_enc0 v).2 (loopK 0 (spec_l3Over_c.nmAt 0) g (spec_l3Over_c.contAt (spec_l3Over_T fuel) 0 fuel G 0 0 (endF spec_l3Over_rv spec_l3Over_rs))) = spec_l3Over_step0 fuel (spec_l3Over_c.lp (spec_l3Over_T fuel) 0 fuel (fun m => bif Nat.beq m 0 then g else G m) (endF spec_l3Over_rv spec_l3Over_rs) 1 spec_l3Over_enc1) (fun v => g (spec_l3Over_enc0 v).1 (spec_l3Over_enc0 v).2) v by kernel_rfl).trans (by rw [spec_l3Over_lp1]; rfl)
def spec_l3Over_pre (fuel : Nat) (X0 : spec_l3Over_V0 → Option ((Int × Unit) × Unit)) (x0 : List (Int × Int × Unit)) : Option ((Int × Unit) × Unit) :=
 X0 ((0 : Int), x0, (0 : Int))
def spec_l3Over_fn (fuel : Nat) (x : (((List (Int × (Int × Unit))) × Unit) × Unit)) : Option ((Int × Unit) × Unit) := spec_l3Over_pre fuel (iter (spec_l3Over_st0 fuel) fuel) x.1.1
theorem spec_l3Over_run (fuel : Nat) (x : PsT spec_l3Over_ps) : run (spec_l3Over_T fuel) 0 fuel spec_l3Over_c (env0 (svPs spec_l3Over_ps x) 0) [] (endF spec_l3Over_rv spec_l3Over_rs) = spec_l3Over_fn fuel x :=
  (show run (spec_l3Over_T fuel) 0 fuel spec_l3Over_c (env0 (svPs spec_l3Over_ps x) 0) [] (endF spec_l3Over_rv spec_l3Over_rs) = spec_l3Over_pre fuel (spec_l3Over_c.lp (spec_l3Over_T fuel) 0 fuel (fun _ _ _ => none) (endF spec_l3Over_rv spec_l3Over_rs) 0 spec_l3Over_enc0) x.1.1 by kernel_rfl).trans (by rw [spec_l3Over_lp0]; rfl)
def spec_l3Over_tf (fuel : Nat) : TF := ⟨spec_l3Over_ps, spec_l3Over_rs, true, spec_l3Over_fn fuel⟩
theorem spec_l3Over_spec (fuel : Nat) : FnSpec Try.prog 124 (spec_l3Over_tf fuel) :=
  fn_spec (T := spec_l3Over_T fuel) (c := bodyOf Try.f124) (fn := Try.f124) (TabOK.of (entNil) (methNil)) mixed (by kernel_rfl) (by kernel_rfl) spec_l3Over_l (by kernel_rfl) (Nat.le_of_ble_eq_true (by kernel_rfl)) (rv := spec_l3Over_rv) (by kernel_rfl) (spec_l3Over_run fuel)
theorem spec_l3Over_ok (fuel : Nat) : EntryOK Try.prog 124 (spec_l3Over_tf fuel).te := EntryOK.tf rfl (spec_l3Over_spec fuel) (isFn (fn := Try.f124) (by kernel_rfl) (by kernel_rfl) (by kernel_rfl))

/-! ### spec_l3Less -/
def spec_l3Less_T (fuel : Nat) : Tab := Tab.of [] []
abbrev spec_l3Less_ps : List Pm := [{ cs := [(Kd.list (Kd.pair (Kd.int IntKind.i64) (Kd.pair (Kd.int IntKind.i64) Kd.unit)), false)], ag := false }, { cs := [(Kd.int IntKind.i64, false)], ag := false }]
abbrev spec_l3Less_rs : List Pm := [{ cs := [(Kd.list (Kd.pair (Kd.int IntKind.i64) (Kd.pair (Kd.int IntKind.i64) Kd.unit)), true)], ag := false }]
def spec_l3Less_ann : List Norm := [{ live := [6, 0, 1, 5], fix := [(5, none, Kd.pair (Kd.int IntKind.i64) (Kd.pair (Kd.int IntKind.i64) Kd.unit), true)] }]
noncomputable def spec_l3Less_c : C := irOf Try.prog Try.f125 [] spec_l3Less_ann []
theorem spec_l3Less_l : lightC Try.prog [] Try.f125.ntmps spec_l3Less_ann [] 0 (bodyOf Try.f125) = some (spec_l3Less_c, 1) := by kernel_rfl
def spec_l3Less_rv : List (Nat × Option (Nat × Bool)) := [(4, none)]
abbrev spec_l3Less_V0 := (Int) × (List (Int × Int × Unit)) × (Int) × (List (Int × Int × Unit))
def spec_l3Less_enc0 (v : spec_l3Less_V0) : Env × Heap := ([(6, SV.int IntKind.i64 v.1), (0, SV.es (Kd.pair (Kd.int IntKind.i64) (Kd.pair (Kd.int IntKind.i64) Kd.unit)) v.2.1), (1, SV.int IntKind.i64 v.2.2.1), (5, SV.own 0)], [Blk.arr (Kd.pair (Kd.int IntKind.i64) (Kd.pair (Kd.int IntKind.i64) Kd.unit)) v.2.2.2 0])
def spec_l3Less_step0 (fuel : Nat) (g0 : spec_l3Less_V0 → Option (((List (Int × (Int × Unit))) × Unit) × Unit)) (v : spec_l3Less_V0) : Option (((List (Int × (Int × Unit))) × Unit) × Unit) :=
 cond (decide (v.1 < (zz (List.length v.2.1))))
 (tst (decide (0 ≤ v.1)) <|
  tst (decide (v.1 < (zz (List.length v.2.1)))) <|
  cond (decide ((List.getD v.2.1 (Int.toNat v.1) (0, (0, ()))).snd.fst > v.2.2.1))
  (tst (decide (0 ≤ v.1)) <|
   tst (decide (v.1 < (zz (List.length v.2.1)))) <|
   tst (decide (0 ≤ v.1)) <|
   tst (decide (v.1 < (zz (List.length v.2.1)))) <|
   tst (decide (List.length v.2.2.2 + 1 < LIM)) <|
   g0 (w64 (v.1 + (1 : Int)), v.2.1, v.2.2.1, v.2.2.2 ++ [((List.getD v.2.1 (Int.toNat v.1) (0, (0, ()))).fst, w64 ((List.getD v.2.1 (Int.toNat v.1) (0, (0, ()))).snd.fst - v.2.2.1), ())]))
  (g0 (w64 (v.1 + (1 : Int)), v.2.1, v.2.2.1, v.2.2.2)))
 (some (((v.2.2.2, ()), ())))
def spec_l3Less_st0 (fuel : Nat) (g0 : spec_l3Less_V0 → Option (((List (Int × (Int × Unit))) × Unit) × Unit)) : spec_l3Less_V0 → Option (((List (Int × (Int × Unit))) × Unit) × Unit) := spec_l3Less_step0 fuel g0
theorem spec_l3Less_lp0 (fuel : Nat) (G) : spec_l3Less_c.lp (spec_l3Less_T fuel) 0 fuel G (endF spec_l3Less_rv spec_l3Less_rs) 0 spec_l3Less_enc0 = iter (spec_l3Less_st0 fuel) fuel := C.lp_iter fun g v => by kernel_rfl
def spec_l3Less_pre (fuel : Nat) (X0 : spec_l3Less_V0 → Option (((List (Int × (Int × Unit))) × Unit) × Unit)) (x0 : List (Int × Int × Unit)) (x1 : Int) : Option (((List (Int × (Int × Unit))) × Unit) × Unit) :=
 X0 ((0 : Int), x0, x1, [])
def spec_l3Less_fn (fuel : Nat) (x : (((List (Int × (Int × Unit))) × Unit) × ((Int × Unit) × Unit))) : Option (((List (Int × (Int × Unit))) × Unit) × Unit) := spec_l3Less_pre fuel (iter (spec_l3Less_st0 fuel) fuel) x.1.1 x.2.1.1
theorem spec_l3Less_run (fuel : Nat) (x : PsT spec_l3Less_ps) : run (spec_l3Less_T fuel) 0 fuel spec_l3Less_c (env0 (svPs spec_l3Less_ps x) 0) [] (endF spec_l3Less_rv spec_l3Less_rs) = spec_l3Less_fn fuel x :=
  (show run (spec_l3Less_T fuel) 0 fuel spec_l3Less_c (env0 (svPs spec_l3Less_ps x) 0) [] (endF spec_l3Less_rv spec_l3Less_rs) = spec_l3Less_pre fuel (spec_l3Less_c.lp (spec_l3Less_T fuel) 0 fuel (fun _ _ _ => none) (endF spec_l3Less_rv spec_l3Less_rs) 0 spec_l3Less_enc0) x.1.1 x.2.1.1 by kernel_rfl).trans (by rw [spec_l3Less_lp0]; rfl)
def spec_l3Less_tf (fuel : Nat) : TF := ⟨spec_l3Less_ps, spec_l3Less_rs, true, spec_l3Less_fn fuel⟩
theorem spec_l3Less_spec (fuel : Nat) : FnSpec Try.prog 125 (spec_l3Less_tf fuel) :=
  fn_spec (T := spec_l3Less_T fuel) (c := bodyOf Try.f125) (fn := Try.f125) (TabOK.of (entNil) (methNil)) mixed (by kernel_rfl) (by kernel_rfl) spec_l3Less_l (by kernel_rfl) (Nat.le_of_ble_eq_true (by kernel_rfl)) (rv := spec_l3Less_rv) (by kernel_rfl) (spec_l3Less_run fuel)
theorem spec_l3Less_ok (fuel : Nat) : EntryOK Try.prog 125 (spec_l3Less_tf fuel).te := EntryOK.tf rfl (spec_l3Less_spec fuel) (isFn (fn := Try.f125) (by kernel_rfl) (by kernel_rfl) (by kernel_rfl))

/-! ### spec_l3Cut -/
def spec_l3Cut_T (fuel : Nat) : Tab := Tab.of [(124, (spec_l3Over_tf fuel).te), (125, (spec_l3Less_tf fuel).te)] []
abbrev spec_l3Cut_ps : List Pm := [{ cs := [(Kd.list (Kd.pair (Kd.int IntKind.i64) (Kd.pair (Kd.int IntKind.i64) Kd.unit)), false), (Kd.int IntKind.i64, false), (Kd.int IntKind.i64, false)], ag := true }]
abbrev spec_l3Cut_rs : List Pm := [{ cs := [(Kd.list (Kd.pair (Kd.int IntKind.i64) (Kd.pair (Kd.int IntKind.i64) Kd.unit)), true), (Kd.int IntKind.i64, false), (Kd.int IntKind.i64, false)], ag := true }]
def spec_l3Cut_ann : List Norm := []
noncomputable def spec_l3Cut_c : C := irOf Try.prog Try.f123 [] spec_l3Cut_ann []
theorem spec_l3Cut_l : lightC Try.prog [] Try.f123.ntmps spec_l3Cut_ann [] 0 (bodyOf Try.f123) = some (spec_l3Cut_c, 0) := by kernel_rfl
def spec_l3Cut_rv : List (Nat × Option (Nat × Bool)) := [(2, some (3, true))]
def spec_l3Cut_pre (fuel : Nat) (x0 : List (Int × Int × Unit)) (x1 : Int) (x2 : Int) : Option (((List (Int × (Int × Unit))) × (Int × (Int × Unit))) × Unit) :=
 Option.bind (spec_l3Over_fn fuel ((x0, ()), ())) fun y_1 =>
 Option.bind (spec_l3Less_fn fuel ((x0, ()), (y_1.fst.fst, ()), ())) fun y_2 =>
  some (((y_2.fst.fst, w64 (x1 + y_1.fst.fst), x2, ()), ()))
def spec_l3Cut_fn (fuel : Nat) (x : (((List (Int × (Int × Unit))) × (Int × (Int × Unit))) × Unit)) : Option (((List (Int × (Int × Unit))) × (Int × (Int × Unit))) × Unit) := spec_l3Cut_pre fuel x.1.1 x.1.2.1 x.1.2.2.1
theorem spec_l3Cut_run (fuel : Nat) (x : PsT spec_l3Cut_ps) : run (spec_l3Cut_T fuel) 0 fuel spec_l3Cut_c (env0 (svPs spec_l3Cut_ps x) 0) [] (endF spec_l3Cut_rv spec_l3Cut_rs) = spec_l3Cut_fn fuel x := by kernel_rfl
def spec_l3Cut_tf (fuel : Nat) : TF := ⟨spec_l3Cut_ps, spec_l3Cut_rs, true, spec_l3Cut_fn fuel⟩
theorem spec_l3Cut_spec (fuel : Nat) : FnSpec Try.prog 123 (spec_l3Cut_tf fuel) :=
  fn_spec (T := spec_l3Cut_T fuel) (c := bodyOf Try.f123) (fn := Try.f123) (TabOK.of (entCons (spec_l3Over_ok fuel) (entCons (spec_l3Less_ok fuel) entNil)) (methNil)) mixed (by kernel_rfl) (by kernel_rfl) spec_l3Cut_l (by kernel_rfl) (Nat.le_of_ble_eq_true (by kernel_rfl)) (rv := spec_l3Cut_rv) (by kernel_rfl) (spec_l3Cut_run fuel)
theorem spec_l3Cut_ok (fuel : Nat) : EntryOK Try.prog 123 (spec_l3Cut_tf fuel).te := EntryOK.tf rfl (spec_l3Cut_spec fuel) (isFn (fn := Try.f123) (by kernel_rfl) (by kernel_rfl) (by kernel_rfl))

/-! ### spec_TopAdd -/
def spec_TopAdd_T (fuel : Nat) : Tab := Tab.of [(53, (spec_TopOk_tf fuel).te), (67, (spec_l6In_tf fuel).te), (122, (spec_l3Put_tf fuel).te), (123, (spec_l3Cut_tf fuel).te)] []
abbrev spec_TopAdd_ps : List Pm := [{ cs := [(Kd.list (Kd.pair (Kd.int IntKind.i64) (Kd.pair (Kd.int IntKind.i64) Kd.unit)), false), (Kd.int IntKind.i64, false), (Kd.int IntKind.i64, false)], ag := true }, { cs := [(Kd.int IntKind.i64, false)], ag := false }]
abbrev spec_TopAdd_rs : List Pm := [{ cs := [(Kd.list (Kd.pair (Kd.int IntKind.i64) (Kd.pair (Kd.int IntKind.i64) Kd.unit)), true), (Kd.int IntKind.i64, false), (Kd.int IntKind.i64, false)], ag := true }, { cs := [(Kd.bool, false)], ag := false }]
def spec_TopAdd_ann : List Norm := []
noncomputable def spec_TopAdd_c : C := irOf Try.prog Try.f120 [] spec_TopAdd_ann []
theorem spec_TopAdd_l : lightC Try.prog [] Try.f120.ntmps spec_TopAdd_ann [] 0 (bodyOf Try.f120) = some (spec_TopAdd_c, 0) := by kernel_rfl
def spec_TopAdd_rv : List (Nat × Option (Nat × Bool)) := [(4, some (3, true)), (5, none)]
def spec_TopAdd_pre (fuel : Nat) (x0 : List (Int × Int × Unit)) (x1 : Int) (x2 : Int) (x3 : Int) : Option (((List (Int × (Int × Unit))) × (Int × (Int × Unit))) × ((Bool × Unit) × Unit)) :=
 Option.bind (spec_TopOk_fn fuel ((x0, x1, x2, ()), ())) fun y_1 =>
 cond (!y_1.fst.fst)
  (some ((([], (0 : Int), (0 : Int), ()), (false, ()), ())))
  (Option.bind (spec_l6In_fn fuel ((x3, ()), ((0 : Int), ()), ((63 : Int), ()), ())) fun y_3 =>
   cond (!y_3.fst.fst)
    (some ((([], (0 : Int), (0 : Int), ()), (false, ()), ())))
    (cond (decide (x2 ≥ (2000 : Int)))
     (some ((([], (0 : Int), (0 : Int), ()), (false, ()), ())))
     (Option.bind (spec_l3Put_fn fuel ((x0, ()), (x3, (1 : Int), ()), ())) fun y_6 =>
      Option.bind (spec_l3Cut_fn fuel ((y_6.fst.fst, x1, w64 (x2 + (1 : Int)), ()), ())) fun y_7 =>
       some (((y_7.fst.fst, y_7.fst.snd.fst, y_7.fst.snd.snd.fst, ()), (true, ()), ())))))
def spec_TopAdd_fn (fuel : Nat) (x : (((List (Int × (Int × Unit))) × (Int × (Int × Unit))) × ((Int × Unit) × Unit))) : Option (((List (Int × (Int × Unit))) × (Int × (Int × Unit))) × ((Bool × Unit) × Unit)) := spec_TopAdd_pre fuel x.1.1 x.1.2.1 x.1.2.2.1 x.2.1.1
theorem spec_TopAdd_run (fuel : Nat) (x : PsT spec_TopAdd_ps) : run (spec_TopAdd_T fuel) 0 fuel spec_TopAdd_c (env0 (svPs spec_TopAdd_ps x) 0) [] (endF spec_TopAdd_rv spec_TopAdd_rs) = spec_TopAdd_fn fuel x := by kernel_rfl
def spec_TopAdd_tf (fuel : Nat) : TF := ⟨spec_TopAdd_ps, spec_TopAdd_rs, true, spec_TopAdd_fn fuel⟩
theorem spec_TopAdd_spec (fuel : Nat) : FnSpec Try.prog 120 (spec_TopAdd_tf fuel) :=
  fn_spec (T := spec_TopAdd_T fuel) (c := bodyOf Try.f120) (fn := Try.f120) (TabOK.of (entCons (spec_TopOk_ok fuel) (entCons (spec_l6In_ok fuel) (entCons (spec_l3Put_ok fuel) (entCons (spec_l3Cut_ok fuel) entNil)))) (methNil)) mixed (by kernel_rfl) (by kernel_rfl) spec_TopAdd_l (by kernel_rfl) (Nat.le_of_ble_eq_true (by kernel_rfl)) (rv := spec_TopAdd_rv) (by kernel_rfl) (spec_TopAdd_run fuel)
theorem spec_TopAdd_ok (fuel : Nat) : EntryOK Try.prog 120 (spec_TopAdd_tf fuel).te := EntryOK.tf rfl (spec_TopAdd_spec fuel) (isFn (fn := Try.f120) (by kernel_rfl) (by kernel_rfl) (by kernel_rfl))

/-! ### spec_SumAdd -/
def spec_SumAdd_T (fuel : Nat) : Tab := Tab.of [(16, (spec_SumOk_tf fuel).te), (67, (spec_l6In_tf fuel).te), (100, (spec_RankAdd_tf fuel).te), (101, (spec_FewAdd_tf fuel).te), (119, (spec_RoughAdd_tf fuel).te), (120, (spec_TopAdd_tf fuel).te)] []
abbrev spec_SumAdd_ps : List Pm := [{ cs := [(Kd.list (Kd.list (Kd.int IntKind.i64)), false), (Kd.list (Kd.int IntKind.i64), false), (Kd.list (Kd.pair (Kd.int IntKind.i64) (Kd.pair (Kd.int IntKind.i64) Kd.unit)), false), (Kd.int IntKind.i64, false), (Kd.int IntKind.i64, false), (Kd.list (Kd.pair (Kd.int IntKind.i64) (Kd.pair (Kd.int IntKind.i64) Kd.unit)), false), (Kd.int IntKind.i64, false)], ag := true }, { cs := [(Kd.int IntKind.i64, false)], ag := false }]
abbrev spec_SumAdd_rs : List Pm := [{ cs := [(Kd.list (Kd.list (Kd.int IntKind.i64)), false), (Kd.list (Kd.int IntKind.i64), true), (Kd.list (Kd.pair (Kd.int IntKind.i64) (Kd.pair (Kd.int IntKind.i64) Kd.unit)), true), (Kd.int IntKind.i64, false), (Kd.int IntKind.i64, false), (Kd.list (Kd.pair (Kd.int IntKind.i64) (Kd.pair (Kd.int IntKind.i64) Kd.unit)), true), (Kd.int IntKind.i64, false)], ag := true }, { cs := [(Kd.bool, false)], ag := false }]
def spec_SumAdd_ann : List Norm := []
noncomputable def spec_SumAdd_c : C := irOf Try.prog Try.f110 [] spec_SumAdd_ann []
theorem spec_SumAdd_l : lightC Try.prog [] Try.f110.ntmps spec_SumAdd_ann [] 0 (bodyOf Try.f110) = some (spec_SumAdd_c, 0) := by kernel_rfl
def spec_SumAdd_rv : List (Nat × Option (Nat × Bool)) := [(4, some (7, true)), (5, none)]
def spec_SumAdd_pre (fuel : Nat) (x0 : List (List Int)) (x1 : List Int) (x2 : List (Int × Int × Unit)) (x3 : Int) (x4 : Int) (x5 : List (Int × Int × Unit)) (x6 : Int) (x7 : Int) : Option (((List (List Int)) × ((List Int) × ((List (Int × (Int × Unit))) × (Int × (Int × ((List (Int × (Int × Unit))) × (Int × Unit))))))) × ((Bool × Unit) × Unit)) :=
 Option.bind (spec_SumOk_fn fuel ((x0, x1, x2, x3, x4, x5, x6, ()), ())) fun y_1 =>
 cond (!y_1.fst.fst)
  (some ((([], [], [], (0 : Int), (0 : Int), [], (0 : Int), ()), (false, ()), ())))
  (Option.bind (spec_l6In_fn fuel ((x7, ()), ((0 : Int), ()), ((63 : Int), ()), ())) fun y_3 =>
   cond (!y_3.fst.fst)
    (some ((([], [], [], (0 : Int), (0 : Int), [], (0 : Int), ()), (false, ()), ())))
    (cond (decide (x4 ≥ (2000 : Int)))
     (some ((([], [], [], (0 : Int), (0 : Int), [], (0 : Int), ()), (false, ()), ())))
     (Option.bind (spec_RoughAdd_fn fuel ((x0, ()), (x7, ()), ((1 : Int), ()), ())) fun y_6 =>
      Option.bind (spec_FewAdd_fn fuel ((x1, ()), (x7, ()), ())) fun y_7 =>
       Option.bind (spec_TopAdd_fn fuel ((x2, x3, x4, ()), (x7, ()), ())) fun y_8 =>
        Option.bind (spec_RankAdd_fn fuel ((x5, x6, ()), (x7, ()), ())) fun y_9 =>
         some (((y_6.fst.fst, y_7.fst.fst, y_8.fst.fst, y_8.fst.snd.fst, y_8.fst.snd.snd.fst, y_9.fst.fst, y_9.fst.snd.fst, ()), (true, ()), ())))))
def spec_SumAdd_fn (fuel : Nat) (x : (((List (List Int)) × ((List Int) × ((List (Int × (Int × Unit))) × (Int × (Int × ((List (Int × (Int × Unit))) × (Int × Unit))))))) × ((Int × Unit) × Unit))) : Option (((List (List Int)) × ((List Int) × ((List (Int × (Int × Unit))) × (Int × (Int × ((List (Int × (Int × Unit))) × (Int × Unit))))))) × ((Bool × Unit) × Unit)) := spec_SumAdd_pre fuel x.1.1 x.1.2.1 x.1.2.2.1 x.1.2.2.2.1 x.1.2.2.2.2.1 x.1.2.2.2.2.2.1 x.1.2.2.2.2.2.2.1 x.2.1.1
theorem spec_SumAdd_run (fuel : Nat) (x : PsT spec_SumAdd_ps) : run (spec_SumAdd_T fuel) 0 fuel spec_SumAdd_c (env0 (svPs spec_SumAdd_ps x) 0) [] (endF spec_SumAdd_rv spec_SumAdd_rs) = spec_SumAdd_fn fuel x := by kernel_rfl
def spec_SumAdd_tf (fuel : Nat) : TF := ⟨spec_SumAdd_ps, spec_SumAdd_rs, false, spec_SumAdd_fn fuel⟩
theorem spec_SumAdd_spec (fuel : Nat) : FnSpec Try.prog 110 (spec_SumAdd_tf fuel) :=
  fn_spec (T := spec_SumAdd_T fuel) (c := bodyOf Try.f110) (fn := Try.f110) (TabOK.of (entCons (spec_SumOk_ok fuel) (entCons (spec_l6In_ok fuel) (entCons (spec_RankAdd_ok fuel) (entCons (spec_FewAdd_ok fuel) (entCons (spec_RoughAdd_ok fuel) (entCons (spec_TopAdd_ok fuel) entNil)))))) (methNil)) mixed (by kernel_rfl) (by kernel_rfl) spec_SumAdd_l (by kernel_rfl) (Nat.le_of_ble_eq_true (by kernel_rfl)) (rv := spec_SumAdd_rv) (by kernel_rfl) (spec_SumAdd_run fuel)
theorem spec_SumAdd_ok (fuel : Nat) : EntryOK Try.prog 110 (spec_SumAdd_tf fuel).te := EntryOK.tf rfl (spec_SumAdd_spec fuel) (isFn (fn := Try.f110) (by kernel_rfl) (by kernel_rfl) (by kernel_rfl))

/-! ### spec_SumOf -/
def spec_SumOf_T (fuel : Nat) : Tab := Tab.of [(10, (spec_SumNew_tf fuel).te), (110, (spec_SumAdd_tf fuel).te)] []
abbrev spec_SumOf_ps : List Pm := [{ cs := [(Kd.list (Kd.int IntKind.i64), false)], ag := false }]
abbrev spec_SumOf_rs : List Pm := [{ cs := [(Kd.list (Kd.list (Kd.int IntKind.i64)), false), (Kd.list (Kd.int IntKind.i64), true), (Kd.list (Kd.pair (Kd.int IntKind.i64) (Kd.pair (Kd.int IntKind.i64) Kd.unit)), true), (Kd.int IntKind.i64, false), (Kd.int IntKind.i64, false), (Kd.list (Kd.pair (Kd.int IntKind.i64) (Kd.pair (Kd.int IntKind.i64) Kd.unit)), true), (Kd.int IntKind.i64, false)], ag := true }, { cs := [(Kd.bool, false)], ag := false }]
def spec_SumOf_ann : List Norm := [{ live := [5, 0, 4, 2], fix := [] }]
def spec_SumOf_cuts : List (Nat × Norm) := [(1000005, { live := [4, 0, 5, 2], fix := [(4, some 1, Kd.int IntKind.i64, false), (4, some 2, Kd.pair (Kd.int IntKind.i64) (Kd.pair (Kd.int IntKind.i64) Kd.unit), false), (4, some 5, Kd.pair (Kd.int IntKind.i64) (Kd.pair (Kd.int IntKind.i64) Kd.unit), false)] })]
noncomputable def spec_SumOf_c : C := irOf Try.prog Try.f97 [] spec_SumOf_ann spec_SumOf_cuts
theorem spec_SumOf_l : lightC Try.prog [] Try.f97.ntmps spec_SumOf_ann spec_SumOf_cuts 0 (bodyOf Try.f97) = some (spec_SumOf_c, 1) := by kernel_rfl
def spec_SumOf_rv : List (Nat × Option (Nat × Bool)) := [(2, some (7, true)), (3, none)]
abbrev spec_SumOf_V0 := (Int) × (List Int) × (List (List Int)) × (Int) × (Int) × (Int) × (Int) × (Int) × (Int) × (List Int) × (List (Int × Int × Unit)) × (List (Int × Int × Unit))
def spec_SumOf_enc0 (v : spec_SumOf_V0) : Env × Heap := ([(5, SV.int IntKind.i64 v.1), (0, SV.es (Kd.int IntKind.i64) v.2.1), (4, SV.ptr 0 0), (2, SV.ptr 1 0)], [Blk.cells [SV.es (Kd.list (Kd.int IntKind.i64)) v.2.2.1, SV.own 2, SV.own 3, SV.int IntKind.i64 v.2.2.2.1, SV.int IntKind.i64 v.2.2.2.2.1, SV.own 4, SV.int IntKind.i64 v.2.2.2.2.2.1] 0 7, Blk.cells [SV.nils, SV.nils, SV.nils, SV.int IntKind.i64 v.2.2.2.2.2.2.1, SV.int IntKind.i64 v.2.2.2.2.2.2.2.1, SV.nils, SV.int IntKind.i64 v.2.2.2.2.2.2.2.2.1] 0 7, Blk.arr (Kd.int IntKind.i64) v.2.2.2.2.2.2.2.2.2.1 0, Blk.arr (Kd.pair (Kd.int IntKind.i64) (Kd.pair (Kd.int IntKind.i64) Kd.unit)) v.2.2.2.2.2.2.2.2.2.2.1 0, Blk.arr (Kd.pair (Kd.int IntKind.i64) (Kd.pair (Kd.int IntKind.i64) Kd.unit)) v.2.2.2.2.2.2.2.2.2.2.2 0])
def spec_SumOf_step0 (fuel : Nat) (g0 : spec_SumOf_V0 → Option (((List (List Int)) × ((List Int) × ((List (Int × (Int × Unit))) × (Int × (Int × ((List (Int × (Int × Unit))) × (Int × Unit))))))) × ((Bool × Unit) × Unit))) (v : spec_SumOf_V0) : Option (((List (List Int)) × ((List Int) × ((List (Int × (Int × Unit))) × (Int × (Int × ((List (Int × (Int × Unit))) × (Int × Unit))))))) × ((Bool × Unit) × Unit)) :=
 cond (decide (v.1 < (zz (List.length v.2.1))))
 (tst (decide (0 ≤ v.1)) <|
  tst (decide (v.1 < (zz (List.length v.2.1)))) <|
  Option.bind (spec_SumAdd_fn fuel ((v.2.2.1, v.2.2.2.2.2.2.2.2.2.1, v.2.2.2.2.2.2.2.2.2.2.1, v.2.2.2.1, v.2.2.2.2.1, v.2.2.2.2.2.2.2.2.2.2.2, v.2.2.2.2.2.1, ()), (List.getD v.2.1 (Int.toNat v.1) 0, ()), ())) fun y_2 =>
  cond (!y_2.snd.fst.fst)
   (some ((([], [], [], (0 : Int), (0 : Int), [], (0 : Int), ()), (false, ()), ())))
   (g0 (w64 (v.1 + (1 : Int)), v.2.1, y_2.fst.fst, y_2.fst.snd.snd.snd.fst, y_2.fst.snd.snd.snd.snd.fst, y_2.fst.snd.snd.snd.snd.snd.snd.fst, v.2.2.2.2.2.2.1, v.2.2.2.2.2.2.2.1, v.2.2.2.2.2.2.2.2.1, y_2.fst.snd.fst, y_2.fst.snd.snd.fst, y_2.fst.snd.snd.snd.snd.snd.fst)))
 (some (((v.2.2.1, v.2.2.2.2.2.2.2.2.2.1, v.2.2.2.2.2.2.2.2.2.2.1, v.2.2.2.1, v.2.2.2.2.1, v.2.2.2.2.2.2.2.2.2.2.2, v.2.2.2.2.2.1, ()), (true, ()), ())))
def spec_SumOf_st0 (fuel : Nat) (g0 : spec_SumOf_V0 → Option (((List (List Int)) × ((List Int) × ((List (Int × (Int × Unit))) × (Int × (Int × ((List (Int × (Int × Unit))) × (Int × Unit))))))) × ((Bool × Unit) × Unit))) : spec_SumOf_V0 → Option (((List (List Int)) × ((List Int) × ((List (Int × (Int × Unit))) × (Int × (Int × ((List (Int × (Int × Unit))) × (Int × Unit))))))) × ((Bool × Unit) × Unit)) := spec_SumOf_step0 fuel g0
theorem spec_SumOf_lp0 (fuel : Nat) (G) : spec_SumOf_c.lp (spec_SumOf_T fuel) 0 fuel G (endF spec_SumOf_rv spec_SumOf_rs) 0 spec_SumOf_enc0 = iter (spec_SumOf_st0 fuel) fuel := C.lp_iter fun g v => by kernel_rfl
def spec_SumOf_pre (fuel : Nat) (X0 : spec_SumOf_V0 → Option (((List (List Int)) × ((List Int) × ((List (Int × (Int × Unit))) × (Int × (Int × ((List (Int × (Int × Unit))) × (Int × Unit))))))) × ((Bool × Unit) × Unit))) (x0 : List Int) : Option (((List (List Int)) × ((List Int) × ((List (Int × (Int × Unit))) × (Int × (Int × ((List (Int × (Int × Unit))) × (Int × Unit))))))) × ((Bool × Unit) × Unit)) :=
 Option.bind (spec_SumNew_fn fuel ()) fun y_1 =>
 X0 ((0 : Int), x0, y_1.fst.fst, y_1.fst.snd.snd.snd.fst, y_1.fst.snd.snd.snd.snd.fst, y_1.fst.snd.snd.snd.snd.snd.snd.fst, (0 : Int), (0 : Int), (0 : Int), y_1.fst.snd.fst, y_1.fst.snd.snd.fst, y_1.fst.snd.snd.snd.snd.snd.fst)
def spec_SumOf_fn (fuel : Nat) (x : (((List Int) × Unit) × Unit)) : Option (((List (List Int)) × ((List Int) × ((List (Int × (Int × Unit))) × (Int × (Int × ((List (Int × (Int × Unit))) × (Int × Unit))))))) × ((Bool × Unit) × Unit)) := spec_SumOf_pre fuel (iter (spec_SumOf_st0 fuel) fuel) x.1.1
theorem spec_SumOf_run (fuel : Nat) (x : PsT spec_SumOf_ps) : run (spec_SumOf_T fuel) 0 fuel spec_SumOf_c (env0 (svPs spec_SumOf_ps x) 0) [] (endF spec_SumOf_rv spec_SumOf_rs) = spec_SumOf_fn fuel x :=
  (show run (spec_SumOf_T fuel) 0 fuel spec_SumOf_c (env0 (svPs spec_SumOf_ps x) 0) [] (endF spec_SumOf_rv spec_SumOf_rs) = spec_SumOf_pre fuel (spec_SumOf_c.lp (spec_SumOf_T fuel) 0 fuel (fun _ _ _ => none) (endF spec_SumOf_rv spec_SumOf_rs) 0 spec_SumOf_enc0) x.1.1 by kernel_rfl).trans (by rw [spec_SumOf_lp0]; rfl)
def spec_SumOf_tf (fuel : Nat) : TF := ⟨spec_SumOf_ps, spec_SumOf_rs, false, spec_SumOf_fn fuel⟩
theorem spec_SumOf_spec (fuel : Nat) : FnSpec Try.prog 97 (spec_SumOf_tf fuel) :=
  fn_spec (T := spec_SumOf_T fuel) (c := bodyOf Try.f97) (fn := Try.f97) (TabOK.of (entCons (spec_SumNew_ok fuel) (entCons (spec_SumAdd_ok fuel) entNil)) (methNil)) mixed (by kernel_rfl) (by kernel_rfl) spec_SumOf_l (by kernel_rfl) (Nat.le_of_ble_eq_true (by kernel_rfl)) (rv := spec_SumOf_rv) (by kernel_rfl) (spec_SumOf_run fuel)
theorem spec_SumOf_ok (fuel : Nat) : EntryOK Try.prog 97 (spec_SumOf_tf fuel).te := EntryOK.tf rfl (spec_SumOf_spec fuel) (isFn (fn := Try.f97) (by kernel_rfl) (by kernel_rfl) (by kernel_rfl))

/-! ### spec_l71Thing -/
def spec_l71Thing_T (fuel : Nat) : Tab := Tab.of [(64, (spec_l6Rd_pick_tf fuel).te)] []
abbrev spec_l71Thing_ps : List Pm := []
abbrev spec_l71Thing_rs : List Pm := [{ cs := [(Kd.int IntKind.i64, false)], ag := false }]
abbrev spec_l71Thing_rf : Rf := Rf.cells [(Kd.list (Kd.int IntKind.u8), false), (Kd.int IntKind.i64, false)] 127
def spec_l71Thing_ann : List Norm := []
noncomputable def spec_l71Thing_c : C := irOf Try.prog Try.f105 [] spec_l71Thing_ann []
theorem spec_l71Thing_l : lightC Try.prog [] Try.f105.ntmps spec_l71Thing_ann [] 0 (bodyOf Try.f105) = some (spec_l71Thing_c, 0) := by kernel_rfl
def spec_l71Thing_rv : List (Nat × Option (Nat × Bool)) := [(2, none)]
def spec_l71Thing_pre (fuel : Nat) (d0 : List Int) (d1 : Int) : Option (((List Int) × (Int × Unit)) × ((Int × Unit) × Unit)) :=
 Option.bind (spec_l6Rd_pick_fn fuel ((d0, d1, ()), ((12 : Int), ()), ())) fun y_1 =>
 cond (y_1.snd.fst.fst == (0 : Int))
  (Option.bind (spec_l6Rd_pick_fn fuel ((y_1.fst.fst, y_1.fst.snd.fst, ()), ((4 : Int), ()), ())) fun y_3 =>
   tst (decide (0 ≤ y_3.snd.fst.fst)) <|
    tst (decide (y_3.snd.fst.fst < (zz 4))) <|
    tst (decide (Int.toNat y_3.snd.fst.fst < 4)) <|
    some (((y_3.fst.fst, y_3.fst.snd.fst, ()), (List.getD [(-1 : Int), (64 : Int), (0 : Int), (63 : Int)] (Int.toNat y_3.snd.fst.fst) 0, ()), ())))
  (cond (y_1.snd.fst.fst == (1 : Int))
   (cond (y_1.snd.fst.fst == (1 : Int))
    (Option.bind (spec_l6Rd_pick_fn fuel ((y_1.fst.fst, y_1.fst.snd.fst, ()), ((64 : Int), ()), ())) fun y_5 =>
     some (((y_5.fst.fst, y_5.fst.snd.fst, ()), (y_5.snd.fst.fst, ()), ())))
    (Option.bind (spec_l6Rd_pick_fn fuel ((y_1.fst.fst, y_1.fst.snd.fst, ()), ((6 : Int), ()), ())) fun y_5 =>
     tst (decide (0 ≤ y_5.snd.fst.fst)) <|
      tst (decide (y_5.snd.fst.fst < (zz 6))) <|
      tst (decide (Int.toNat y_5.snd.fst.fst < 6)) <|
      some (((y_5.fst.fst, y_5.fst.snd.fst, ()), (List.getD [(3 : Int), (5 : Int), (9 : Int), (17 : Int), (33 : Int), (40 : Int)] (Int.toNat y_5.snd.fst.fst) 0, ()), ()))))
   (cond (y_1.snd.fst.fst == (2 : Int))
    (cond (y_1.snd.fst.fst == (2 : Int))
     (Option.bind (spec_l6Rd_pick_fn fuel ((y_1.fst.fst, y_1.fst.snd.fst, ()), ((64 : Int), ()), ())) fun y_6 =>
      some (((y_6.fst.fst, y_6.fst.snd.fst, ()), (y_6.snd.fst.fst, ()), ())))
     (Option.bind (spec_l6Rd_pick_fn fuel ((y_1.fst.fst, y_1.fst.snd.fst, ()), ((6 : Int), ()), ())) fun y_6 =>
      tst (decide (0 ≤ y_6.snd.fst.fst)) <|
       tst (decide (y_6.snd.fst.fst < (zz 6))) <|
       tst (decide (Int.toNat y_6.snd.fst.fst < 6)) <|
       some (((y_6.fst.fst, y_6.fst.snd.fst, ()), (List.getD [(3 : Int), (5 : Int), (9 : Int), (17 : Int), (33 : Int), (40 : Int)] (Int.toNat y_6.snd.fst.fst) 0, ()), ()))))
    (cond (y_1.snd.fst.fst == (3 : Int))
     (Option.bind (spec_l6Rd_pick_fn fuel ((y_1.fst.fst, y_1.fst.snd.fst, ()), ((64 : Int), ()), ())) fun y_6 =>
      some (((y_6.fst.fst, y_6.fst.snd.fst, ()), (y_6.snd.fst.fst, ()), ())))
     (Option.bind (spec_l6Rd_pick_fn fuel ((y_1.fst.fst, y_1.fst.snd.fst, ()), ((6 : Int), ()), ())) fun y_6 =>
      tst (decide (0 ≤ y_6.snd.fst.fst)) <|
       tst (decide (y_6.snd.fst.fst < (zz 6))) <|
       tst (decide (Int.toNat y_6.snd.fst.fst < 6)) <|
       some (((y_6.fst.fst, y_6.fst.snd.fst, ()), (List.getD [(3 : Int), (5 : Int), (9 : Int), (17 : Int), (33 : Int), (40 : Int)] (Int.toNat y_6.snd.fst.fst) 0, ()), ()))))))
def spec_l71Thing_fn (fuel : Nat) (z : ((List Int) × (Int × Unit)) × Unit) : Option (((List Int) × (Int × Unit)) × ((Int × Unit) × Unit)) := spec_l71Thing_pre fuel z.1.1 z.1.2.1
theorem spec_l71Thing_run (fuel : Nat) (c : Rf.T spec_l71Thing_rf) (x : PsT spec_l71Thing_ps) : run (spec_l71Thing_T fuel) 1 fuel spec_l71Thing_c ((0, .ptr 0 0) :: env0 (svPs spec_l71Thing_ps x) 1) [spec_l71Thing_rf.blk c] (endU spec_l71Thing_rv spec_l71Thing_rf spec_l71Thing_rs) = spec_l71Thing_fn fuel (c, x) := by kernel_rfl
def spec_l71Thing_tf (fuel : Nat) : TFU := ⟨spec_l71Thing_rf, spec_l71Thing_ps, spec_l71Thing_rs, spec_l71Thing_fn fuel⟩
theorem spec_l71Thing_spec (fuel : Nat) : FnSpecU Try.prog 105 (spec_l71Thing_tf fuel) :=
  fn_specU (T := spec_l71Thing_T fuel) (c := bodyOf Try.f105) (fn := Try.f105) (TabOK.of (entCons (spec_l6Rd_pick_ok fuel) entNil) (methNil)) mixed (by kernel_rfl) (by kernel_rfl) spec_l71Thing_l (by kernel_rfl) (Nat.le_of_ble_eq_true (by kernel_rfl)) (rv := spec_l71Thing_rv) (by kernel_rfl) (spec_l71Thing_run fuel)
theorem spec_l71Thing_ok (fuel : Nat) : EntryOK Try.prog 105 (spec_l71Thing_tf fuel).te := EntryOK.tfu (spec_l71Thing_spec fuel) (isFn (fn := Try.f105) (by kernel_rfl) (by kernel_rfl) (by kernel_rfl))

/-! ### spec_l71Things -/
def spec_l71Things_T (fuel : Nat) : Tab := Tab.of [(64, (spec_l6Rd_pick_tf fuel).te), (67, (spec_l6In_tf fuel).te), (105, (spec_l71Thing_tf fuel).te)] []
abbrev spec_l71Things_ps : List Pm := [{ cs := [(Kd.int IntKind.i64, false)], ag := false }]
abbrev spec_l71Things_rs : List Pm := [{ cs := [(Kd.list (Kd.int IntKind.i64), false)], ag := false }]
abbrev spec_l71Things_rf : Rf := Rf.cells [(Kd.list (Kd.int IntKind.u8), false), (Kd.int IntKind.i64, false)] 127
def spec_l71Things_ann : List Norm := [{ live := [6, 0, 5], fix := [(5, none, Kd.int IntKind.i64, true)] }]
noncomputable def spec_l71Things_c : C := irOf Try.prog Try.f98 [] spec_l71Things_ann []
theorem spec_l71Things_l : lightC Try.prog [] Try.f98.ntmps spec_l71Things_ann [] 0 (bodyOf Try.f98) = some (spec_l71Things_c, 1) := by kernel_rfl
def spec_l71Things_rv : List (Nat × Option (Nat × Bool)) := [(4, none)]
abbrev spec_l71Things_V0 := (Int) × (List Int) × (Int) × (List Int)
def spec_l71Things_enc0 (v : spec_l71Things_V0) : Env × Heap := ([(6, SV.int IntKind.i64 v.1), (0, SV.ptr 0 0), (5, SV.own 1)], [Blk.cells [SV.es (Kd.int IntKind.u8) v.2.1, SV.int IntKind.i64 v.2.2.1] 0 2, Blk.arr (Kd.int IntKind.i64) v.2.2.2 0])
def spec_l71Things_step0 (fuel : Nat) (g0 : spec_l71Things_V0 → Option (((List Int) × (Int × Unit)) × (((List Int) × Unit) × Unit))) (v : spec_l71Things_V0) : Option (((List Int) × (Int × Unit)) × (((List Int) × Unit) × Unit)) :=
 cond (decide (v.1 > (0 : Int)))
 (Option.bind (spec_l71Thing_fn fuel ((v.2.1, v.2.2.1, ()), ())) fun y_2 =>
  Option.bind (spec_l6In_fn fuel ((y_2.snd.fst.fst, ()), ((0 : Int), ()), ((63 : Int), ()), ())) fun y_3 =>
   cond (y_3.fst.fst)
    (tst (decide (List.length v.2.2.2 + 1 < LIM)) <|
     g0 (w64 (v.1 - (1 : Int)), y_2.fst.fst, y_2.fst.snd.fst, v.2.2.2 ++ [y_2.snd.fst.fst]))
    (g0 (w64 (v.1 - (1 : Int)), y_2.fst.fst, y_2.fst.snd.fst, v.2.2.2)))
 (some (((v.2.1, v.2.2.1, ()), (v.2.2.2, ()), ())))
def spec_l71Things_st0 (fuel : Nat) (g0 : spec_l71Things_V0 → Option (((List Int) × (Int × Unit)) × (((List Int) × Unit) × Unit))) : spec_l71Things_V0 → Option (((List Int) × (Int × Unit)) × (((List Int) × Unit) × Unit)) := spec_l71Things_step0 fuel g0
theorem spec_l71Things_lp0 (fuel : Nat) (G) : spec_l71Things_c.lp (spec_l71Things_T fuel) 1 fuel G (endU spec_l71Things_rv spec_l71Things_rf spec_l71Things_rs) 0 spec_l71Things_enc0 = iter (spec_l71Things_st0 fuel) fuel := C.lp_iter fun g v => by kernel_rfl
def spec_l71Things_pre (fuel : Nat) (X0 : spec_l71Things_V0 → Option (((List Int) × (Int × Unit)) × (((List Int) × Unit) × Unit))) (d0 : List Int) (d1 : Int) (x0 : Int) : Option (((List Int) × (Int × Unit)) × (((List Int) × Unit) × Unit)) :=
 Option.bind (spec_l6Rd_pick_fn fuel ((d0, d1, ()), (w64 (x0 + (1 : Int)), ()), ())) fun y_1 =>
 X0 (y_1.snd.fst.fst, y_1.fst.fst, y_1.fst.snd.fst, [])
def spec_l71Things_fn (fuel : Nat) (z : ((List Int) × (Int × Unit)) × ((Int × Unit) × Unit)) : Option (((List Int) × (Int × Unit)) × (((List Int) × Unit) × Unit)) := spec_l71Things_pre fuel (iter (spec_l71Things_st0 fuel) fuel) z.1.1 z.1.2.1 z.2.1.1
theorem spec_l71Things_run (fuel : Nat) (c : Rf.T spec_l71Things_rf) (x : PsT spec_l71Things_ps) : run (spec_l71Things_T fuel) 1 fuel spec_l71Things_c ((0, .ptr 0 0) :: env0 (svPs spec_l71Things_ps x) 1) [spec_l71Things_rf.blk c] (endU spec_l71Things_rv spec_l71Things_rf spec_l71Things_rs) = spec_l71Things_fn fuel (c, x) :=
  (show run (spec_l71Things_T fuel) 1 fuel spec_l71Things_c ((0, .ptr 0 0) :: env0 (svPs spec_l71Things_ps x) 1) [spec_l71Things_rf.blk c] (endU spec_l71Things_rv spec_l71Things_rf spec_l71Things_rs) = spec_l71Things_pre fuel (spec_l71Things_c.lp (spec_l71Things_T fuel) 1 fuel (fun _ _ _ => none) (endU spec_l71Things_rv spec_l71Things_rf spec_l71Things_rs) 0 spec_l71Things_enc0) c.1 c.2.1 x.1.1 by kernel_rfl).trans (by rw [spec_l71Things_lp0]; rfl)
def spec_l71Things_tf (fuel : Nat) : TFU := ⟨spec_l71Things_rf, spec_l71Things_ps, spec_l71Things_rs, spec_l71Things_fn fuel⟩
theorem spec_l71Things_spec (fuel : Nat) : FnSpecU Try.prog 98 (spec_l71Things_tf fuel) :=
  fn_specU (T := spec_l71Things_T fuel) (c := bodyOf Try.f98) (fn := Try.f98) (TabOK.of (entCons (spec_l6Rd_pick_ok fuel) (entCons (spec_l6In_ok fuel) (entCons (spec_l71Thing_ok fuel) entNil))) (methNil)) mixed (by kernel_rfl) (by kernel_rfl) spec_l71Things_l (by kernel_rfl) (Nat.le_of_ble_eq_true (by kernel_rfl)) (rv := spec_l71Things_rv) (by kernel_rfl) (spec_l71Things_run fuel)
theorem spec_l71Things_ok (fuel : Nat) : EntryOK Try.prog 98 (spec_l71Things_tf fuel).te := EntryOK.tfu (spec_l71Things_spec fuel) (isFn (fn := Try.f98) (by kernel_rfl) (by kernel_rfl) (by kernel_rfl))

/-! ### spec_RoughJoin -/
def spec_RoughJoin_T (fuel : Nat) : Tab := Tab.of [(51, (spec_RoughOk_tf fuel).te), (91, (spec_l1Sum_tf fuel).te), (121, (spec_l1Copy_tf fuel).te)] []
abbrev spec_RoughJoin_ps : List Pm := [{ cs := [(Kd.list (Kd.list (Kd.int IntKind.i64)), false)], ag := true }, { cs := [(Kd.list (Kd.list (Kd.int IntKind.i64)), false)], ag := true }]
abbrev spec_RoughJoin_rs : List Pm := [{ cs := [(Kd.list (Kd.list (Kd.int IntKind.i64)), false)], ag := true }, { cs := [(Kd.bool, false)], ag := false }]
def spec_RoughJoin_ann : List Norm := [{ live := [7, 6, 3, 4], fix := [] }, { live := [8, 6, 7, 3, 4], fix := [] }]
noncomputable def spec_RoughJoin_c : C := irOf Try.prog Try.f111 [] spec_RoughJoin_ann []
theorem spec_RoughJoin_l : lightC Try.prog [] Try.f111.ntmps spec_RoughJoin_ann [] 0 (bodyOf Try.f111) = some (spec_RoughJoin_c, 2) := by kernel_rfl
def spec_RoughJoin_rv : List (Nat × Option (Nat × Bool)) := [(4, some (1, true)), (5, none)]
inductive spec_RoughJoin_V0 where
  | c0 (v : (List (List Int)) × (List Int) × (List Int) × (List Int))
  | c1 (v : (List (List Int)) × (List Int) × (List Int) × (List Int))
  | c2 (v : (List (List Int)) × (List Int) × (List Int) × (List Int))
  | c3 (v : (List (List Int)) × (List Int) × (List Int) × (List Int))
inductive spec_RoughJoin_V1 where
  | c0 (v : (Int) × (List (List Int)) × (List Int) × (List Int) × (List Int))
  | c1 (v : (Int) × (List (List Int)) × (List Int) × (List Int) × (List Int))
  | c2 (v : (Int) × (List (List Int)) × (List Int) × (List Int) × (List Int))
def spec_RoughJoin_enc0 (v : spec_RoughJoin_V0) : Env × Heap := match v with
  | .c0 v => ([(7, SV.int IntKind.i64 (Int.ofNat 0)), (6, SV.ptr 0 0), (3, SV.ptr 1 0), (4, SV.ptr 2 0)], [Blk.cells [SV.own 3] 0 1, Blk.cells [SV.es (Kd.list (Kd.int IntKind.i64)) v.1] 0 1, Blk.cells [SV.nils] 0 1, Blk.cells [SV.own 4, SV.own 5, SV.own 6] 0 1, Blk.arr (Kd.int IntKind.i64) v.2.1 0, Blk.arr (Kd.int IntKind.i64) v.2.2.1 0, Blk.arr (Kd.int IntKind.i64) v.2.2.2 0])
  | .c1 v => ([(7, SV.int IntKind.i64 (Int.ofNat 1)), (6, SV.ptr 0 0), (3, SV.ptr 1 0), (4, SV.ptr 2 0)], [Blk.cells [SV.own 3] 0 1, Blk.cells [SV.es (Kd.list (Kd.int IntKind.i64)) v.1] 0 1, Blk.cells [SV.nils] 0 1, Blk.cells [SV.own 4, SV.own 5, SV.own 6] 0 1, Blk.arr (Kd.int IntKind.i64) v.2.1 0, Blk.arr (Kd.int IntKind.i64) v.2.2.1 0, Blk.arr (Kd.int IntKind.i64) v.2.2.2 0])
  | .c2 v => ([(7, SV.int IntKind.i64 (Int.ofNat 2)), (6, SV.ptr 0 0), (3, SV.ptr 1 0), (4, SV.ptr 2 0)], [Blk.cells [SV.own 3] 0 1, Blk.cells [SV.es (Kd.list (Kd.int IntKind.i64)) v.1] 0 1, Blk.cells [SV.nils] 0 1, Blk.cells [SV.own 4, SV.own 5, SV.own 6] 0 1, Blk.arr (Kd.int IntKind.i64) v.2.1 0, Blk.arr (Kd.int IntKind.i64) v.2.2.1 0, Blk.arr (Kd.int IntKind.i64) v.2.2.2 0])
  | .c3 v => ([(7, SV.int IntKind.i64 (Int.ofNat 3)), (6, SV.ptr 0 0), (3, SV.ptr 1 0), (4, SV.ptr 2 0)], [Blk.cells [SV.own 3] 0 1, Blk.cells [SV.es (Kd.list (Kd.int IntKind.i64)) v.1] 0 1, Blk.cells [SV.nils] 0 1, Blk.cells [SV.own 4, SV.own 5, SV.own 6] 0 1, Blk.arr (Kd.int IntKind.i64) v.2.1 0, Blk.arr (Kd.int IntKind.i64) v.2.2.1 0, Blk.arr (Kd.int IntKind.i64) v.2.2.2 0])
def spec_RoughJoin_enc1 (v : spec_RoughJoin_V1) : Env × Heap := match v with
  | .c0 v => ([(8, SV.int IntKind.i64 v.1), (6, SV.ptr 0 0), (7, SV.int IntKind.i64 (Int.ofNat 0)), (3, SV.ptr 1 0), (4, SV.ptr 2 0)], [Blk.cells [SV.own 3] 0 1, Blk.cells [SV.es (Kd.list (Kd.int IntKind.i64)) v.2.1] 0 1, Blk.cells [SV.nils] 0 1, Blk.cells [SV.own 4, SV.own 5, SV.own 6] 0 1, Blk.arr (Kd.int IntKind.i64) v.2.2.1 0, Blk.arr (Kd.int IntKind.i64) v.2.2.2.1 0, Blk.arr (Kd.int IntKind.i64) v.2.2.2.2 0])
  | .c1 v => ([(8, SV.int IntKind.i64 v.1), (6, SV.ptr 0 0), (7, SV.int IntKind.i64 (Int.ofNat 1)), (3, SV.ptr 1 0), (4, SV.ptr 2 0)], [Blk.cells [SV.own 3] 0 1, Blk.cells [SV.es (Kd.list (Kd.int IntKind.i64)) v.2.1] 0 1, Blk.cells [SV.nils] 0 1, Blk.cells [SV.own 4, SV.own 5, SV.own 6] 0 1, Blk.arr (Kd.int IntKind.i64) v.2.2.1 0, Blk.arr (Kd.int IntKind.i64) v.2.2.2.1 0, Blk.arr (Kd.int IntKind.i64) v.2.2.2.2 0])
  | .c2 v => ([(8, SV.int IntKind.i64 v.1), (6, SV.ptr 0 0), (7, SV.int IntKind.i64 (Int.ofNat 2)), (3, SV.ptr 1 0), (4, SV.ptr 2 0)], [Blk.cells [SV.own 3] 0 1, Blk.cells [SV.es (Kd.list (Kd.int IntKind.i64)) v.2.1] 0 1, Blk.cells [SV.nils] 0 1, Blk.cells [SV.own 4, SV.own 5, SV.own 6] 0 1, Blk.arr (Kd.int IntKind.i64) v.2.2.1 0, Blk.arr (Kd.int IntKind.i64) v.2.2.2.1 0, Blk.arr (Kd.int IntKind.i64) v.2.2.2.2 0])
def spec_RoughJoin_step1 (fuel : Nat) (g0 : spec_RoughJoin_V0 → Option (((List (List Int)) × Unit) × ((Bool × Unit) × Unit))) (g1 : spec_RoughJoin_V1 → Option (((List (List Int)) × Unit) × ((Bool × Unit) × Unit))) (v : spec_RoughJoin_V1) : Option (((List (List Int)) × Unit) × ((Bool × Unit) × Unit)) := match v with
  | .c0 v => cond (decide (v.1 < (8 : Int)))
    (tst (decide (0 ≤ v.1)) <|
     tst (decide (v.1 < (zz (List.length v.2.2.1)))) <|
     tst (decide (Int.toNat v.1 < List.length v.2.2.1)) <|
     tst (decide ((0 : Int) < (zz (List.length v.2.1)))) <|
     tst (decide (0 ≤ v.1)) <|
     tst (decide (v.1 < (zz (List.length (List.getD v.2.1 (Int.toNat (0 : Int)) []))))) <|
     tst (decide (0 ≤ v.1)) <|
     tst (decide (v.1 < (zz (List.length v.2.2.1)))) <|
     tst (decide (Int.toNat v.1 < List.length v.2.2.1)) <|
     g1 (.c0 (w64 (v.1 + (1 : Int)), v.2.1, List.set v.2.2.1 (Int.toNat v.1) (w64 (List.getD v.2.2.1 (Int.toNat v.1) 0 + List.getD (List.getD v.2.1 (Int.toNat (0 : Int)) []) (Int.toNat v.1) 0)), v.2.2.2.1, v.2.2.2.2)))
    (g0 (.c1 (v.2.1, v.2.2.1, v.2.2.2.1, v.2.2.2.2)))
  | .c1 v => cond (decide (v.1 < (8 : Int)))
    (tst (decide (0 ≤ v.1)) <|
     tst (decide (v.1 < (zz (List.length v.2.2.2.1)))) <|
     tst (decide (Int.toNat v.1 < List.length v.2.2.2.1)) <|
     tst (decide ((1 : Int) < (zz (List.length v.2.1)))) <|
     tst (decide (0 ≤ v.1)) <|
     tst (decide (v.1 < (zz (List.length (List.getD v.2.1 (Int.toNat (1 : Int)) []))))) <|
     tst (decide (0 ≤ v.1)) <|
     tst (decide (v.1 < (zz (List.length v.2.2.2.1)))) <|
     tst (decide (Int.toNat v.1 < List.length v.2.2.2.1)) <|
     g1 (.c1 (w64 (v.1 + (1 : Int)), v.2.1, v.2.2.1, List.set v.2.2.2.1 (Int.toNat v.1) (w64 (List.getD v.2.2.2.1 (Int.toNat v.1) 0 + List.getD (List.getD v.2.1 (Int.toNat (1 : Int)) []) (Int.toNat v.1) 0)), v.2.2.2.2)))
    (g0 (.c2 (v.2.1, v.2.2.1, v.2.2.2.1, v.2.2.2.2)))
  | .c2 v => cond (decide (v.1 < (8 : Int)))
    (tst (decide (0 ≤ v.1)) <|
     tst (decide (v.1 < (zz (List.length v.2.2.2.2)))) <|
     tst (decide (Int.toNat v.1 < List.length v.2.2.2.2)) <|
     tst (decide ((2 : Int) < (zz (List.length v.2.1)))) <|
     tst (decide (0 ≤ v.1)) <|
     tst (decide (v.1 < (zz (List.length (List.getD v.2.1 (Int.toNat (2 : Int)) []))))) <|
     tst (decide (0 ≤ v.1)) <|
     tst (decide (v.1 < (zz (List.length v.2.2.2.2)))) <|
     tst (decide (Int.toNat v.1 < List.length v.2.2.2.2)) <|
     g1 (.c2 (w64 (v.1 + (1 : Int)), v.2.1, v.2.2.1, v.2.2.2.1, List.set v.2.2.2.2 (Int.toNat v.1) (w64 (List.getD v.2.2.2.2 (Int.toNat v.1) 0 + List.getD (List.getD v.2.1 (Int.toNat (2 : Int)) []) (Int.toNat v.1) 0)))))
    (g0 (.c3 (v.2.1, v.2.2.1, v.2.2.2.1, v.2.2.2.2)))
def spec_RoughJoin_st1 (fuel : Nat) (g0 : spec_RoughJoin_V0 → Option (((List (List Int)) × Unit) × ((Bool × Unit) × Unit))) (g1 : spec_RoughJoin_V1 → Option (((List (List Int)) × Unit) × ((Bool × Unit) × Unit))) : spec_RoughJoin_V1 → Option (((List (List Int)) × Unit) × ((Bool × Unit) × Unit)) := spec_RoughJoin_step1 fuel g0 g1
theorem spec_RoughJoin_lp1 (fuel : Nat) (G) : spec_RoughJoin_c.lp (spec_RoughJoin_T fuel) 0 fuel G (endF spec_RoughJoin_rv spec_RoughJoin_rs) 1 spec_RoughJoin_enc1 = iter (spec_RoughJoin_st1 fuel (fun v => G 0 (spec_RoughJoin_enc0 v).1 (spec_RoughJoin_enc0 v).2)) fuel := C.lp_iter fun g v =>
  (show run (spec_RoughJoin_T fuel) 0 fuel (spec_RoughJoin_c.bdAt 1) (spec_RoughJoin_enc1 v).1 (spec_RoughJoin_enc1 v).2 (loopK 0 (spec_RoughJoin_c.nmAt 1) g (spec_RoughJoin_c.contAt (spec_RoughJoin_T fuel) 0 fuel G 0 1 (endF spec_RoughJoin_rv spec_RoughJoin_rs))) = spec_RoughJoin_step1 fuel (fun v => G 0 (spec_RoughJoin_enc0 v).1 (spec_RoughJoin_enc0 v).2) (fun v => g (spec_RoughJoin_enc1 v).1 (spec_RoughJoin_enc1 v).2) v by cases v <;> kernel_rfl)
def spec_RoughJoin_step0 (fuel : Nat) (X1 : spec_RoughJoin_V1 → Option (((List (List Int)) × Unit) × ((Bool × Unit) × Unit))) (g0 : spec_RoughJoin_V0 → Option (((List (List Int)) × Unit) × ((Bool × Unit) × Unit))) (v : spec_RoughJoin_V0) : Option (((List (List Int)) × Unit) × ((Bool × Unit) × Unit)) := match v with
  | .c0 v => X1 (.c0 ((0 : Int), v.1, v.2.1, v.2.2.1, v.2.2.2))
  | .c1 v => X1 (.c1 ((0 : Int), v.1, v.2.1, v.2.2.1, v.2.2.2))
  | .c2 v => X1 (.c2 ((0 : Int), v.1, v.2.1, v.2.2.1, v.2.2.2))
  | .c3 v => some ((([v.2.1, v.2.2.1, v.2.2.2], ()), (true, ()), ()))
def spec_RoughJoin_st0 (fuel : Nat) (g0 : spec_RoughJoin_V0 → Option (((List (List Int)) × Unit) × ((Bool × Unit) × Unit))) : spec_RoughJoin_V0 → Option (((List (List Int)) × Unit) × ((Bool × Unit) × Unit)) := spec_RoughJoin_step0 fuel (iter (spec_RoughJoin_st1 fuel g0) fuel) g0
theorem spec_RoughJoin_lp0 (fuel : Nat) (G) : spec_RoughJoin_c.lp (spec_RoughJoin_T fuel) 0 fuel G (endF spec_RoughJoin_rv spec_RoughJoin_rs) 0 spec_RoughJoin_enc0 = iter (spec_RoughJoin_st0 fuel) fuel := C.lp_iter fun g v =>
  (show run (spec_RoughJoin_T fuel) 0 fuel (spec_RoughJoin_c.bdAt 0) (spec_RoughJoin_enc0 v).1 (spec_RoughJoin_enc0 v).2 (loopK 0 (spec_RoughJoin_c.nmAt 0) g (spec_RoughJoin_c.contAt (spec_RoughJoin_T fuel) 0 fuel G 0 0 (endF spec_RoughJoin_rv spec_RoughJoin_rs))) = spec_RoughJoin_step0 fuel (spec_RoughJoin_c.lp (spec_RoughJoin_T fuel) 0 fuel (fun m => bif Nat.beq m 0 then g else G m) (endF spec_RoughJoin_rv spec_RoughJoin_rs) 1 spec_RoughJoin_enc1) (fun v => g (spec_RoughJoin_enc0 v).1 (spec_RoughJoin_enc0 v).2) v by cases v <;> kernel_rfl).trans (by rw [spec_RoughJoin_lp1]; rfl)
def spec_RoughJoin_pre (fuel : Nat) (X0 : spec_RoughJoin_V0 → Option (((List (List Int)) × Unit) × ((Bool × Unit) × Unit))) (x0 : List (List Int)) (x1 : List (List Int)) : Option (((List (List Int)) × Unit) × ((Bool × Unit) × Unit)) :=
 Option.bind (spec_RoughOk_fn fuel ((x0, ()), ())) fun y_1 =>
 cond (!y_1.fst.fst)
  (some ((([], ()), (false, ()), ())))
  (Option.bind (spec_RoughOk_fn fuel ((x1, ()), ())) fun y_3 =>
   cond (!y_3.fst.fst)
    (some ((([], ()), (false, ()), ())))
    (tst (decide ((0 : Int) < (zz (List.length x0)))) <|
     Option.bind (spec_l1Sum_fn fuel ((List.getD x0 (Int.toNat (0 : Int)) [], ()), ())) fun y_5 =>
     tst (decide ((0 : Int) < (zz (List.length x1)))) <|
      Option.bind (spec_l1Sum_fn fuel ((List.getD x1 (Int.toNat (0 : Int)) [], ()), ())) fun y_6 =>
      cond (decide (w64 (y_5.fst.fst + y_6.fst.fst) > (2000 : Int)))
       (some ((([], ()), (false, ()), ())))
       (Option.bind (spec_l1Copy_fn fuel ((x0, ()), ())) fun y_8 =>
        X0 (.c0 (x1, List.getD y_8.fst.fst 0 [], List.getD y_8.fst.fst 1 [], List.getD y_8.fst.fst 2 [])))))
def spec_RoughJoin_fn (fuel : Nat) (x : (((List (List Int)) × Unit) × (((List (List Int)) × Unit) × Unit))) : Option (((List (List Int)) × Unit) × ((Bool × Unit) × Unit)) := spec_RoughJoin_pre fuel (iter (spec_RoughJoin_st0 fuel) fuel) x.1.1 x.2.1.1
theorem spec_RoughJoin_run (fuel : Nat) (x : PsT spec_RoughJoin_ps) : run (spec_RoughJoin_T fuel) 0 fuel spec_RoughJoin_c (env0 (svPs spec_RoughJoin_ps x) 0) [] (endF spec_RoughJoin_rv spec_RoughJoin_rs) = spec_RoughJoin_fn fuel x :=
  (show run (spec_RoughJoin_T fuel) 0 fuel spec_RoughJoin_c (env0 (svPs spec_RoughJoin_ps x) 0) [] (endF spec_RoughJoin_rv spec_RoughJoin_rs) = spec_RoughJoin_pre fuel (spec_RoughJoin_c.lp (spec_RoughJoin_T fuel) 0 fuel (fun _ _ _ => none) (endF spec_RoughJoin_rv spec_RoughJoin_rs) 0 spec_RoughJoin_enc0) x.1.1 x.2.1.1 by kernel_rfl).trans (by rw [spec_RoughJoin_lp0]; rfl)
def spec_RoughJoin_tf (fuel : Nat) : TF := ⟨spec_RoughJoin_ps, spec_RoughJoin_rs, false, spec_RoughJoin_fn fuel⟩
theorem spec_RoughJoin_spec (fuel : Nat) : FnSpec Try.prog 111 (spec_RoughJoin_tf fuel) :=
  fn_spec (T := spec_RoughJoin_T fuel) (c := bodyOf Try.f111) (fn := Try.f111) (TabOK.of (entCons (spec_RoughOk_ok fuel) (entCons (spec_l1Sum_ok fuel) (entCons (spec_l1Copy_ok fuel) entNil))) (methNil)) mixed (by kernel_rfl) (by kernel_rfl) spec_RoughJoin_l (by kernel_rfl) (Nat.le_of_ble_eq_true (by kernel_rfl)) (rv := spec_RoughJoin_rv) (by kernel_rfl) (spec_RoughJoin_run fuel)
theorem spec_RoughJoin_ok (fuel : Nat) : EntryOK Try.prog 111 (spec_RoughJoin_tf fuel).te := EntryOK.tf rfl (spec_RoughJoin_spec fuel) (isFn (fn := Try.f111) (by kernel_rfl) (by kernel_rfl) (by kernel_rfl))

/-! ### spec_FewJoin -/
def spec_FewJoin_T (fuel : Nat) : Tab := Tab.of [(52, (spec_FewOk_tf fuel).te), (118, (spec_l2Put_tf fuel).te)] []
abbrev spec_FewJoin_ps : List Pm := [{ cs := [(Kd.list (Kd.int IntKind.i64), false)], ag := true }, { cs := [(Kd.list (Kd.int IntKind.i64), false)], ag := true }]
abbrev spec_FewJoin_rs : List Pm := [{ cs := [(Kd.list (Kd.int IntKind.i64), true)], ag := true }, { cs := [(Kd.bool, false)], ag := false }]
def spec_FewJoin_ann : List Norm := [{ live := [7, 3, 6, 4], fix := [] }]
noncomputable def spec_FewJoin_c : C := irOf Try.prog Try.f112 [] spec_FewJoin_ann []
theorem spec_FewJoin_l : lightC Try.prog [] Try.f112.ntmps spec_FewJoin_ann [] 0 (bodyOf Try.f112) = some (spec_FewJoin_c, 1) := by kernel_rfl
def spec_FewJoin_rv : List (Nat × Option (Nat × Bool)) := [(4, some (1, true)), (5, none)]
abbrev spec_FewJoin_V0 := (Int) × (List Int) × (List Int)
def spec_FewJoin_enc0 (v : spec_FewJoin_V0) : Env × Heap := ([(7, SV.int IntKind.i64 v.1), (3, SV.ptr 0 0), (6, SV.own 1), (4, SV.ptr 2 0)], [Blk.cells [SV.es (Kd.int IntKind.i64) v.2.1] 0 1, Blk.arr (Kd.int IntKind.i64) v.2.2 0, Blk.cells [SV.nils] 0 1])
def spec_FewJoin_step0 (fuel : Nat) (g0 : spec_FewJoin_V0 → Option (((List Int) × Unit) × ((Bool × Unit) × Unit))) (v : spec_FewJoin_V0) : Option (((List Int) × Unit) × ((Bool × Unit) × Unit)) :=
 cond (decide (v.1 < (zz (List.length v.2.1))))
 (tst (decide (0 ≤ v.1)) <|
  tst (decide (v.1 < (zz (List.length v.2.1)))) <|
  Option.bind (spec_l2Put_fn fuel ((v.2.2, ()), (List.getD v.2.1 (Int.toNat v.1) 0, ()), ())) fun y_2 =>
  g0 (w64 (v.1 + (1 : Int)), v.2.1, y_2.fst.fst))
 (some (((v.2.2, ()), (true, ()), ())))
def spec_FewJoin_st0 (fuel : Nat) (g0 : spec_FewJoin_V0 → Option (((List Int) × Unit) × ((Bool × Unit) × Unit))) : spec_FewJoin_V0 → Option (((List Int) × Unit) × ((Bool × Unit) × Unit)) := spec_FewJoin_step0 fuel g0
theorem spec_FewJoin_lp0 (fuel : Nat) (G) : spec_FewJoin_c.lp (spec_FewJoin_T fuel) 0 fuel G (endF spec_FewJoin_rv spec_FewJoin_rs) 0 spec_FewJoin_enc0 = iter (spec_FewJoin_st0 fuel) fuel := C.lp_iter fun g v => by kernel_rfl
def spec_FewJoin_pre (fuel : Nat) (X0 : spec_FewJoin_V0 → Option (((List Int) × Unit) × ((Bool × Unit) × Unit))) (x0 : List Int) (x1 : List Int) : Option (((List Int) × Unit) × ((Bool × Unit) × Unit)) :=
 Option.bind (spec_FewOk_fn fuel ((x0, ()), ())) fun y_1 =>
 cond (!y_1.fst.fst)
  (some ((([], ()), (false, ()), ())))
  (Option.bind (spec_FewOk_fn fuel ((x1, ()), ())) fun y_3 =>
   cond (!y_3.fst.fst)
    (some ((([], ()), (false, ()), ())))
    (tst (decide (0 + List.length x0 < LIM)) <|
     X0 ((0 : Int), x1, [] ++ x0)))
def spec_FewJoin_fn (fuel : Nat) (x : (((List Int) × Unit) × (((List Int) × Unit) × Unit))) : Option (((List Int) × Unit) × ((Bool × Unit) × Unit)) := spec_FewJoin_pre fuel (iter (spec_FewJoin_st0 fuel) fuel) x.1.1 x.2.1.1
theorem spec_FewJoin_run (fuel : Nat) (x : PsT spec_FewJoin_ps) : run (spec_FewJoin_T fuel) 0 fuel spec_FewJoin_c (env0 (svPs spec_FewJoin_ps x) 0) [] (endF spec_FewJoin_rv spec_FewJoin_rs) = spec_FewJoin_fn fuel x :=
  (show run (spec_FewJoin_T fuel) 0 fuel spec_FewJoin_c (env0 (svPs spec_FewJoin_ps x) 0) [] (endF spec_FewJoin_rv spec_FewJoin_rs) = spec_FewJoin_pre fuel (spec_FewJoin_c.lp (spec_FewJoin_T fuel) 0 fuel (fun _ _ _ => none) (endF spec_FewJoin_rv spec_FewJoin_rs) 0 spec_FewJoin_enc0) x.1.1 x.2.1.1 by kernel_rfl).trans (by rw [spec_FewJoin_lp0]; rfl)
def spec_FewJoin_tf (fuel : Nat) : TF := ⟨spec_FewJoin_ps, spec_FewJoin_rs, true, spec_FewJoin_fn fuel⟩
theorem spec_FewJoin_spec (fuel : Nat) : FnSpec Try.prog 112 (spec_FewJoin_tf fuel) :=
  fn_spec (T := spec_FewJoin_T fuel) (c := bodyOf Try.f112) (fn := Try.f112) (TabOK.of (entCons (spec_FewOk_ok fuel) (entCons (spec_l2Put_ok fuel) entNil)) (methNil)) mixed (by kernel_rfl) (by kernel_rfl) spec_FewJoin_l (by kernel_rfl) (Nat.le_of_ble_eq_true (by kernel_rfl)) (rv := spec_FewJoin_rv) (by kernel_rfl) (spec_FewJoin_run fuel)
theorem spec_FewJoin_ok (fuel : Nat) : EntryOK Try.prog 112 (spec_FewJoin_tf fuel).te := EntryOK.tf rfl (spec_FewJoin_spec fuel) (isFn (fn := Try.f112) (by kernel_rfl) (by kernel_rfl) (by kernel_rfl))

/-! ### spec_TopJoin -/
def spec_TopJoin_T (fuel : Nat) : Tab := Tab.of [(53, (spec_TopOk_tf fuel).te), (122, (spec_l3Put_tf fuel).te), (123, (spec_l3Cut_tf fuel).te)] []
abbrev spec_TopJoin_ps : List Pm := [{ cs := [(Kd.list (Kd.pair (Kd.int IntKind.i64) (Kd.pair (Kd.int IntKind.i64) Kd.unit)), false), (Kd.int IntKind.i64, false), (Kd.int IntKind.i64, false)], ag := true }, { cs := [(Kd.list (Kd.pair (Kd.int IntKind.i64) (Kd.pair (Kd.int IntKind.i64) Kd.unit)), false), (Kd.int IntKind.i64, false), (Kd.int IntKind.i64, false)], ag := true }]
abbrev spec_TopJoin_rs : List Pm := [{ cs := [(Kd.list (Kd.pair (Kd.int IntKind.i64) (Kd.pair (Kd.int IntKind.i64) Kd.unit)), true), (Kd.int IntKind.i64, false), (Kd.int IntKind.i64, false)], ag := true }, { cs := [(Kd.bool, false)], ag := false }]
def spec_TopJoin_ann : List Norm := [{ live := [7, 3, 6, 2, 4], fix := [] }]
noncomputable def spec_TopJoin_c : C := irOf Try.prog Try.f113 [] spec_TopJoin_ann []
theorem spec_TopJoin_l : lightC Try.prog [] Try.f113.ntmps spec_TopJoin_ann [] 0 (bodyOf Try.f113) = some (spec_TopJoin_c, 1) := by kernel_rfl
def spec_TopJoin_rv : List (Nat × Option (Nat × Bool)) := [(4, some (3, true)), (5, none)]
abbrev spec_TopJoin_V0 := (Int) × (List (Int × Int × Unit)) × (Int) × (Int) × (List (Int × Int × Unit)) × (List (Int × Int × Unit)) × (Int) × (Int) × (Int) × (Int)
def spec_TopJoin_enc0 (v : spec_TopJoin_V0) : Env × Heap := ([(7, SV.int IntKind.i64 v.1), (3, SV.ptr 0 0), (6, SV.own 1), (2, SV.ptr 2 0), (4, SV.ptr 3 0)], [Blk.cells [SV.es (Kd.pair (Kd.int IntKind.i64) (Kd.pair (Kd.int IntKind.i64) Kd.unit)) v.2.1, SV.int IntKind.i64 v.2.2.1, SV.int IntKind.i64 v.2.2.2.1] 0 3, Blk.arr (Kd.pair (Kd.int IntKind.i64) (Kd.pair (Kd.int IntKind.i64) Kd.unit)) v.2.2.2.2.1 0, Blk.cells [SV.es (Kd.pair (Kd.int IntKind.i64) (Kd.pair (Kd.int IntKind.i64) Kd.unit)) v.2.2.2.2.2.1, SV.int IntKind.i64 v.2.2.2.2.2.2.1, SV.int IntKind.i64 v.2.2.2.2.2.2.2.1] 0 3, Blk.cells [SV.nils, SV.int IntKind.i64 v.2.2.2.2.2.2.2.2.1, SV.int IntKind.i64 v.2.2.2.2.2.2.2.2.2] 0 3])
def spec_TopJoin_step0 (fuel : Nat) (g0 : spec_TopJoin_V0 → Option (((List (Int × (Int × Unit))) × (Int × (Int × Unit))) × ((Bool × Unit) × Unit))) (v : spec_TopJoin_V0) : Option (((List (Int × (Int × Unit))) × (Int × (Int × Unit))) × ((Bool × Unit) × Unit)) :=
 cond (decide (v.1 < (zz (List.length v.2.1))))
 (tst (decide (0 ≤ v.1)) <|
  tst (decide (v.1 < (zz (List.length v.2.1)))) <|
  Option.bind (spec_l3Put_fn fuel ((v.2.2.2.2.1, ()), ((List.getD v.2.1 (Int.toNat v.1) (0, (0, ()))).fst, (List.getD v.2.1 (Int.toNat v.1) (0, (0, ()))).snd.fst, ()), ())) fun y_2 =>
  g0 (w64 (v.1 + (1 : Int)), v.2.1, v.2.2.1, v.2.2.2.1, y_2.fst.fst, v.2.2.2.2.2.1, v.2.2.2.2.2.2.1, v.2.2.2.2.2.2.2.1, v.2.2.2.2.2.2.2.2.1, v.2.2.2.2.2.2.2.2.2))
 (Option.bind (spec_l3Cut_fn fuel ((v.2.2.2.2.1, w64 (v.2.2.2.2.2.2.1 + v.2.2.1), w64 (v.2.2.2.2.2.2.2.1 + v.2.2.2.1), ()), ())) fun y_2 =>
  some (((y_2.fst.fst, y_2.fst.snd.fst, y_2.fst.snd.snd.fst, ()), (true, ()), ())))
def spec_TopJoin_st0 (fuel : Nat) (g0 : spec_TopJoin_V0 → Option (((List (Int × (Int × Unit))) × (Int × (Int × Unit))) × ((Bool × Unit) × Unit))) : spec_TopJoin_V0 → Option (((List (Int × (Int × Unit))) × (Int × (Int × Unit))) × ((Bool × Unit) × Unit)) := spec_TopJoin_step0 fuel g0
theorem spec_TopJoin_lp0 (fuel : Nat) (G) : spec_TopJoin_c.lp (spec_TopJoin_T fuel) 0 fuel G (endF spec_TopJoin_rv spec_TopJoin_rs) 0 spec_TopJoin_enc0 = iter (spec_TopJoin_st0 fuel) fuel := C.lp_iter fun g v => by kernel_rfl
def spec_TopJoin_pre (fuel : Nat) (X0 : spec_TopJoin_V0 → Option (((List (Int × (Int × Unit))) × (Int × (Int × Unit))) × ((Bool × Unit) × Unit))) (x0 : List (Int × Int × Unit)) (x1 : Int) (x2 : Int) (x3 : List (Int × Int × Unit)) (x4 : Int) (x5 : Int) : Option (((List (Int × (Int × Unit))) × (Int × (Int × Unit))) × ((Bool × Unit) × Unit)) :=
 Option.bind (spec_TopOk_fn fuel ((x0, x1, x2, ()), ())) fun y_1 =>
 cond (!y_1.fst.fst)
  (some ((([], (0 : Int), (0 : Int), ()), (false, ()), ())))
  (Option.bind (spec_TopOk_fn fuel ((x3, x4, x5, ()), ())) fun y_3 =>
   cond (!y_3.fst.fst)
    (some ((([], (0 : Int), (0 : Int), ()), (false, ()), ())))
    (cond (decide (w64 (x2 + x5) > (2000 : Int)))
     (some ((([], (0 : Int), (0 : Int), ()), (false, ()), ())))
     (tst (decide (0 + List.length x0 < LIM)) <|
      X0 ((0 : Int), x3, x4, x5, [] ++ x0, x0, x1, x2, (0 : Int), (0 : Int)))))
def spec_TopJoin_fn (fuel : Nat) (x : (((List (Int × (Int × Unit))) × (Int × (Int × Unit))) × (((List (Int × (Int × Unit))) × (Int × (Int × Unit))) × Unit))) : Option (((List (Int × (Int × Unit))) × (Int × (Int × Unit))) × ((Bool × Unit) × Unit)) := spec_TopJoin_pre fuel (iter (spec_TopJoin_st0 fuel) fuel) x.1.1 x.1.2.1 x.1.2.2.1 x.2.1.1 x.2.1.2.1 x.2.1.2.2.1
theorem spec_TopJoin_run (fuel : Nat) (x : PsT spec_TopJoin_ps) : run (spec_TopJoin_T fuel) 0 fuel spec_TopJoin_c (env0 (svPs spec_TopJoin_ps x) 0) [] (endF spec_TopJoin_rv spec_TopJoin_rs) = spec_TopJoin_fn fuel x :=
  (show run (spec_TopJoin_T fuel) 0 fuel spec_TopJoin_c (env0 (svPs spec_TopJoin_ps x) 0) [] (endF spec_TopJoin_rv spec_TopJoin_rs) = spec_TopJoin_pre fuel (spec_TopJoin_c.lp (spec_TopJoin_T fuel) 0 fuel (fun _ _ _ => none) (endF spec_TopJoin_rv spec_TopJoin_rs) 0 spec_TopJoin_enc0) x.1.1 x.1.2.1 x.1.2.2.1 x.2.1.1 x.2.1.2.1 x.2.1.2.2.1 by kernel_rfl).trans (by rw [spec_TopJoin_lp0]; rfl)
def spec_TopJoin_tf (fuel : Nat) : TF := ⟨spec_TopJoin_ps, spec_TopJoin_rs, true, spec_TopJoin_fn fuel⟩
theorem spec_TopJoin_spec (fuel : Nat) : FnSpec Try.prog 113 (spec_TopJoin_tf fuel) :=
  fn_spec (T := spec_TopJoin_T fuel) (c := bodyOf Try.f113) (fn := Try.f113) (TabOK.of (entCons (spec_TopOk_ok fuel) (entCons (spec_l3Put_ok fuel) (entCons (spec_l3Cut_ok fuel) entNil))) (methNil)) mixed (by kernel_rfl) (by kernel_rfl) spec_TopJoin_l (by kernel_rfl) (Nat.le_of_ble_eq_true (by kernel_rfl)) (rv := spec_TopJoin_rv) (by kernel_rfl) (spec_TopJoin_run fuel)
theorem spec_TopJoin_ok (fuel : Nat) : EntryOK Try.prog 113 (spec_TopJoin_tf fuel).te := EntryOK.tf rfl (spec_TopJoin_spec fuel) (isFn (fn := Try.f113) (by kernel_rfl) (by kernel_rfl) (by kernel_rfl))

/-! ### spec_RankJoin -/
def spec_RankJoin_T (fuel : Nat) : Tab := Tab.of [(54, (spec_RankOk_tf fuel).te), (115, (spec_l4Nums_tf fuel).te), (116, (spec_l4List_tf fuel).te), (117, (spec_l4Squeeze_tf fuel).te)] []
abbrev spec_RankJoin_ps : List Pm := [{ cs := [(Kd.list (Kd.pair (Kd.int IntKind.i64) (Kd.pair (Kd.int IntKind.i64) Kd.unit)), false), (Kd.int IntKind.i64, false)], ag := true }, { cs := [(Kd.list (Kd.pair (Kd.int IntKind.i64) (Kd.pair (Kd.int IntKind.i64) Kd.unit)), false), (Kd.int IntKind.i64, false)], ag := true }]
abbrev spec_RankJoin_rs : List Pm := [{ cs := [(Kd.list (Kd.pair (Kd.int IntKind.i64) (Kd.pair (Kd.int IntKind.i64) Kd.unit)), true), (Kd.int IntKind.i64, false)], ag := true }, { cs := [(Kd.bool, false)], ag := false }]
def spec_RankJoin_ann : List Norm := []
noncomputable def spec_RankJoin_c : C := irOf Try.prog Try.f114 [27, 41, 43] spec_RankJoin_ann []
theorem spec_RankJoin_l : lightC Try.prog [27, 41, 43] Try.f114.ntmps spec_RankJoin_ann [] 0 (bodyOf Try.f114) = some (spec_RankJoin_c, 0) := by kernel_rfl
def spec_RankJoin_rv : List (Nat × Option (Nat × Bool)) := [(4, some (2, true)), (5, none)]
def spec_RankJoin_pre (fuel : Nat) (x0 : List (Int × Int × Unit)) (x1 : Int) (x2 : List (Int × Int × Unit)) (x3 : Int) : Option (((List (Int × (Int × Unit))) × (Int × Unit)) × ((Bool × Unit) × Unit)) :=
 Option.bind (spec_RankOk_fn fuel ((x0, x1, ()), ())) fun y_1 =>
 cond (!y_1.fst.fst)
  (some ((([], (0 : Int), ()), (false, ()), ())))
  (Option.bind (spec_RankOk_fn fuel ((x2, x3, ()), ())) fun y_3 =>
   cond (!y_3.fst.fst)
    (some ((([], (0 : Int), ()), (false, ()), ())))
    (cond (decide (w64 (x1 + x3) > (2000 : Int)))
     (some ((([], (0 : Int), ()), (false, ()), ())))
     (tst (decide (0 + List.length x0 < LIM)) <|
      tst (decide (List.length ([] ++ x0) + List.length x2 < LIM)) <|
      Option.bind (spec_l4Nums_fn fuel (([] ++ x0 ++ x2, ()), ())) fun y_6 =>
      Option.bind (spec_l4Squeeze_fn fuel (y_6.fst.fst, (), (w64 (x1 + x3), ()), ())) fun y_7 =>
       Option.bind (spec_l4List_fn fuel ((y_7.fst, ()), ())) fun y_8 =>
        some (((y_8.fst.fst, w64 (x1 + x3), ()), (true, ()), ())))))
def spec_RankJoin_fn (fuel : Nat) (x : (((List (Int × (Int × Unit))) × (Int × Unit)) × (((List (Int × (Int × Unit))) × (Int × Unit)) × Unit))) : Option (((List (Int × (Int × Unit))) × (Int × Unit)) × ((Bool × Unit) × Unit)) := spec_RankJoin_pre fuel x.1.1 x.1.2.1 x.2.1.1 x.2.1.2.1
theorem spec_RankJoin_run (fuel : Nat) (x : PsT spec_RankJoin_ps) : run (spec_RankJoin_T fuel) 0 fuel spec_RankJoin_c (env0 (svPs spec_RankJoin_ps x) 0) [] (endF spec_RankJoin_rv spec_RankJoin_rs) = spec_RankJoin_fn fuel x := by kernel_rfl
def spec_RankJoin_tf (fuel : Nat) : TF := ⟨spec_RankJoin_ps, spec_RankJoin_rs, true, spec_RankJoin_fn fuel⟩
theorem spec_RankJoin_spec (fuel : Nat) : FnSpec Try.prog 114 (spec_RankJoin_tf fuel) :=
  fn_spec (T := spec_RankJoin_T fuel) (c := bodyOf Try.f114) (fn := Try.f114) (TabOK.of (entCons (spec_RankOk_ok fuel) (entCons (spec_l4Nums_ok fuel) (entCons (spec_l4List_ok fuel) (entCons (spec_l4Squeeze_ok fuel) entNil)))) (methNil)) mixed (by kernel_rfl) (by kernel_rfl) spec_RankJoin_l (by kernel_rfl) (Nat.le_of_ble_eq_true (by kernel_rfl)) (rv := spec_RankJoin_rv) (by kernel_rfl) (spec_RankJoin_run fuel)
theorem spec_RankJoin_ok (fuel : Nat) : EntryOK Try.prog 114 (spec_RankJoin_tf fuel).te := EntryOK.tf rfl (spec_RankJoin_spec fuel) (isFn (fn := Try.f114) (by kernel_rfl) (by kernel_rfl) (by kernel_rfl))

/-! ### spec_SumJoin -/
def spec_SumJoin_T (fuel : Nat) : Tab := Tab.of [(16, (spec_SumOk_tf fuel).te), (111, (spec_RoughJoin_tf fuel).te), (112, (spec_FewJoin_tf fuel).te), (113, (spec_TopJoin_tf fuel).te), (114, (spec_RankJoin_tf fuel).te)] []
abbrev spec_SumJoin_ps : List Pm := [{ cs := [(Kd.list (Kd.list (Kd.int IntKind.i64)), false), (Kd.list (Kd.int IntKind.i64), false), (Kd.list (Kd.pair (Kd.int IntKind.i64) (Kd.pair (Kd.int IntKind.i64) Kd.unit)), false), (Kd.int IntKind.i64, false), (Kd.int IntKind.i64, false), (Kd.list (Kd.pair (Kd.int IntKind.i64) (Kd.pair (Kd.int IntKind.i64) Kd.unit)), false), (Kd.int IntKind.i64, false)], ag := true }, { cs := [(Kd.list (Kd.list (Kd.int IntKind.i64)), false), (Kd.list (Kd.int IntKind.i64), false), (Kd.list (Kd.pair (Kd.int IntKind.i64) (Kd.pair (Kd.int IntKind.i64) Kd.unit)), false), (Kd.int IntKind.i64, false), (Kd.int IntKind.i64, false), (Kd.list (Kd.pair (Kd.int IntKind.i64) (Kd.pair (Kd.int IntKind.i64) Kd.unit)), false), (Kd.int IntKind.i64, false)], ag := true }]
abbrev spec_SumJoin_rs : List Pm := [{ cs := [(Kd.list (Kd.list (Kd.int IntKind.i64)), false), (Kd.list (Kd.int IntKind.i64), true), (Kd.list (Kd.pair (Kd.int IntKind.i64) (Kd.pair (Kd.int IntKind.i64) Kd.unit)), true), (Kd.int IntKind.i64, false), (Kd.int IntKind.i64, false), (Kd.list (Kd.pair (Kd.int IntKind.i64) (Kd.pair (Kd.int IntKind.i64) Kd.unit)), true), (Kd.int IntKind.i64, false)], ag := true }, { cs := [(Kd.bool, false)], ag := false }]
def spec_SumJoin_ann : List Norm := []
noncomputable def spec_SumJoin_c : C := irOf Try.prog Try.f99 [] spec_SumJoin_ann []
theorem spec_SumJoin_l : lightC Try.prog [] Try.f99.ntmps spec_SumJoin_ann [] 0 (bodyOf Try.f99) = some (spec_SumJoin_c, 0) := by kernel_rfl
def spec_SumJoin_rv : List (Nat × Option (Nat × Bool)) := [(4, some (7, true)), (5, none)]
def spec_SumJoin_pre (fuel : Nat) (x0 : List (List Int)) (x1 : List Int) (x2 : List (Int × Int × Unit)) (x3 : Int) (x4 : Int) (x5 : List (Int × Int × Unit)) (x6 : Int) (x7 : List (List Int)) (x8 : List Int) (x9 : List (Int × Int × Unit)) (x10 : Int) (x11 : Int) (x12 : List (Int × Int × Unit)) (x13 : Int) : Option (((List (List Int)) × ((List Int) × ((List (Int × (Int × Unit))) × (Int × (Int × ((List (Int × (Int × Unit))) × (Int × Unit))))))) × ((Bool × Unit) × Unit)) :=
 Option.bind (spec_SumOk_fn fuel ((x0, x1, x2, x3, x4, x5, x6, ()), ())) fun y_1 =>
 cond (!y_1.fst.fst)
  (some ((([], [], [], (0 : Int), (0 : Int), [], (0 : Int), ()), (false, ()), ())))
  (Option.bind (spec_SumOk_fn fuel ((x7, x8, x9, x10, x11, x12, x13, ()), ())) fun y_3 =>
   cond (!y_3.fst.fst)
    (some ((([], [], [], (0 : Int), (0 : Int), [], (0 : Int), ()), (false, ()), ())))
    (cond (decide (w64 (x4 + x11) > (2000 : Int)))
     (some ((([], [], [], (0 : Int), (0 : Int), [], (0 : Int), ()), (false, ()), ())))
     (Option.bind (spec_RoughJoin_fn fuel ((x0, ()), (x7, ()), ())) fun y_6 =>
      Option.bind (spec_FewJoin_fn fuel ((x1, ()), (x8, ()), ())) fun y_7 =>
       Option.bind (spec_TopJoin_fn fuel ((x2, x3, x4, ()), (x9, x10, x11, ()), ())) fun y_8 =>
        Option.bind (spec_RankJoin_fn fuel ((x5, x6, ()), (x12, x13, ()), ())) fun y_9 =>
         some (((y_6.fst.fst, y_7.fst.fst, y_8.fst.fst, y_8.fst.snd.fst, y_8.fst.snd.snd.fst, y_9.fst.fst, y_9.fst.snd.fst, ()), (true, ()), ())))))
def spec_SumJoin_fn (fuel : Nat) (x : (((List (List Int)) × ((List Int) × ((List (Int × (Int × Unit))) × (Int × (Int × ((List (Int × (Int × Unit))) × (Int × Unit))))))) × (((List (List Int)) × ((List Int) × ((List (Int × (Int × Unit))) × (Int × (Int × ((List (Int × (Int × Unit))) × (Int × Unit))))))) × Unit))) : Option (((List (List Int)) × ((List Int) × ((List (Int × (Int × Unit))) × (Int × (Int × ((List (Int × (Int × Unit))) × (Int × Unit))))))) × ((Bool × Unit) × Unit)) := spec_SumJoin_pre fuel x.1.1 x.1.2.1 x.1.2.2.1 x.1.2.2.2.1 x.1.2.2.2.2.1 x.1.2.2.2.2.2.1 x.1.2.2.2.2.2.2.1 x.2.1.1 x.2.1.2.1 x.2.1.2.2.1 x.2.1.2.2.2.1 x.2.1.2.2.2.2.1 x.2.1.2.2.2.2.2.1 x.2.1.2.2.2.2.2.2.1
theorem spec_SumJoin_run (fuel : Nat) (x : PsT spec_SumJoin_ps) : run (spec_SumJoin_T fuel) 0 fuel spec_SumJoin_c (env0 (svPs spec_SumJoin_ps x) 0) [] (endF spec_SumJoin_rv spec_SumJoin_rs) = spec_SumJoin_fn fuel x := by kernel_rfl
def spec_SumJoin_tf (fuel : Nat) : TF := ⟨spec_SumJoin_ps, spec_SumJoin_rs, false, spec_SumJoin_fn fuel⟩
theorem spec_SumJoin_spec (fuel : Nat) : FnSpec Try.prog 99 (spec_SumJoin_tf fuel) :=
  fn_spec (T := spec_SumJoin_T fuel) (c := bodyOf Try.f99) (fn := Try.f99) (TabOK.of (entCons (spec_SumOk_ok fuel) (entCons (spec_RoughJoin_ok fuel) (entCons (spec_FewJoin_ok fuel) (entCons (spec_TopJoin_ok fuel) (entCons (spec_RankJoin_ok fuel) entNil))))) (methNil)) mixed (by kernel_rfl) (by kernel_rfl) spec_SumJoin_l (by kernel_rfl) (Nat.le_of_ble_eq_true (by kernel_rfl)) (rv := spec_SumJoin_rv) (by kernel_rfl) (spec_SumJoin_run fuel)
theorem spec_SumJoin_ok (fuel : Nat) : EntryOK Try.prog 99 (spec_SumJoin_tf fuel).te := EntryOK.tf rfl (spec_SumJoin_spec fuel) (isFn (fn := Try.f99) (by kernel_rfl) (by kernel_rfl) (by kernel_rfl))

/-! ### spec_l71Sum -/
def spec_l71Sum_T (fuel : Nat) : Tab := Tab.of [(33, (spec_RoughNew_tf fuel).te), (64, (spec_l6Rd_pick_tf fuel).te), (97, (spec_SumOf_tf fuel).te), (98, (spec_l71Things_tf fuel).te), (99, (spec_SumJoin_tf fuel).te)] []
abbrev spec_l71Sum_ps : List Pm := []
abbrev spec_l71Sum_rs : List Pm := [{ cs := [(Kd.list (Kd.list (Kd.int IntKind.i64)), false), (Kd.list (Kd.int IntKind.i64), true), (Kd.list (Kd.pair (Kd.int IntKind.i64) (Kd.pair (Kd.int IntKind.i64) Kd.unit)), true), (Kd.int IntKind.i64, false), (Kd.int IntKind.i64, false), (Kd.list (Kd.pair (Kd.int IntKind.i64) (Kd.pair (Kd.int IntKind.i64) Kd.unit)), true), (Kd.int IntKind.i64, false)], ag := true }]
abbrev spec_l71Sum_rf : Rf := Rf.cells [(Kd.list (Kd.int IntKind.u8), false), (Kd.int IntKind.i64, false)] 127
def spec_l71Sum_ann : List Norm := []
def spec_l71Sum_cuts : List (Nat × Norm) := [(1000004, { live := [3, 5, 0, 2], fix := [(3, some 1, Kd.int IntKind.i64, false), (3, some 2, Kd.pair (Kd.int IntKind.i64) (Kd.pair (Kd.int IntKind.i64) Kd.unit), false), (3, some 5, Kd.pair (Kd.int IntKind.i64) (Kd.pair (Kd.int IntKind.i64) Kd.unit), false), (5, some 1, Kd.int IntKind.i64, false), (5, some 2, Kd.pair (Kd.int IntKind.i64) (Kd.pair (Kd.int IntKind.i64) Kd.unit), false), (5, some 5, Kd.pair (Kd.int IntKind.i64) (Kd.pair (Kd.int IntKind.i64) Kd.unit), false)] })]
noncomputable def spec_l71Sum_c : C := irOf Try.prog Try.f61 [] spec_l71Sum_ann spec_l71Sum_cuts
theorem spec_l71Sum_l : lightC Try.prog [] Try.f61.ntmps spec_l71Sum_ann spec_l71Sum_cuts 0 (bodyOf Try.f61) = some (spec_l71Sum_c, 0) := by kernel_rfl
def spec_l71Sum_rv : List (Nat × Option (Nat × Bool)) := [(2, some (7, true))]
def spec_l71Sum_pre (fuel : Nat) (d0 : List Int) (d1 : Int) : Option (((List Int) × (Int × Unit)) × (((List (List Int)) × ((List Int) × ((List (Int × (Int × Unit))) × (Int × (Int × ((List (Int × (Int × Unit))) × (Int × Unit))))))) × Unit)) :=
 Option.bind (spec_l71Things_fn fuel ((d0, d1, ()), ((20 : Int), ()), ())) fun y_1 =>
 Option.bind (spec_SumOf_fn fuel ((y_1.snd.fst.fst, ()), ())) fun y_2 =>
  Option.bind (spec_l6Rd_pick_fn fuel ((y_1.fst.fst, y_1.fst.snd.fst, ()), ((4 : Int), ()), ())) fun y_3 =>
   cond (y_3.snd.fst.fst == (0 : Int))
    (Option.bind (spec_l71Things_fn fuel ((y_3.fst.fst, y_3.fst.snd.fst, ()), ((20 : Int), ()), ())) fun y_5 =>
     Option.bind (spec_SumOf_fn fuel ((y_5.snd.fst.fst, ()), ())) fun y_6 =>
      Option.bind (spec_SumJoin_fn fuel ((y_2.fst.fst, y_2.fst.snd.fst, y_2.fst.snd.snd.fst, y_2.fst.snd.snd.snd.fst, y_2.fst.snd.snd.snd.snd.fst, y_2.fst.snd.snd.snd.snd.snd.fst, y_2.fst.snd.snd.snd.snd.snd.snd.fst, ()), (y_6.fst.fst, y_6.fst.snd.fst, y_6.fst.snd.snd.fst, y_6.fst.snd.snd.snd.fst, y_6.fst.snd.snd.snd.snd.fst, y_6.fst.snd.snd.snd.snd.snd.fst, y_6.fst.snd.snd.snd.snd.snd.snd.fst, ()), ())) fun y_7 =>
       Option.bind (spec_l6Rd_pick_fn fuel ((y_5.fst.fst, y_5.fst.snd.fst, ()), ((24 : Int), ()), ())) fun y_8 =>
        cond (y_8.snd.fst.fst == (0 : Int))
         (some (((y_8.fst.fst, y_8.fst.snd.fst, ()), (y_7.fst.fst, y_7.fst.snd.fst, y_7.fst.snd.snd.fst, y_7.fst.snd.snd.snd.fst, w64 (y_7.fst.snd.snd.snd.snd.fst + (1 : Int)), y_7.fst.snd.snd.snd.snd.snd.fst, y_7.fst.snd.snd.snd.snd.snd.snd.fst, ()), ())))
         (cond (y_8.snd.fst.fst == (1 : Int))
          (tst (decide (List.length y_7.fst.snd.fst + 1 < LIM)) <|
           some (((y_8.fst.fst, y_8.fst.snd.fst, ()), (y_7.fst.fst, y_7.fst.snd.fst ++ [(0 : Int)], y_7.fst.snd.snd.fst, y_7.fst.snd.snd.snd.fst, y_7.fst.snd.snd.snd.snd.fst, y_7.fst.snd.snd.snd.snd.snd.fst, y_7.fst.snd.snd.snd.snd.snd.snd.fst, ()), ())))
          (cond (y_8.snd.fst.fst == (2 : Int))
           (Option.bind (spec_RoughNew_fn fuel ()) fun y_12 =>
            some (((y_8.fst.fst, y_8.fst.snd.fst, ()), (y_12.fst.fst, y_7.fst.snd.fst, y_7.fst.snd.snd.fst, y_7.fst.snd.snd.snd.fst, y_7.fst.snd.snd.snd.snd.fst, y_7.fst.snd.snd.snd.snd.snd.fst, y_7.fst.snd.snd.snd.snd.snd.snd.fst, ()), ())))
           (some (((y_8.fst.fst, y_8.fst.snd.fst, ()), (y_7.fst.fst, y_7.fst.snd.fst, y_7.fst.snd.snd.fst, y_7.fst.snd.snd.snd.fst, y_7.fst.snd.snd.snd.snd.fst, y_7.fst.snd.snd.snd.snd.snd.fst, y_7.fst.snd.snd.snd.snd.snd.snd.fst, ()), ()))))))
    (Option.bind (spec_l6Rd_pick_fn fuel ((y_3.fst.fst, y_3.fst.snd.fst, ()), ((24 : Int), ()), ())) fun y_5 =>
     cond (y_5.snd.fst.fst == (0 : Int))
      (some (((y_5.fst.fst, y_5.fst.snd.fst, ()), (y_2.fst.fst, y_2.fst.snd.fst, y_2.fst.snd.snd.fst, y_2.fst.snd.snd.snd.fst, w64 (y_2.fst.snd.snd.snd.snd.fst + (1 : Int)), y_2.fst.snd.snd.snd.snd.snd.fst, y_2.fst.snd.snd.snd.snd.snd.snd.fst, ()), ())))
      (cond (y_5.snd.fst.fst == (1 : Int))
       (tst (decide (List.length y_2.fst.snd.fst + 1 < LIM)) <|
        some (((y_5.fst.fst, y_5.fst.snd.fst, ()), (y_2.fst.fst, y_2.fst.snd.fst ++ [(0 : Int)], y_2.fst.snd.snd.fst, y_2.fst.snd.snd.snd.fst, y_2.fst.snd.snd.snd.snd.fst, y_2.fst.snd.snd.snd.snd.snd.fst, y_2.fst.snd.snd.snd.snd.snd.snd.fst, ()), ())))
       (cond (y_5.snd.fst.fst == (2 : Int))
        (Option.bind (spec_RoughNew_fn fuel ()) fun y_9 =>
         some (((y_5.fst.fst, y_5.fst.snd.fst, ()), (y_9.fst.fst, y_2.fst.snd.fst, y_2.fst.snd.snd.fst, y_2.fst.snd.snd.snd.fst, y_2.fst.snd.snd.snd.snd.fst, y_2.fst.snd.snd.snd.snd.snd.fst, y_2.fst.snd.snd.snd.snd.snd.snd.fst, ()), ())))
        (some (((y_5.fst.fst, y_5.fst.snd.fst, ()), (y_2.fst.fst, y_2.fst.snd.fst, y_2.fst.snd.snd.fst, y_2.fst.snd.snd.snd.fst, y_2.fst.snd.snd.snd.snd.fst, y_2.fst.snd.snd.snd.snd.snd.fst, y_2.fst.snd.snd.snd.snd.snd.snd.fst, ()), ()))))))
def spec_l71Sum_fn (fuel : Nat) (z : ((List Int) × (Int × Unit)) × Unit) : Option (((List Int) × (Int × Unit)) × (((List (List Int)) × ((List Int) × ((List (Int × (Int × Unit))) × (Int × (Int × ((List (Int × (Int × Unit))) × (Int × Unit))))))) × Unit)) := spec_l71Sum_pre fuel z.1.1 z.1.2.1
theorem spec_l71Sum_run (fuel : Nat) (c : Rf.T spec_l71Sum_rf) (x : PsT spec_l71Sum_ps) : run (spec_l71Sum_T fuel) 1 fuel spec_l71Sum_c ((0, .ptr 0 0) :: env0 (svPs spec_l71Sum_ps x) 1) [spec_l71Sum_rf.blk c] (endU spec_l71Sum_rv spec_l71Sum_rf spec_l71Sum_rs) = spec_l71Sum_fn fuel (c, x) := by kernel_rfl
def spec_l71Sum_tf (fuel : Nat) : TFU := ⟨spec_l71Sum_rf, spec_l71Sum_ps, spec_l71Sum_rs, spec_l71Sum_fn fuel⟩
theorem spec_l71Sum_spec (fuel : Nat) : FnSpecU Try.prog 61 (spec_l71Sum_tf fuel) :=
  fn_specU (T := spec_l71Sum_T fuel) (c := bodyOf Try.f61) (fn := Try.f61) (TabOK.of (entCons (spec_RoughNew_ok fuel) (entCons (spec_l6Rd_pick_ok fuel) (entCons (spec_SumOf_ok fuel) (entCons (spec_l71Things_ok fuel) (entCons (spec_SumJoin_ok fuel) entNil))))) (methNil)) mixed (by kernel_rfl) (by kernel_rfl) spec_l71Sum_l (by kernel_rfl) (Nat.le_of_ble_eq_true (by kernel_rfl)) (rv := spec_l71Sum_rv) (by kernel_rfl) (spec_l71Sum_run fuel)
theorem spec_l71Sum_ok (fuel : Nat) : EntryOK Try.prog 61 (spec_l71Sum_tf fuel).te := EntryOK.tfu (spec_l71Sum_spec fuel) (isFn (fn := Try.f61) (by kernel_rfl) (by kernel_rfl) (by kernel_rfl))

end Go.Proofs.Ytjnkefbdpcbkmaa.Den
