/- Readings of functions of the sums, as functions on plain data (1). -/
import Derived.Test.YtjnkefbdpcbkmaaCS0
namespace Go.Proofs.Ytjnkefbdpcbkmaa.Den
open Go Go.RowKit
set_option linter.unusedVariables false
set_option linter.unusedSimpArgs false

/-! ### laws_eqSum -/
def laws_eqSum_T (fuel : Nat) : Tab := Tab.of [(35, (laws_eqRough_tf fuel).te), (36, (laws_eqFew_tf fuel).te), (37, (laws_eqTop_tf fuel).te), (38, (laws_eqRank_tf fuel).te)] []
abbrev laws_eqSum_ps : List Pm := [{ cs := [(Kd.list (Kd.list (Kd.int IntKind.i64)), false), (Kd.list (Kd.int IntKind.i64), false), (Kd.list (Kd.pair (Kd.int IntKind.i64) (Kd.pair (Kd.int IntKind.i64) Kd.unit)), false), (Kd.int IntKind.i64, false), (Kd.int IntKind.i64, false), (Kd.list (Kd.pair (Kd.int IntKind.i64) (Kd.pair (Kd.int IntKind.i64) Kd.unit)), false), (Kd.int IntKind.i64, false)], ag := true }, { cs := [(Kd.list (Kd.list (Kd.int IntKind.i64)), false), (Kd.list (Kd.int IntKind.i64), false), (Kd.list (Kd.pair (Kd.int IntKind.i64) (Kd.pair (Kd.int IntKind.i64) Kd.unit)), false), (Kd.int IntKind.i64, false), (Kd.int IntKind.i64, false), (Kd.list (Kd.pair (Kd.int IntKind.i64) (Kd.pair (Kd.int IntKind.i64) Kd.unit)), false), (Kd.int IntKind.i64, false)], ag := true }]
abbrev laws_eqSum_rs : List Pm := [{ cs := [(Kd.bool, false)], ag := false }]
def laws_eqSum_ann : List Norm := []
noncomputable def laws_eqSum_c : C := irOf Try.prog Try.f12 [] laws_eqSum_ann []
theorem laws_eqSum_l : lightC Try.prog [] Try.f12.ntmps laws_eqSum_ann [] 0 (bodyOf Try.f12) = some (laws_eqSum_c, 0) := by kernel_rfl
def laws_eqSum_rv : List (Nat × Option (Nat × Bool)) := [(4, none)]
def laws_eqSum_pre (fuel : Nat) (x0 : List (List Int)) (x1 : List Int) (x2 : List (Int × Int × Unit)) (x3 : Int) (x4 : Int) (x5 : List (Int × Int × Unit)) (x6 : Int) (x7 : List (List Int)) (x8 : List Int) (x9 : List (Int × Int × Unit)) (x10 : Int) (x11 : Int) (x12 : List (Int × Int × Unit)) (x13 : Int) : Option ((Bool × Unit) × Unit) :=
 Option.bind (laws_eqRough_fn fuel ((x0, ()), (x7, ()), ())) fun y_1 =>
 cond (!y_1.fst.fst)
  (some (((false, ()), ())))
  (Option.bind (laws_eqFew_fn fuel ((x1, ()), (x8, ()), ())) fun y_3 =>
   cond (!y_3.fst.fst)
    (some (((false, ()), ())))
    (Option.bind (laws_eqTop_fn fuel ((x2, x3, x4, ()), (x9, x10, x11, ()), ())) fun y_5 =>
     cond (!y_5.fst.fst)
      (some (((false, ()), ())))
      (Option.bind (laws_eqRank_fn fuel ((x5, x6, ()), (x12, x13, ()), ())) fun y_7 =>
       cond (!y_7.fst.fst)
        (some (((false, ()), ())))
        (some (((true, ()), ()))))))
def laws_eqSum_fn (fuel : Nat) (x : (((List (List Int)) × ((List Int) × ((List (Int × (Int × Unit))) × (Int × (Int × ((List (Int × (Int × Unit))) × (Int × Unit))))))) × (((List (List Int)) × ((List Int) × ((List (Int × (Int × Unit))) × (Int × (Int × ((List (Int × (Int × Unit))) × (Int × Unit))))))) × Unit))) : Option ((Bool × Unit) × Unit) := laws_eqSum_pre fuel x.1.1 x.1.2.1 x.1.2.2.1 x.1.2.2.2.1 x.1.2.2.2.2.1 x.1.2.2.2.2.2.1 x.1.2.2.2.2.2.2.1 x.2.1.1 x.2.1.2.1 x.2.1.2.2.1 x.2.1.2.2.2.1 x.2.1.2.2.2.2.1 x.2.1.2.2.2.2.2.1 x.2.1.2.2.2.2.2.2.1
theorem laws_eqSum_run (fuel : Nat) (x : PsT laws_eqSum_ps) : run (laws_eqSum_T fuel) 0 fuel laws_eqSum_c (env0 (svPs laws_eqSum_ps x) 0) [] (endF laws_eqSum_rv laws_eqSum_rs) = laws_eqSum_fn fuel x := by kernel_rfl
def laws_eqSum_tf (fuel : Nat) : TF := ⟨laws_eqSum_ps, laws_eqSum_rs, true, laws_eqSum_fn fuel⟩
theorem laws_eqSum_spec (fuel : Nat) : FnSpec Try.prog 12 (laws_eqSum_tf fuel) :=
  fn_spec (T := laws_eqSum_T fuel) (c := bodyOf Try.f12) (fn := Try.f12) (TabOK.of (entCons (laws_eqRough_ok fuel) (entCons (laws_eqFew_ok fuel) (entCons (laws_eqTop_ok fuel) (entCons (laws_eqRank_ok fuel) entNil)))) (methNil)) mixed (by kernel_rfl) (by kernel_rfl) laws_eqSum_l (by kernel_rfl) (Nat.le_of_ble_eq_true (by kernel_rfl)) (rv := laws_eqSum_rv) (by kernel_rfl) (laws_eqSum_run fuel)
theorem laws_eqSum_ok (fuel : Nat) : EntryOK Try.prog 12 (laws_eqSum_tf fuel).te := EntryOK.tf rfl (laws_eqSum_spec fuel) (isFn (fn := Try.f12) (by kernel_rfl) (by kernel_rfl) (by kernel_rfl))

/-! ### laws_szIntS -/
def laws_szIntS_T (fuel : Nat) : Tab := Tab.of [] []
abbrev laws_szIntS_ps : List Pm := [{ cs := [(Kd.list (Kd.int IntKind.i64), false)], ag := false }, { cs := [(Kd.int IntKind.i64, false)], ag := false }]
abbrev laws_szIntS_rs : List Pm := [{ cs := [(Kd.int IntKind.i64, false)], ag := false }]
def laws_szIntS_ann : List Norm := []
noncomputable def laws_szIntS_c : C := irOf Try.prog Try.f88 [] laws_szIntS_ann []
theorem laws_szIntS_l : lightC Try.prog [] Try.f88.ntmps laws_szIntS_ann [] 0 (bodyOf Try.f88) = some (laws_szIntS_c, 0) := by kernel_rfl
def laws_szIntS_rv : List (Nat × Option (Nat × Bool)) := [(4, none)]
def laws_szIntS_pre (fuel : Nat) (x0 : List Int) (x1 : Int) : Option ((Int × Unit) × Unit) :=
 cond (decide (w64 (x1 - (zz (List.length x0))) < (0 : Int)))
 (some ((((-1 : Int), ()), ())))
 (some (((w64 (x1 - (zz (List.length x0))), ()), ())))
def laws_szIntS_fn (fuel : Nat) (x : (((List Int) × Unit) × ((Int × Unit) × Unit))) : Option ((Int × Unit) × Unit) := laws_szIntS_pre fuel x.1.1 x.2.1.1
theorem laws_szIntS_run (fuel : Nat) (x : PsT laws_szIntS_ps) : run (laws_szIntS_T fuel) 0 fuel laws_szIntS_c (env0 (svPs laws_szIntS_ps x) 0) [] (endF laws_szIntS_rv laws_szIntS_rs) = laws_szIntS_fn fuel x := by kernel_rfl
def laws_szIntS_tf (fuel : Nat) : TF := ⟨laws_szIntS_ps, laws_szIntS_rs, true, laws_szIntS_fn fuel⟩
theorem laws_szIntS_spec (fuel : Nat) : FnSpec Try.prog 88 (laws_szIntS_tf fuel) :=
  fn_spec (T := laws_szIntS_T fuel) (c := bodyOf Try.f88) (fn := Try.f88) (TabOK.of (entNil) (methNil)) mixed (by kernel_rfl) (by kernel_rfl) laws_szIntS_l (by kernel_rfl) (Nat.le_of_ble_eq_true (by kernel_rfl)) (rv := laws_szIntS_rv) (by kernel_rfl) (laws_szIntS_run fuel)
theorem laws_szIntS_ok (fuel : Nat) : EntryOK Try.prog 88 (laws_szIntS_tf fuel).te := EntryOK.tf rfl (laws_szIntS_spec fuel) (isFn (fn := Try.f88) (by kernel_rfl) (by kernel_rfl) (by kernel_rfl))

/-! ### laws_szIntSS -/
def laws_szIntSS_T (fuel : Nat) : Tab := Tab.of [(88, (laws_szIntS_tf fuel).te)] []
abbrev laws_szIntSS_ps : List Pm := [{ cs := [(Kd.list (Kd.list (Kd.int IntKind.i64)), false)], ag := false }, { cs := [(Kd.int IntKind.i64, false)], ag := false }]
abbrev laws_szIntSS_rs : List Pm := [{ cs := [(Kd.int IntKind.i64, false)], ag := false }]
def laws_szIntSS_ann : List Norm := [{ live := [5, 0, 1], fix := [] }]
noncomputable def laws_szIntSS_c : C := irOf Try.prog Try.f87 [] laws_szIntSS_ann []
theorem laws_szIntSS_l : lightC Try.prog [] Try.f87.ntmps laws_szIntSS_ann [] 0 (bodyOf Try.f87) = some (laws_szIntSS_c, 1) := by kernel_rfl
def laws_szIntSS_rv : List (Nat × Option (Nat × Bool)) := [(4, none)]
abbrev laws_szIntSS_V0 := (Int) × (List (List Int)) × (Int)
def laws_szIntSS_enc0 (v : laws_szIntSS_V0) : Env × Heap := ([(5, SV.int IntKind.i64 v.1), (0, SV.es (Kd.list (Kd.int IntKind.i64)) v.2.1), (1, SV.int IntKind.i64 v.2.2)], [])
def laws_szIntSS_step0 (fuel : Nat) (g0 : laws_szIntSS_V0 → Option ((Int × Unit) × Unit)) (v : laws_szIntSS_V0) : Option ((Int × Unit) × Unit) :=
 cond (decide (v.1 < (zz (List.length v.2.1))))
 (tst (decide (0 ≤ v.1)) <|
  tst (decide (v.1 < (zz (List.length v.2.1)))) <|
  Option.bind (laws_szIntS_fn fuel ((List.getD v.2.1 (Int.toNat v.1) [], ()), (v.2.2, ()), ())) fun y_2 =>
  cond (decide (y_2.fst.fst < (0 : Int)))
   (some ((((-1 : Int), ()), ())))
   (g0 (w64 (v.1 + (1 : Int)), v.2.1, y_2.fst.fst)))
 (some (((v.2.2, ()), ())))
def laws_szIntSS_st0 (fuel : Nat) (g0 : laws_szIntSS_V0 → Option ((Int × Unit) × Unit)) : laws_szIntSS_V0 → Option ((Int × Unit) × Unit) := laws_szIntSS_step0 fuel g0
theorem laws_szIntSS_lp0 (fuel : Nat) (G) : laws_szIntSS_c.lp (laws_szIntSS_T fuel) 0 fuel G (endF laws_szIntSS_rv laws_szIntSS_rs) 0 laws_szIntSS_enc0 = iter (laws_szIntSS_st0 fuel) fuel := C.lp_iter fun g v => by kernel_rfl
def laws_szIntSS_pre (fuel : Nat) (X0 : laws_szIntSS_V0 → Option ((Int × Unit) × Unit)) (x0 : List (List Int)) (x1 : Int) : Option ((Int × Unit) × Unit) :=
 cond (decide (w64 (x1 - (zz (List.length x0))) < (0 : Int)))
 (some ((((-1 : Int), ()), ())))
 (X0 ((0 : Int), x0, w64 (x1 - (zz (List.length x0)))))
def laws_szIntSS_fn (fuel : Nat) (x : (((List (List Int)) × Unit) × ((Int × Unit) × Unit))) : Option ((Int × Unit) × Unit) := laws_szIntSS_pre fuel (iter (laws_szIntSS_st0 fuel) fuel) x.1.1 x.2.1.1
theorem laws_szIntSS_run (fuel : Nat) (x : PsT laws_szIntSS_ps) : run (laws_szIntSS_T fuel) 0 fuel laws_szIntSS_c (env0 (svPs laws_szIntSS_ps x) 0) [] (endF laws_szIntSS_rv laws_szIntSS_rs) = laws_szIntSS_fn fuel x :=
  (show run (laws_szIntSS_T fuel) 0 fuel laws_szIntSS_c (env0 (svPs laws_szIntSS_ps x) 0) [] (endF laws_szIntSS_rv laws_szIntSS_rs) = laws_szIntSS_pre fuel (laws_szIntSS_c.lp (laws_szIntSS_T fuel) 0 fuel (fun _ _ _ => none) (endF laws_szIntSS_rv laws_szIntSS_rs) 0 laws_szIntSS_enc0) x.1.1 x.2.1.1 by kernel_rfl).trans (by rw [laws_szIntSS_lp0]; rfl)
def laws_szIntSS_tf (fuel : Nat) : TF := ⟨laws_szIntSS_ps, laws_szIntSS_rs, true, laws_szIntSS_fn fuel⟩
theorem laws_szIntSS_spec (fuel : Nat) : FnSpec Try.prog 87 (laws_szIntSS_tf fuel) :=
  fn_spec (T := laws_szIntSS_T fuel) (c := bodyOf Try.f87) (fn := Try.f87) (TabOK.of (entCons (laws_szIntS_ok fuel) entNil) (methNil)) mixed (by kernel_rfl) (by kernel_rfl) laws_szIntSS_l (by kernel_rfl) (Nat.le_of_ble_eq_true (by kernel_rfl)) (rv := laws_szIntSS_rv) (by kernel_rfl) (laws_szIntSS_run fuel)
theorem laws_szIntSS_ok (fuel : Nat) : EntryOK Try.prog 87 (laws_szIntSS_tf fuel).te := EntryOK.tf rfl (laws_szIntSS_spec fuel) (isFn (fn := Try.f87) (by kernel_rfl) (by kernel_rfl) (by kernel_rfl))

/-! ### laws_szRough -/
def laws_szRough_T (fuel : Nat) : Tab := Tab.of [(87, (laws_szIntSS_tf fuel).te)] []
abbrev laws_szRough_ps : List Pm := [{ cs := [(Kd.list (Kd.list (Kd.int IntKind.i64)), false)], ag := true }, { cs := [(Kd.int IntKind.i64, false)], ag := false }]
abbrev laws_szRough_rs : List Pm := [{ cs := [(Kd.int IntKind.i64, false)], ag := false }]
def laws_szRough_ann : List Norm := []
noncomputable def laws_szRough_c : C := irOf Try.prog Try.f47 [] laws_szRough_ann []
theorem laws_szRough_l : lightC Try.prog [] Try.f47.ntmps laws_szRough_ann [] 0 (bodyOf Try.f47) = some (laws_szRough_c, 0) := by kernel_rfl
def laws_szRough_rv : List (Nat × Option (Nat × Bool)) := [(4, none)]
def laws_szRough_pre (fuel : Nat) (x0 : List (List Int)) (x1 : Int) : Option ((Int × Unit) × Unit) :=
 Option.bind (laws_szIntSS_fn fuel ((x0, ()), (x1, ()), ())) fun y_1 =>
 cond (decide (y_1.fst.fst < (0 : Int)))
  (some ((((-1 : Int), ()), ())))
  (some (((y_1.fst.fst, ()), ())))
def laws_szRough_fn (fuel : Nat) (x : (((List (List Int)) × Unit) × ((Int × Unit) × Unit))) : Option ((Int × Unit) × Unit) := laws_szRough_pre fuel x.1.1 x.2.1.1
theorem laws_szRough_run (fuel : Nat) (x : PsT laws_szRough_ps) : run (laws_szRough_T fuel) 0 fuel laws_szRough_c (env0 (svPs laws_szRough_ps x) 0) [] (endF laws_szRough_rv laws_szRough_rs) = laws_szRough_fn fuel x := by kernel_rfl
def laws_szRough_tf (fuel : Nat) : TF := ⟨laws_szRough_ps, laws_szRough_rs, true, laws_szRough_fn fuel⟩
theorem laws_szRough_spec (fuel : Nat) : FnSpec Try.prog 47 (laws_szRough_tf fuel) :=
  fn_spec (T := laws_szRough_T fuel) (c := bodyOf Try.f47) (fn := Try.f47) (TabOK.of (entCons (laws_szIntSS_ok fuel) entNil) (methNil)) mixed (by kernel_rfl) (by kernel_rfl) laws_szRough_l (by kernel_rfl) (Nat.le_of_ble_eq_true (by kernel_rfl)) (rv := laws_szRough_rv) (by kernel_rfl) (laws_szRough_run fuel)
theorem laws_szRough_ok (fuel : Nat) : EntryOK Try.prog 47 (laws_szRough_tf fuel).te := EntryOK.tf rfl (laws_szRough_spec fuel) (isFn (fn := Try.f47) (by kernel_rfl) (by kernel_rfl) (by kernel_rfl))

/-! ### laws_szFew -/
def laws_szFew_T (fuel : Nat) : Tab := Tab.of [(88, (laws_szIntS_tf fuel).te)] []
abbrev laws_szFew_ps : List Pm := [{ cs := [(Kd.list (Kd.int IntKind.i64), false)], ag := true }, { cs := [(Kd.int IntKind.i64, false)], ag := false }]
abbrev laws_szFew_rs : List Pm := [{ cs := [(Kd.int IntKind.i64, false)], ag := false }]
def laws_szFew_ann : List Norm := []
noncomputable def laws_szFew_c : C := irOf Try.prog Try.f48 [] laws_szFew_ann []
theorem laws_szFew_l : lightC Try.prog [] Try.f48.ntmps laws_szFew_ann [] 0 (bodyOf Try.f48) = some (laws_szFew_c, 0) := by kernel_rfl
def laws_szFew_rv : List (Nat × Option (Nat × Bool)) := [(4, none)]
def laws_szFew_pre (fuel : Nat) (x0 : List Int) (x1 : Int) : Option ((Int × Unit) × Unit) :=
 Option.bind (laws_szIntS_fn fuel ((x0, ()), (x1, ()), ())) fun y_1 =>
 cond (decide (y_1.fst.fst < (0 : Int)))
  (some ((((-1 : Int), ()), ())))
  (some (((y_1.fst.fst, ()), ())))
def laws_szFew_fn (fuel : Nat) (x : (((List Int) × Unit) × ((Int × Unit) × Unit))) : Option ((Int × Unit) × Unit) := laws_szFew_pre fuel x.1.1 x.2.1.1
theorem laws_szFew_run (fuel : Nat) (x : PsT laws_szFew_ps) : run (laws_szFew_T fuel) 0 fuel laws_szFew_c (env0 (svPs laws_szFew_ps x) 0) [] (endF laws_szFew_rv laws_szFew_rs) = laws_szFew_fn fuel x := by kernel_rfl
def laws_szFew_tf (fuel : Nat) : TF := ⟨laws_szFew_ps, laws_szFew_rs, true, laws_szFew_fn fuel⟩
theorem laws_szFew_spec (fuel : Nat) : FnSpec Try.prog 48 (laws_szFew_tf fuel) :=
  fn_spec (T := laws_szFew_T fuel) (c := bodyOf Try.f48) (fn := Try.f48) (TabOK.of (entCons (laws_szIntS_ok fuel) entNil) (methNil)) mixed (by kernel_rfl) (by kernel_rfl) laws_szFew_l (by kernel_rfl) (Nat.le_of_ble_eq_true (by kernel_rfl)) (rv := laws_szFew_rv) (by kernel_rfl) (laws_szFew_run fuel)
theorem laws_szFew_ok (fuel : Nat) : EntryOK Try.prog 48 (laws_szFew_tf fuel).te := EntryOK.tf rfl (laws_szFew_spec fuel) (isFn (fn := Try.f48) (by kernel_rfl) (by kernel_rfl) (by kernel_rfl))

/-! ### laws_szPairS -/
def laws_szPairS_T (fuel : Nat) : Tab := Tab.of [] []
abbrev laws_szPairS_ps : List Pm := [{ cs := [(Kd.list (Kd.pair (Kd.int IntKind.i64) (Kd.pair (Kd.int IntKind.i64) Kd.unit)), false)], ag := false }, { cs := [(Kd.int IntKind.i64, false)], ag := false }]
abbrev laws_szPairS_rs : List Pm := [{ cs := [(Kd.int IntKind.i64, false)], ag := false }]
def laws_szPairS_ann : List Norm := []
noncomputable def laws_szPairS_c : C := irOf Try.prog Try.f89 [] laws_szPairS_ann []
theorem laws_szPairS_l : lightC Try.prog [] Try.f89.ntmps laws_szPairS_ann [] 0 (bodyOf Try.f89) = some (laws_szPairS_c, 0) := by kernel_rfl
def laws_szPairS_rv : List (Nat × Option (Nat × Bool)) := [(4, none)]
def laws_szPairS_pre (fuel : Nat) (x0 : List (Int × Int × Unit)) (x1 : Int) : Option ((Int × Unit) × Unit) :=
 cond (decide (w64 (x1 - (zz (List.length x0))) < (0 : Int)))
 (some ((((-1 : Int), ()), ())))
 (some (((w64 (x1 - (zz (List.length x0))), ()), ())))
def laws_szPairS_fn (fuel : Nat) (x : (((List (Int × (Int × Unit))) × Unit) × ((Int × Unit) × Unit))) : Option ((Int × Unit) × Unit) := laws_szPairS_pre fuel x.1.1 x.2.1.1
theorem laws_szPairS_run (fuel : Nat) (x : PsT laws_szPairS_ps) : run (laws_szPairS_T fuel) 0 fuel laws_szPairS_c (env0 (svPs laws_szPairS_ps x) 0) [] (endF laws_szPairS_rv laws_szPairS_rs) = laws_szPairS_fn fuel x := by kernel_rfl
def laws_szPairS_tf (fuel : Nat) : TF := ⟨laws_szPairS_ps, laws_szPairS_rs, true, laws_szPairS_fn fuel⟩
theorem laws_szPairS_spec (fuel : Nat) : FnSpec Try.prog 89 (laws_szPairS_tf fuel) :=
  fn_spec (T := laws_szPairS_T fuel) (c := bodyOf Try.f89) (fn := Try.f89) (TabOK.of (entNil) (methNil)) mixed (by kernel_rfl) (by kernel_rfl) laws_szPairS_l (by kernel_rfl) (Nat.le_of_ble_eq_true (by kernel_rfl)) (rv := laws_szPairS_rv) (by kernel_rfl) (laws_szPairS_run fuel)
theorem laws_szPairS_ok (fuel : Nat) : EntryOK Try.prog 89 (laws_szPairS_tf fuel).te := EntryOK.tf rfl (laws_szPairS_spec fuel) (isFn (fn := Try.f89) (by kernel_rfl) (by kernel_rfl) (by kernel_rfl))

/-! ### laws_szTop -/
def laws_szTop_T (fuel : Nat) : Tab := Tab.of [(89, (laws_szPairS_tf fuel).te)] []
abbrev laws_szTop_ps : List Pm := [{ cs := [(Kd.list (Kd.pair (Kd.int IntKind.i64) (Kd.pair (Kd.int IntKind.i64) Kd.unit)), false), (Kd.int IntKind.i64, false), (Kd.int IntKind.i64, false)], ag := true }, { cs := [(Kd.int IntKind.i64, false)], ag := false }]
abbrev laws_szTop_rs : List Pm := [{ cs := [(Kd.int IntKind.i64, false)], ag := false }]
def laws_szTop_ann : List Norm := []
noncomputable def laws_szTop_c : C := irOf Try.prog Try.f49 [] laws_szTop_ann []
theorem laws_szTop_l : lightC Try.prog [] Try.f49.ntmps laws_szTop_ann [] 0 (bodyOf Try.f49) = some (laws_szTop_c, 0) := by kernel_rfl
def laws_szTop_rv : List (Nat × Option (Nat × Bool)) := [(4, none)]
def laws_szTop_pre (fuel : Nat) (x0 : List (Int × Int × Unit)) (x1 : Int) (x2 : Int) (x3 : Int) : Option ((Int × Unit) × Unit) :=
 Option.bind (laws_szPairS_fn fuel ((x0, ()), (x3, ()), ())) fun y_1 =>
 cond (decide (y_1.fst.fst < (0 : Int)))
  (some ((((-1 : Int), ()), ())))
  (some (((y_1.fst.fst, ()), ())))
def laws_szTop_fn (fuel : Nat) (x : (((List (Int × (Int × Unit))) × (Int × (Int × Unit))) × ((Int × Unit) × Unit))) : Option ((Int × Unit) × Unit) := laws_szTop_pre fuel x.1.1 x.1.2.1 x.1.2.2.1 x.2.1.1
theorem laws_szTop_run (fuel : Nat) (x : PsT laws_szTop_ps) : run (laws_szTop_T fuel) 0 fuel laws_szTop_c (env0 (svPs laws_szTop_ps x) 0) [] (endF laws_szTop_rv laws_szTop_rs) = laws_szTop_fn fuel x := by kernel_rfl
def laws_szTop_tf (fuel : Nat) : TF := ⟨laws_szTop_ps, laws_szTop_rs, true, laws_szTop_fn fuel⟩
theorem laws_szTop_spec (fuel : Nat) : FnSpec Try.prog 49 (laws_szTop_tf fuel) :=
  fn_spec (T := laws_szTop_T fuel) (c := bodyOf Try.f49) (fn := Try.f49) (TabOK.of (entCons (laws_szPairS_ok fuel) entNil) (methNil)) mixed (by kernel_rfl) (by kernel_rfl) laws_szTop_l (by kernel_rfl) (Nat.le_of_ble_eq_true (by kernel_rfl)) (rv := laws_szTop_rv) (by kernel_rfl) (laws_szTop_run fuel)
theorem laws_szTop_ok (fuel : Nat) : EntryOK Try.prog 49 (laws_szTop_tf fuel).te := EntryOK.tf rfl (laws_szTop_spec fuel) (isFn (fn := Try.f49) (by kernel_rfl) (by kernel_rfl) (by kernel_rfl))

/-! ### laws_szKnotS -/
def laws_szKnotS_T (fuel : Nat) : Tab := Tab.of [] []
abbrev laws_szKnotS_ps : List Pm := [{ cs := [(Kd.list (Kd.pair (Kd.int IntKind.i64) (Kd.pair (Kd.int IntKind.i64) Kd.unit)), false)], ag := false }, { cs := [(Kd.int IntKind.i64, false)], ag := false }]
abbrev laws_szKnotS_rs : List Pm := [{ cs := [(Kd.int IntKind.i64, false)], ag := false }]
def laws_szKnotS_ann : List Norm := []
noncomputable def laws_szKnotS_c : C := irOf Try.prog Try.f90 [] laws_szKnotS_ann []
theorem laws_szKnotS_l : lightC Try.prog [] Try.f90.ntmps laws_szKnotS_ann [] 0 (bodyOf Try.f90) = some (laws_szKnotS_c, 0) := by kernel_rfl
def laws_szKnotS_rv : List (Nat × Option (Nat × Bool)) := [(4, none)]
def laws_szKnotS_pre (fuel : Nat) (x0 : List (Int × Int × Unit)) (x1 : Int) : Option ((Int × Unit) × Unit) :=
 cond (decide (w64 (x1 - (zz (List.length x0))) < (0 : Int)))
 (some ((((-1 : Int), ()), ())))
 (some (((w64 (x1 - (zz (List.length x0))), ()), ())))
def laws_szKnotS_fn (fuel : Nat) (x : (((List (Int × (Int × Unit))) × Unit) × ((Int × Unit) × Unit))) : Option ((Int × Unit) × Unit) := laws_szKnotS_pre fuel x.1.1 x.2.1.1
theorem laws_szKnotS_run (fuel : Nat) (x : PsT laws_szKnotS_ps) : run (laws_szKnotS_T fuel) 0 fuel laws_szKnotS_c (env0 (svPs laws_szKnotS_ps x) 0) [] (endF laws_szKnotS_rv laws_szKnotS_rs) = laws_szKnotS_fn fuel x := by kernel_rfl
def laws_szKnotS_tf (fuel : Nat) : TF := ⟨laws_szKnotS_ps, laws_szKnotS_rs, true, laws_szKnotS_fn fuel⟩
theorem laws_szKnotS_spec (fuel : Nat) : FnSpec Try.prog 90 (laws_szKnotS_tf fuel) :=
  fn_spec (T := laws_szKnotS_T fuel) (c := bodyOf Try.f90) (fn := Try.f90) (TabOK.of (entNil) (methNil)) mixed (by kernel_rfl) (by kernel_rfl) laws_szKnotS_l (by kernel_rfl) (Nat.le_of_ble_eq_true (by kernel_rfl)) (rv := laws_szKnotS_rv) (by kernel_rfl) (laws_szKnotS_run fuel)
theorem laws_szKnotS_ok (fuel : Nat) : EntryOK Try.prog 90 (laws_szKnotS_tf fuel).te := EntryOK.tf rfl (laws_szKnotS_spec fuel) (isFn (fn := Try.f90) (by kernel_rfl) (by kernel_rfl) (by kernel_rfl))

/-! ### laws_szRank -/
def laws_szRank_T (fuel : Nat) : Tab := Tab.of [(90, (laws_szKnotS_tf fuel).te)] []
abbrev laws_szRank_ps : List Pm := [{ cs := [(Kd.list (Kd.pair (Kd.int IntKind.i64) (Kd.pair (Kd.int IntKind.i64) Kd.unit)), false), (Kd.int IntKind.i64, false)], ag := true }, { cs := [(Kd.int IntKind.i64, false)], ag := false }]
abbrev laws_szRank_rs : List Pm := [{ cs := [(Kd.int IntKind.i64, false)], ag := false }]
def laws_szRank_ann : List Norm := []
noncomputable def laws_szRank_c : C := irOf Try.prog Try.f50 [] laws_szRank_ann []
theorem laws_szRank_l : lightC Try.prog [] Try.f50.ntmps laws_szRank_ann [] 0 (bodyOf Try.f50) = some (laws_szRank_c, 0) := by kernel_rfl
def laws_szRank_rv : List (Nat × Option (Nat × Bool)) := [(4, none)]
def laws_szRank_pre (fuel : Nat) (x0 : List (Int × Int × Unit)) (x1 : Int) (x2 : Int) : Option ((Int × Unit) × Unit) :=
 Option.bind (laws_szKnotS_fn fuel ((x0, ()), (x2, ()), ())) fun y_1 =>
 cond (decide (y_1.fst.fst < (0 : Int)))
  (some ((((-1 : Int), ()), ())))
  (some (((y_1.fst.fst, ()), ())))
def laws_szRank_fn (fuel : Nat) (x : (((List (Int × (Int × Unit))) × (Int × Unit)) × ((Int × Unit) × Unit))) : Option ((Int × Unit) × Unit) := laws_szRank_pre fuel x.1.1 x.1.2.1 x.2.1.1
theorem laws_szRank_run (fuel : Nat) (x : PsT laws_szRank_ps) : run (laws_szRank_T fuel) 0 fuel laws_szRank_c (env0 (svPs laws_szRank_ps x) 0) [] (endF laws_szRank_rv laws_szRank_rs) = laws_szRank_fn fuel x := by kernel_rfl
def laws_szRank_tf (fuel : Nat) : TF := ⟨laws_szRank_ps, laws_szRank_rs, true, laws_szRank_fn fuel⟩
theorem laws_szRank_spec (fuel : Nat) : FnSpec Try.prog 50 (laws_szRank_tf fuel) :=
  fn_spec (T := laws_szRank_T fuel) (c := bodyOf Try.f50) (fn := Try.f50) (TabOK.of (entCons (laws_szKnotS_ok fuel) entNil) (methNil)) mixed (by kernel_rfl) (by kernel_rfl) laws_szRank_l (by kernel_rfl) (Nat.le_of_ble_eq_true (by kernel_rfl)) (rv := laws_szRank_rv) (by kernel_rfl) (laws_szRank_run fuel)
theorem laws_szRank_ok (fuel : Nat) : EntryOK Try.prog 50 (laws_szRank_tf fuel).te := EntryOK.tf rfl (laws_szRank_spec fuel) (isFn (fn := Try.f50) (by kernel_rfl) (by kernel_rfl) (by kernel_rfl))

/-! ### laws_szSum -/
def laws_szSum_T (fuel : Nat) : Tab := Tab.of [(47, (laws_szRough_tf fuel).te), (48, (laws_szFew_tf fuel).te), (49, (laws_szTop_tf fuel).te), (50, (laws_szRank_tf fuel).te)] []
abbrev laws_szSum_ps : List Pm := [{ cs := [(Kd.list (Kd.list (Kd.int IntKind.i64)), false), (Kd.list (Kd.int IntKind.i64), false), (Kd.list (Kd.pair (Kd.int IntKind.i64) (Kd.pair (Kd.int IntKind.i64) Kd.unit)), false), (Kd.int IntKind.i64, false), (Kd.int IntKind.i64, false), (Kd.list (Kd.pair (Kd.int IntKind.i64) (Kd.pair (Kd.int IntKind.i64) Kd.unit)), false), (Kd.int IntKind.i64, false)], ag := true }, { cs := [(Kd.int IntKind.i64, false)], ag := false }]
abbrev laws_szSum_rs : List Pm := [{ cs := [(Kd.int IntKind.i64, false)], ag := false }]
def laws_szSum_ann : List Norm := []
noncomputable def laws_szSum_c : C := irOf Try.prog Try.f15 [] laws_szSum_ann []
theorem laws_szSum_l : lightC Try.prog [] Try.f15.ntmps laws_szSum_ann [] 0 (bodyOf Try.f15) = some (laws_szSum_c, 0) := by kernel_rfl
def laws_szSum_rv : List (Nat × Option (Nat × Bool)) := [(4, none)]
def laws_szSum_pre (fuel : Nat) (x0 : List (List Int)) (x1 : List Int) (x2 : List (Int × Int × Unit)) (x3 : Int) (x4 : Int) (x5 : List (Int × Int × Unit)) (x6 : Int) (x7 : Int) : Option ((Int × Unit) × Unit) :=
 Option.bind (laws_szRough_fn fuel ((x0, ()), (x7, ()), ())) fun y_1 =>
 cond (decide (y_1.fst.fst < (0 : Int)))
  (some ((((-1 : Int), ()), ())))
  (Option.bind (laws_szFew_fn fuel ((x1, ()), (y_1.fst.fst, ()), ())) fun y_3 =>
   cond (decide (y_3.fst.fst < (0 : Int)))
    (some ((((-1 : Int), ()), ())))
    (Option.bind (laws_szTop_fn fuel ((x2, x3, x4, ()), (y_3.fst.fst, ()), ())) fun y_5 =>
     cond (decide (y_5.fst.fst < (0 : Int)))
      (some ((((-1 : Int), ()), ())))
      (Option.bind (laws_szRank_fn fuel ((x5, x6, ()), (y_5.fst.fst, ()), ())) fun y_7 =>
       cond (decide (y_7.fst.fst < (0 : Int)))
        (some ((((-1 : Int), ()), ())))
        (some (((y_7.fst.fst, ()), ()))))))
def laws_szSum_fn (fuel : Nat) (x : (((List (List Int)) × ((List Int) × ((List (Int × (Int × Unit))) × (Int × (Int × ((List (Int × (Int × Unit))) × (Int × Unit))))))) × ((Int × Unit) × Unit))) : Option ((Int × Unit) × Unit) := laws_szSum_pre fuel x.1.1 x.1.2.1 x.1.2.2.1 x.1.2.2.2.1 x.1.2.2.2.2.1 x.1.2.2.2.2.2.1 x.1.2.2.2.2.2.2.1 x.2.1.1
theorem laws_szSum_run (fuel : Nat) (x : PsT laws_szSum_ps) : run (laws_szSum_T fuel) 0 fuel laws_szSum_c (env0 (svPs laws_szSum_ps x) 0) [] (endF laws_szSum_rv laws_szSum_rs) = laws_szSum_fn fuel x := by kernel_rfl
def laws_szSum_tf (fuel : Nat) : TF := ⟨laws_szSum_ps, laws_szSum_rs, true, laws_szSum_fn fuel⟩
theorem laws_szSum_spec (fuel : Nat) : FnSpec Try.prog 15 (laws_szSum_tf fuel) :=
  fn_spec (T := laws_szSum_T fuel) (c := bodyOf Try.f15) (fn := Try.f15) (TabOK.of (entCons (laws_szRough_ok fuel) (entCons (laws_szFew_ok fuel) (entCons (laws_szTop_ok fuel) (entCons (laws_szRank_ok fuel) entNil)))) (methNil)) mixed (by kernel_rfl) (by kernel_rfl) laws_szSum_l (by kernel_rfl) (Nat.le_of_ble_eq_true (by kernel_rfl)) (rv := laws_szSum_rv) (by kernel_rfl) (laws_szSum_run fuel)
theorem laws_szSum_ok (fuel : Nat) : EntryOK Try.prog 15 (laws_szSum_tf fuel).te := EntryOK.tf rfl (laws_szSum_spec fuel) (isFn (fn := Try.f15) (by kernel_rfl) (by kernel_rfl) (by kernel_rfl))

/-! ### spec_l1Sum -/
def spec_l1Sum_T (fuel : Nat) : Tab := Tab.of [] []
abbrev spec_l1Sum_ps : List Pm := [{ cs := [(Kd.list (Kd.int IntKind.i64), false)], ag := false }]
abbrev spec_l1Sum_rs : List Pm := [{ cs := [(Kd.int IntKind.i64, false)], ag := false }]
def spec_l1Sum_ann : List Norm := [{ live := [4, 0, 3], fix := [] }]
noncomputable def spec_l1Sum_c : C := irOf Try.prog Try.f91 [] spec_l1Sum_ann []
theorem spec_l1Sum_l : lightC Try.prog [] Try.f91.ntmps spec_l1Sum_ann [] 0 (bodyOf Try.f91) = some (spec_l1Sum_c, 1) := by kernel_rfl
def spec_l1Sum_rv : List (Nat × Option (Nat × Bool)) := [(2, none)]
abbrev spec_l1Sum_V0 := (Int) × (List Int) × (Int)
def spec_l1Sum_enc0 (v : spec_l1Sum_V0) : Env × Heap := ([(4, SV.int IntKind.i64 v.1), (0, SV.es (Kd.int IntKind.i64) v.2.1), (3, SV.int IntKind.i64 v.2.2)], [])
def spec_l1Sum_step0 (fuel : Nat) (g0 : spec_l1Sum_V0 → Option ((Int × Unit) × Unit)) (v : spec_l1Sum_V0) : Option ((Int × Unit) × Unit) :=
 cond (decide (v.1 < (zz (List.length v.2.1))))
 (tst (decide (0 ≤ v.1)) <|
  tst (decide (v.1 < (zz (List.length v.2.1)))) <|
  g0 (w64 (v.1 + (1 : Int)), v.2.1, w64 (v.2.2 + List.getD v.2.1 (Int.toNat v.1) 0)))
 (some (((v.2.2, ()), ())))
def spec_l1Sum_st0 (fuel : Nat) (g0 : spec_l1Sum_V0 → Option ((Int × Unit) × Unit)) : spec_l1Sum_V0 → Option ((Int × Unit) × Unit) := spec_l1Sum_step0 fuel g0
theorem spec_l1Sum_lp0 (fuel : Nat) (G) : spec_l1Sum_c.lp (spec_l1Sum_T fuel) 0 fuel G (endF spec_l1Sum_rv spec_l1Sum_rs) 0 spec_l1Sum_enc0 = iter (spec_l1Sum_st0 fuel) fuel := C.lp_iter fun g v => by kernel_rfl
def spec_l1Sum_pre (fuel : Nat) (X0 : spec_l1Sum_V0 → Option ((Int × Unit) × Unit)) (x0 : List Int) : Option ((Int × Unit) × Unit) :=
 X0 ((0 : Int), x0, (0 : Int))
def spec_l1Sum_fn (fuel : Nat) (x : (((List Int) × Unit) × Unit)) : Option ((Int × Unit) × Unit) := spec_l1Sum_pre fuel (iter (spec_l1Sum_st0 fuel) fuel) x.1.1
theorem spec_l1Sum_run (fuel : Nat) (x : PsT spec_l1Sum_ps) : run (spec_l1Sum_T fuel) 0 fuel spec_l1Sum_c (env0 (svPs spec_l1Sum_ps x) 0) [] (endF spec_l1Sum_rv spec_l1Sum_rs) = spec_l1Sum_fn fuel x :=
  (show run (spec_l1Sum_T fuel) 0 fuel spec_l1Sum_c (env0 (svPs spec_l1Sum_ps x) 0) [] (endF spec_l1Sum_rv spec_l1Sum_rs) = spec_l1Sum_pre fuel (spec_l1Sum_c.lp (spec_l1Sum_T fuel) 0 fuel (fun _ _ _ => none) (endF spec_l1Sum_rv spec_l1Sum_rs) 0 spec_l1Sum_enc0) x.1.1 by kernel_rfl).trans (by rw [spec_l1Sum_lp0]; rfl)
def spec_l1Sum_tf (fuel : Nat) : TF := ⟨spec_l1Sum_ps, spec_l1Sum_rs, true, spec_l1Sum_fn fuel⟩
theorem spec_l1Sum_spec (fuel : Nat) : FnSpec Try.prog 91 (spec_l1Sum_tf fuel) :=
  fn_spec (T := spec_l1Sum_T fuel) (c := bodyOf Try.f91) (fn := Try.f91) (TabOK.of (entNil) (methNil)) mixed (by kernel_rfl) (by kernel_rfl) spec_l1Sum_l (by kernel_rfl) (Nat.le_of_ble_eq_true (by kernel_rfl)) (rv := spec_l1Sum_rv) (by kernel_rfl) (spec_l1Sum_run fuel)
theorem spec_l1Sum_ok (fuel : Nat) : EntryOK Try.prog 91 (spec_l1Sum_tf fuel).te := EntryOK.tf rfl (spec_l1Sum_spec fuel) (isFn (fn := Try.f91) (by kernel_rfl) (by kernel_rfl) (by kernel_rfl))

/-! ### spec_RoughOk -/
def spec_RoughOk_T (fuel : Nat) : Tab := Tab.of [(67, (spec_l6In_tf fuel).te), (91, (spec_l1Sum_tf fuel).te)] []
abbrev spec_RoughOk_ps : List Pm := [{ cs := [(Kd.list (Kd.list (Kd.int IntKind.i64)), false)], ag := true }]
abbrev spec_RoughOk_rs : List Pm := [{ cs := [(Kd.bool, false)], ag := false }]
def spec_RoughOk_ann : List Norm := [{ live := [3, 1], fix := [] }, { live := [4, 1, 3], fix := [] }]
noncomputable def spec_RoughOk_c : C := irOf Try.prog Try.f51 [] spec_RoughOk_ann []
theorem spec_RoughOk_l : lightC Try.prog [] Try.f51.ntmps spec_RoughOk_ann [] 0 (bodyOf Try.f51) = some (spec_RoughOk_c, 2) := by kernel_rfl
def spec_RoughOk_rv : List (Nat × Option (Nat × Bool)) := [(2, none)]
abbrev spec_RoughOk_V0 := (Int) × (List (List Int))
abbrev spec_RoughOk_V1 := (Int) × (Int) × (List (List Int))
def spec_RoughOk_enc0 (v : spec_RoughOk_V0) : Env × Heap := ([(3, SV.int IntKind.i64 v.1), (1, SV.ptr 0 0)], [Blk.cells [SV.es (Kd.list (Kd.int IntKind.i64)) v.2] 0 1])
def spec_RoughOk_enc1 (v : spec_RoughOk_V1) : Env × Heap := ([(4, SV.int IntKind.i64 v.1), (1, SV.ptr 0 0), (3, SV.int IntKind.i64 v.2.1)], [Blk.cells [SV.es (Kd.list (Kd.int IntKind.i64)) v.2.2] 0 1])
def spec_RoughOk_step1 (fuel : Nat) (g0 : spec_RoughOk_V0 → Option ((Bool × Unit) × Unit)) (g1 : spec_RoughOk_V1 → Option ((Bool × Unit) × Unit)) (v : spec_RoughOk_V1) : Option ((Bool × Unit) × Unit) :=
 cond (decide (v.1 < (8 : Int)))
 (tst (decide (0 ≤ v.2.1)) <|
  tst (decide (v.2.1 < (zz (List.length v.2.2)))) <|
  tst (decide (0 ≤ v.1)) <|
  tst (decide (v.1 < (zz (List.length (List.getD v.2.2 (Int.toNat v.2.1) []))))) <|
  Option.bind (spec_l6In_fn fuel ((List.getD (List.getD v.2.2 (Int.toNat v.2.1) []) (Int.toNat v.1) 0, ()), ((0 : Int), ()), ((2000 : Int), ()), ())) fun y_2 =>
  cond (!y_2.fst.fst)
   (some (((false, ()), ())))
   (g1 (w64 (v.1 + (1 : Int)), v.2.1, v.2.2)))
 (tst (decide (0 ≤ v.2.1)) <|
  tst (decide (v.2.1 < (zz (List.length v.2.2)))) <|
  Option.bind (spec_l1Sum_fn fuel ((List.getD v.2.2 (Int.toNat v.2.1) [], ()), ())) fun y_2 =>
  tst (decide ((0 : Int) < (zz (List.length v.2.2)))) <|
   Option.bind (spec_l1Sum_fn fuel ((List.getD v.2.2 (Int.toNat (0 : Int)) [], ()), ())) fun y_3 =>
   cond (y_2.fst.fst != y_3.fst.fst)
    (some (((false, ()), ())))
    (tst (decide (0 ≤ v.2.1)) <|
     tst (decide (v.2.1 < (zz (List.length v.2.2)))) <|
     Option.bind (spec_l1Sum_fn fuel ((List.getD v.2.2 (Int.toNat v.2.1) [], ()), ())) fun y_5 =>
     cond (decide (y_5.fst.fst > (2000 : Int)))
      (some (((false, ()), ())))
      (g0 (w64 (v.2.1 + (1 : Int)), v.2.2))))
def spec_RoughOk_st1 (fuel : Nat) (g0 : spec_RoughOk_V0 → Option ((Bool × Unit) × Unit)) (g1 : spec_RoughOk_V1 → Option ((Bool × Unit) × Unit)) : spec_RoughOk_V1 → Option ((Bool × Unit) × Unit) := spec_RoughOk_step1 fuel g0 g1
theorem spec_RoughOk_lp1 (fuel : Nat) (G) : spec_RoughOk_c.lp (spec_RoughOk_T fuel) 0 fuel G (endF spec_RoughOk_rv spec_RoughOk_rs) 1 spec_RoughOk_enc1 = iter (spec_RoughOk_st1 fuel (fun v => G 0 (spec_RoughOk_enc0 v).1 (spec_RoughOk_enc0 v).2)) fuel := C.lp_iter fun g v =>
  (show run (spec_RoughOk_T fuel) 0 fuel (spec_RoughOk_c.bdAt 1) (spec_RoughOk_enc1 v).1 (spec_RoughOk_enc1 v).2 (loopK 0 (spec_RoughOk_c.nmAt 1) g (spec_RoughOk_c.contAt (spec_RoughOk_T fuel) 0 fuel G 0 1 (endF spec_RoughOk_rv spec_RoughOk_rs))) = spec_RoughOk_step1 fuel (fun v => G 0 (spec_RoughOk_enc0 v).1 (spec_RoughOk_enc0 v).2) (fun v => g (spec_RoughOk_enc1 v).1 (spec_RoughOk_enc1 v).2) v by kernel_rfl)
def spec_RoughOk_step0 (fuel : Nat) (X1 : spec_RoughOk_V1 → Option ((Bool × Unit) × Unit)) (g0 : spec_RoughOk_V0 → Option ((Bool × Unit) × Unit)) (v : spec_RoughOk_V0) : Option ((Bool × Unit) × Unit) :=
 cond (decide (v.1 < (3 : Int)))
 (tst (decide (0 ≤ v.1)) <|
  tst (decide (v.1 < (zz (List.length v.2)))) <|
  cond ((zz (List.length (List.getD v.2 (Int.toNat v.1) []))) != (8 : Int))
  (some (((false, ()), ())))
  (X1 ((0 : Int), v.1, v.2)))
 (some (((true, ()), ())))
def spec_RoughOk_st0 (fuel : Nat) (g0 : spec_RoughOk_V0 → Option ((Bool × Unit) × Unit)) : spec_RoughOk_V0 → Option ((Bool × Unit) × Unit) := spec_RoughOk_step0 fuel (iter (spec_RoughOk_st1 fuel g0) fuel) g0
theorem spec_RoughOk_lp0 (fuel : Nat) (G) : spec_RoughOk_c.lp (spec_RoughOk_T fuel) 0 fuel G (endF spec_RoughOk_rv spec_RoughOk_rs) 0 spec_RoughOk_enc0 = iter (spec_RoughOk_st0 fuel) fuel := C.lp_iter fun g v =>
  (show run (spec_RoughOk_T fuel) 0 fuel (spec_RoughOk_c.bdAt 0) (spec_RoughOk_enc0 v).1 (spec_RoughOk_enc0 v).2 (loopK 0 (spec_RoughOk_c.nmAt 0) g (spec_RoughOk_c.contAt (spec_RoughOk_T fuel) 0 fuel G 0 0 (endF spec_RoughOk_rv spec_RoughOk_rs))) = spec_RoughOk_step0 fuel (spec_RoughOk_c.lp (spec_RoughOk_T fuel) 0 fuel (fun m => bif Nat.beq m 0 then g else G m) (endF spec_RoughOk_rv spec_RoughOk_rs) 1 spec_RoughOk_enc1) (fun v => g (spec_RoughOk_enc0 v).1 (spec_RoughOk_enc0 v).2) v by kernel_rfl).trans (by rw [spec_RoughOk_lp1]; rfl)
def spec_RoughOk_pre (fuel : Nat) (X0 : spec_RoughOk_V0 → Option ((Bool × Unit) × Unit)) (x0 : List (List Int)) : Option ((Bool × Unit) × Unit) :=
 cond ((zz (List.length x0)) != (3 : Int))
 (some (((false, ()), ())))
 (X0 ((0 : Int), x0))
def spec_RoughOk_fn (fuel : Nat) (x : (((List (List Int)) × Unit) × Unit)) : Option ((Bool × Unit) × Unit) := spec_RoughOk_pre fuel (iter (spec_RoughOk_st0 fuel) fuel) x.1.1
theorem spec_RoughOk_run (fuel : Nat) (x : PsT spec_RoughOk_ps) : run (spec_RoughOk_T fuel) 0 fuel spec_RoughOk_c (env0 (svPs spec_RoughOk_ps x) 0) [] (endF spec_RoughOk_rv spec_RoughOk_rs) = spec_RoughOk_fn fuel x :=
  (show run (spec_RoughOk_T fuel) 0 fuel spec_RoughOk_c (env0 (svPs spec_RoughOk_ps x) 0) [] (endF spec_RoughOk_rv spec_RoughOk_rs) = spec_RoughOk_pre fuel (spec_RoughOk_c.lp (spec_RoughOk_T fuel) 0 fuel (fun _ _ _ => none) (endF spec_RoughOk_rv spec_RoughOk_rs) 0 spec_RoughOk_enc0) x.1.1 by kernel_rfl).trans (by rw [spec_RoughOk_lp0]; rfl)
def spec_RoughOk_tf (fuel : Nat) : TF := ⟨spec_RoughOk_ps, spec_RoughOk_rs, true, spec_RoughOk_fn fuel⟩
theorem spec_RoughOk_spec (fuel : Nat) : FnSpec Try.prog 51 (spec_RoughOk_tf fuel) :=
  fn_spec (T := spec_RoughOk_T fuel) (c := bodyOf Try.f51) (fn := Try.f51) (TabOK.of (entCons (spec_l6In_ok fuel) (entCons (spec_l1Sum_ok fuel) entNil)) (methNil)) mixed (by kernel_rfl) (by kernel_rfl) spec_RoughOk_l (by kernel_rfl) (Nat.le_of_ble_eq_true (by kernel_rfl)) (rv := spec_RoughOk_rv) (by kernel_rfl) (spec_RoughOk_run fuel)
theorem spec_RoughOk_ok (fuel : Nat) : EntryOK Try.prog 51 (spec_RoughOk_tf fuel).te := EntryOK.tf rfl (spec_RoughOk_spec fuel) (isFn (fn := Try.f51) (by kernel_rfl) (by kernel_rfl) (by kernel_rfl))

/-! ### spec_FewOk -/
def spec_FewOk_T (fuel : Nat) : Tab := Tab.of [(67, (spec_l6In_tf fuel).te)] []
abbrev spec_FewOk_ps : List Pm := [{ cs := [(Kd.list (Kd.int IntKind.i64), false)], ag := true }]
abbrev spec_FewOk_rs : List Pm := [{ cs := [(Kd.bool, false)], ag := false }]
def spec_FewOk_ann : List Norm := [{ live := [3, 1], fix := [] }]
noncomputable def spec_FewOk_c : C := irOf Try.prog Try.f52 [] spec_FewOk_ann []
theorem spec_FewOk_l : lightC Try.prog [] Try.f52.ntmps spec_FewOk_ann [] 0 (bodyOf Try.f52) = some (spec_FewOk_c, 1) := by kernel_rfl
def spec_FewOk_rv : List (Nat × Option (Nat × Bool)) := [(2, none)]
abbrev spec_FewOk_V0 := (Int) × (List Int)
def spec_FewOk_enc0 (v : spec_FewOk_V0) : Env × Heap := ([(3, SV.int IntKind.i64 v.1), (1, SV.ptr 0 0)], [Blk.cells [SV.es (Kd.int IntKind.i64) v.2] 0 1])
def spec_FewOk_step0 (fuel : Nat) (g0 : spec_FewOk_V0 → Option ((Bool × Unit) × Unit)) (v : spec_FewOk_V0) : Option ((Bool × Unit) × Unit) :=
 cond (decide (v.1 < (zz (List.length v.2))))
 (tst (decide (0 ≤ v.1)) <|
  tst (decide (v.1 < (zz (List.length v.2)))) <|
  Option.bind (spec_l6In_fn fuel ((List.getD v.2 (Int.toNat v.1) 0, ()), ((0 : Int), ()), ((63 : Int), ()), ())) fun y_2 =>
  cond (!y_2.fst.fst)
   (some (((false, ()), ())))
   (cond (decide (v.1 > (0 : Int)))
    (tst (decide (0 ≤ w64 (v.1 - (1 : Int)))) <|
     tst (decide (w64 (v.1 - (1 : Int)) < (zz (List.length v.2)))) <|
     tst (decide (0 ≤ v.1)) <|
     tst (decide (v.1 < (zz (List.length v.2)))) <|
     cond (decide (List.getD v.2 (Int.toNat (w64 (v.1 - (1 : Int)))) 0 ≥ List.getD v.2 (Int.toNat v.1) 0))
     (some (((false, ()), ())))
     (g0 (w64 (v.1 + (1 : Int)), v.2)))
    (g0 (w64 (v.1 + (1 : Int)), v.2))))
 (some (((decide ((zz (List.length v.2)) ≤ (6 : Int)), ()), ())))
def spec_FewOk_st0 (fuel : Nat) (g0 : spec_FewOk_V0 → Option ((Bool × Unit) × Unit)) : spec_FewOk_V0 → Option ((Bool × Unit) × Unit) := spec_FewOk_step0 fuel g0
theorem spec_FewOk_lp0 (fuel : Nat) (G) : spec_FewOk_c.lp (spec_FewOk_T fuel) 0 fuel G (endF spec_FewOk_rv spec_FewOk_rs) 0 spec_FewOk_enc0 = iter (spec_FewOk_st0 fuel) fuel := C.lp_iter fun g v => by kernel_rfl
def spec_FewOk_pre (fuel : Nat) (X0 : spec_FewOk_V0 → Option ((Bool × Unit) × Unit)) (x0 : List Int) : Option ((Bool × Unit) × Unit) :=
 X0 ((0 : Int), x0)
def spec_FewOk_fn (fuel : Nat) (x : (((List Int) × Unit) × Unit)) : Option ((Bool × Unit) × Unit) := spec_FewOk_pre fuel (iter (spec_FewOk_st0 fuel) fuel) x.1.1
theorem spec_FewOk_run (fuel : Nat) (x : PsT spec_FewOk_ps) : run (spec_FewOk_T fuel) 0 fuel spec_FewOk_c (env0 (svPs spec_FewOk_ps x) 0) [] (endF spec_FewOk_rv spec_FewOk_rs) = spec_FewOk_fn fuel x :=
  (show run (spec_FewOk_T fuel) 0 fuel spec_FewOk_c (env0 (svPs spec_FewOk_ps x) 0) [] (endF spec_FewOk_rv spec_FewOk_rs) = spec_FewOk_pre fuel (spec_FewOk_c.lp (spec_FewOk_T fuel) 0 fuel (fun _ _ _ => none) (endF spec_FewOk_rv spec_FewOk_rs) 0 spec_FewOk_enc0) x.1.1 by kernel_rfl).trans (by rw [spec_FewOk_lp0]; rfl)
def spec_FewOk_tf (fuel : Nat) : TF := ⟨spec_FewOk_ps, spec_FewOk_rs, true, spec_FewOk_fn fuel⟩
theorem spec_FewOk_spec (fuel : Nat) : FnSpec Try.prog 52 (spec_FewOk_tf fuel) :=
  fn_spec (T := spec_FewOk_T fuel) (c := bodyOf Try.f52) (fn := Try.f52) (TabOK.of (entCons (spec_l6In_ok fuel) entNil) (methNil)) mixed (by kernel_rfl) (by kernel_rfl) spec_FewOk_l (by kernel_rfl) (Nat.le_of_ble_eq_true (by kernel_rfl)) (rv := spec_FewOk_rv) (by kernel_rfl) (spec_FewOk_run fuel)
theorem spec_FewOk_ok (fuel : Nat) : EntryOK Try.prog 52 (spec_FewOk_tf fuel).te := EntryOK.tf rfl (spec_FewOk_spec fuel) (isFn (fn := Try.f52) (by kernel_rfl) (by kernel_rfl) (by kernel_rfl))

/-! ### spec_l3All -/
def spec_l3All_T (fuel : Nat) : Tab := Tab.of [] []
abbrev spec_l3All_ps : List Pm := [{ cs := [(Kd.list (Kd.pair (Kd.int IntKind.i64) (Kd.pair (Kd.int IntKind.i64) Kd.unit)), false)], ag := false }]
abbrev spec_l3All_rs : List Pm := [{ cs := [(Kd.int IntKind.i64, false)], ag := false }]
def spec_l3All_ann : List Norm := [{ live := [4, 0, 3], fix := [] }]
noncomputable def spec_l3All_c : C := irOf Try.prog Try.f92 [] spec_l3All_ann []
theorem spec_l3All_l : lightC Try.prog [] Try.f92.ntmps spec_l3All_ann [] 0 (bodyOf Try.f92) = some (spec_l3All_c, 1) := by kernel_rfl
def spec_l3All_rv : List (Nat × Option (Nat × Bool)) := [(2, none)]
abbrev spec_l3All_V0 := (Int) × (List (Int × Int × Unit)) × (Int)
def spec_l3All_enc0 (v : spec_l3All_V0) : Env × Heap := ([(4, SV.int IntKind.i64 v.1), (0, SV.es (Kd.pair (Kd.int IntKind.i64) (Kd.pair (Kd.int IntKind.i64) Kd.unit)) v.2.1), (3, SV.int IntKind.i64 v.2.2)], [])
def spec_l3All_step0 (fuel : Nat) (g0 : spec_l3All_V0 → Option ((Int × Unit) × Unit)) (v : spec_l3All_V0) : Option ((Int × Unit) × Unit) :=
 cond (decide (v.1 < (zz (List.length v.2.1))))
 (tst (decide (0 ≤ v.1)) <|
  tst (decide (v.1 < (zz (List.length v.2.1)))) <|
  g0 (w64 (v.1 + (1 : Int)), v.2.1, w64 (v.2.2 + (List.getD v.2.1 (Int.toNat v.1) (0, (0, ()))).snd.fst)))
 (some (((v.2.2, ()), ())))
def spec_l3All_st0 (fuel : Nat) (g0 : spec_l3All_V0 → Option ((Int × Unit) × Unit)) : spec_l3All_V0 → Option ((Int × Unit) × Unit) := spec_l3All_step0 fuel g0
theorem spec_l3All_lp0 (fuel : Nat) (G) : spec_l3All_c.lp (spec_l3All_T fuel) 0 fuel G (endF spec_l3All_rv spec_l3All_rs) 0 spec_l3All_enc0 = iter (spec_l3All_st0 fuel) fuel := C.lp_iter fun g v => by kernel_rfl
def spec_l3All_pre (fuel : Nat) (X0 : spec_l3All_V0 → Option ((Int × Unit) × Unit)) (x0 : List (Int × Int × Unit)) : Option ((Int × Unit) × Unit) :=
 X0 ((0 : Int), x0, (0 : Int))
def spec_l3All_fn (fuel : Nat) (x : (((List (Int × (Int × Unit))) × Unit) × Unit)) : Option ((Int × Unit) × Unit) := spec_l3All_pre fuel (iter (spec_l3All_st0 fuel) fuel) x.1.1
theorem spec_l3All_run (fuel : Nat) (x : PsT spec_l3All_ps) : run (spec_l3All_T fuel) 0 fuel spec_l3All_c (env0 (svPs spec_l3All_ps x) 0) [] (endF spec_l3All_rv spec_l3All_rs) = spec_l3All_fn fuel x :=
  (show run (spec_l3All_T fuel) 0 fuel spec_l3All_c (env0 (svPs spec_l3All_ps x) 0) [] (endF spec_l3All_rv spec_l3All_rs) = spec_l3All_pre fuel (spec_l3All_c.lp (spec_l3All_T fuel) 0 fuel (fun _ _ _ => none) (endF spec_l3All_rv spec_l3All_rs) 0 spec_l3All_enc0) x.1.1 by kernel_rfl).trans (by rw [spec_l3All_lp0]; rfl)
def spec_l3All_tf (fuel : Nat) : TF := ⟨spec_l3All_ps, spec_l3All_rs, true, spec_l3All_fn fuel⟩
theorem spec_l3All_spec (fuel : Nat) : FnSpec Try.prog 92 (spec_l3All_tf fuel) :=
  fn_spec (T := spec_l3All_T fuel) (c := bodyOf Try.f92) (fn := Try.f92) (TabOK.of (entNil) (methNil)) mixed (by kernel_rfl) (by kernel_rfl) spec_l3All_l (by kernel_rfl) (Nat.le_of_ble_eq_true (by kernel_rfl)) (rv := spec_l3All_rv) (by kernel_rfl) (spec_l3All_run fuel)
theorem spec_l3All_ok (fuel : Nat) : EntryOK Try.prog 92 (spec_l3All_tf fuel).te := EntryOK.tf rfl (spec_l3All_spec fuel) (isFn (fn := Try.f92) (by kernel_rfl) (by kernel_rfl) (by kernel_rfl))

end Go.Proofs.Ytjnkefbdpcbkmaa.Den
