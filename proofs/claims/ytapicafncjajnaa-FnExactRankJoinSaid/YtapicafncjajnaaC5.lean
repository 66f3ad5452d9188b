/- Readings of functions of the ranks, as functions on plain data (C5). -/
import Derived.Test.YtapicafncjajnaaC4
namespace Go.Proofs.Ytapicafncjajnaa.Den
open Go Go.RowKit
set_option linter.unusedVariables false
set_option linter.unusedSimpArgs false

/-! ### laws_szKnotS -/
def laws_szKnotS_T (fuel : Nat) : Tab := Tab.of [] []
abbrev laws_szKnotS_ps : List Pm := [{ cs := [(Kd.list (Kd.pair (Kd.int IntKind.i64) (Kd.pair (Kd.int IntKind.i64) Kd.unit)), false)], ag := false }, { cs := [(Kd.int IntKind.i64, false)], ag := false }]
abbrev laws_szKnotS_rs : List Pm := [{ cs := [(Kd.int IntKind.i64, false)], ag := false }]
def laws_szKnotS_ann : List Norm := []
noncomputable def laws_szKnotS_c : C := irOf Try.prog Try.f40 [] laws_szKnotS_ann []
theorem laws_szKnotS_l : lightC Try.prog [] Try.f40.ntmps laws_szKnotS_ann [] 0 (bodyOf Try.f40) = some (laws_szKnotS_c, 0) := by kernel_rfl
def laws_szKnotS_rv : List (Nat × Option (Nat × Bool)) := [(4, none)]
def laws_szKnotS_pre (fuel : Nat) (x0 : List (Int × Int × Unit)) (x1 : Int) : Option ((Int × Unit) × Unit) :=
 cond (decide (w64 (x1 - (zz (List.length x0))) < (0 : Int)))
 (some ((((-1 : Int), ()), ())))
 (some (((w64 (x1 - (zz (List.length x0))), ()), ())))
def laws_szKnotS_fn (fuel : Nat) (x : (((List (Int × (Int × Unit))) × Unit) × ((Int × Unit) × Unit))) : Option ((Int × Unit) × Unit) := laws_szKnotS_pre fuel x.1.1 x.2.1.1
theorem laws_szKnotS_run (fuel : Nat) (x : PsT laws_szKnotS_ps) : run (laws_szKnotS_T fuel) 0 fuel laws_szKnotS_c (env0 (svPs laws_szKnotS_ps x) 0) [] (endF laws_szKnotS_rv laws_szKnotS_rs) = laws_szKnotS_fn fuel x := by kernel_rfl
def laws_szKnotS_tf (fuel : Nat) : TF := ⟨laws_szKnotS_ps, laws_szKnotS_rs, true, laws_szKnotS_fn fuel⟩
theorem laws_szKnotS_spec (fuel : Nat) : FnSpec Try.prog 40 (laws_szKnotS_tf fuel) :=
  fn_spec (T := laws_szKnotS_T fuel) (c := bodyOf Try.f40) (fn := Try.f40) (TabOK.of (entNil) methNil) mixed (by kernel_rfl) (by kernel_rfl) laws_szKnotS_l (by kernel_rfl) (Nat.le_of_ble_eq_true (by kernel_rfl)) (rv := laws_szKnotS_rv) (by kernel_rfl) (laws_szKnotS_run fuel)
theorem laws_szKnotS_ok (fuel : Nat) : EntryOK Try.prog 40 (laws_szKnotS_tf fuel).te := EntryOK.tf rfl (laws_szKnotS_spec fuel) (isFn (fn := Try.f40) (by kernel_rfl) (by kernel_rfl) (by kernel_rfl))

/-! ### laws_szRank -/
def laws_szRank_T (fuel : Nat) : Tab := Tab.of [(40, (laws_szKnotS_tf fuel).te)] []
abbrev laws_szRank_ps : List Pm := [{ cs := [(Kd.list (Kd.pair (Kd.int IntKind.i64) (Kd.pair (Kd.int IntKind.i64) Kd.unit)), false), (Kd.int IntKind.i64, false)], ag := true }, { cs := [(Kd.int IntKind.i64, false)], ag := false }]
abbrev laws_szRank_rs : List Pm := [{ cs := [(Kd.int IntKind.i64, false)], ag := false }]
def laws_szRank_ann : List Norm := []
noncomputable def laws_szRank_c : C := irOf Try.prog Try.f18 [] laws_szRank_ann []
theorem laws_szRank_l : lightC Try.prog [] Try.f18.ntmps laws_szRank_ann [] 0 (bodyOf Try.f18) = some (laws_szRank_c, 0) := by kernel_rfl
def laws_szRank_rv : List (Nat × Option (Nat × Bool)) := [(4, none)]
def laws_szRank_pre (fuel : Nat) (x0 : List (Int × Int × Unit)) (x1 : Int) (x2 : Int) : Option ((Int × Unit) × Unit) :=
 Option.bind (laws_szKnotS_fn fuel ((x0, ()), (x2, ()), ())) fun y_1 =>
 cond (decide (y_1.fst.fst < (0 : Int)))
  (some ((((-1 : Int), ()), ())))
  (some (((y_1.fst.fst, ()), ())))
def laws_szRank_fn (fuel : Nat) (x : (((List (Int × (Int × Unit))) × (Int × Unit)) × ((Int × Unit) × Unit))) : Option ((Int × Unit) × Unit) := laws_szRank_pre fuel x.1.1 x.1.2.1 x.2.1.1
theorem laws_szRank_run (fuel : Nat) (x : PsT laws_szRank_ps) : run (laws_szRank_T fuel) 0 fuel laws_szRank_c (env0 (svPs laws_szRank_ps x) 0) [] (endF laws_szRank_rv laws_szRank_rs) = laws_szRank_fn fuel x := by kernel_rfl
def laws_szRank_tf (fuel : Nat) : TF := ⟨laws_szRank_ps, laws_szRank_rs, true, laws_szRank_fn fuel⟩
theorem laws_szRank_spec (fuel : Nat) : FnSpec Try.prog 18 (laws_szRank_tf fuel) :=
  fn_spec (T := laws_szRank_T fuel) (c := bodyOf Try.f18) (fn := Try.f18) (TabOK.of (entCons (laws_szKnotS_ok fuel) entNil) methNil) mixed (by kernel_rfl) (by kernel_rfl) laws_szRank_l (by kernel_rfl) (Nat.le_of_ble_eq_true (by kernel_rfl)) (rv := laws_szRank_rv) (by kernel_rfl) (laws_szRank_run fuel)
theorem laws_szRank_ok (fuel : Nat) : EntryOK Try.prog 18 (laws_szRank_tf fuel).te := EntryOK.tf rfl (laws_szRank_spec fuel) (isFn (fn := Try.f18) (by kernel_rfl) (by kernel_rfl) (by kernel_rfl))

/-! ### laws_toKnot -/
def laws_toKnot_T (fuel : Nat) : Tab := Tab.of [] []
abbrev laws_toKnot_ps : List Pm := [{ cs := [(Kd.int IntKind.i64, false), (Kd.int IntKind.i64, false)], ag := true }]
abbrev laws_toKnot_rs : List Pm := [{ cs := [(Kd.int IntKind.i64, false), (Kd.int IntKind.i64, false)], ag := true }]
def laws_toKnot_ann : List Norm := []
noncomputable def laws_toKnot_c : C := irOf Try.prog Try.f51 [] laws_toKnot_ann []
theorem laws_toKnot_l : lightC Try.prog [] Try.f51.ntmps laws_toKnot_ann [] 0 (bodyOf Try.f51) = some (laws_toKnot_c, 0) := by kernel_rfl
def laws_toKnot_rv : List (Nat × Option (Nat × Bool)) := [(2, some (2, true))]
def laws_toKnot_pre (fuel : Nat) (x0 : Int) (x1 : Int) : Option ((Int × (Int × Unit)) × Unit) :=
 some (((x0, x1, ()), ()))
def laws_toKnot_fn (fuel : Nat) (x : ((Int × (Int × Unit)) × Unit)) : Option ((Int × (Int × Unit)) × Unit) := laws_toKnot_pre fuel x.1.1 x.1.2.1
theorem laws_toKnot_run (fuel : Nat) (x : PsT laws_toKnot_ps) : run (laws_toKnot_T fuel) 0 fuel laws_toKnot_c (env0 (svPs laws_toKnot_ps x) 0) [] (endF laws_toKnot_rv laws_toKnot_rs) = laws_toKnot_fn fuel x := by kernel_rfl
def laws_toKnot_tf (fuel : Nat) : TF := ⟨laws_toKnot_ps, laws_toKnot_rs, true, laws_toKnot_fn fuel⟩
theorem laws_toKnot_spec (fuel : Nat) : FnSpec Try.prog 51 (laws_toKnot_tf fuel) :=
  fn_spec (T := laws_toKnot_T fuel) (c := bodyOf Try.f51) (fn := Try.f51) (TabOK.of (entNil) methNil) mixed (by kernel_rfl) (by kernel_rfl) laws_toKnot_l (by kernel_rfl) (Nat.le_of_ble_eq_true (by kernel_rfl)) (rv := laws_toKnot_rv) (by kernel_rfl) (laws_toKnot_run fuel)
theorem laws_toKnot_ok (fuel : Nat) : EntryOK Try.prog 51 (laws_toKnot_tf fuel).te := EntryOK.tf rfl (laws_toKnot_spec fuel) (isFn (fn := Try.f51) (by kernel_rfl) (by kernel_rfl) (by kernel_rfl))

/-! ### laws_toKnotS -/
def laws_toKnotS_T (fuel : Nat) : Tab := Tab.of [(51, (laws_toKnot_tf fuel).te)] []
abbrev laws_toKnotS_ps : List Pm := [{ cs := [(Kd.list (Kd.pair (Kd.int IntKind.i64) (Kd.pair (Kd.int IntKind.i64) Kd.unit)), false)], ag := false }]
abbrev laws_toKnotS_rs : List Pm := [{ cs := [(Kd.list (Kd.pair (Kd.int IntKind.i64) (Kd.pair (Kd.int IntKind.i64) Kd.unit)), true)], ag := false }]
def laws_toKnotS_ann : List Norm := [{ live := [4, 0, 3], fix := [] }]
noncomputable def laws_toKnotS_c : C := irOf Try.prog Try.f41 [] laws_toKnotS_ann []
theorem laws_toKnotS_l : lightC Try.prog [] Try.f41.ntmps laws_toKnotS_ann [] 0 (bodyOf Try.f41) = some (laws_toKnotS_c, 1) := by kernel_rfl
def laws_toKnotS_rv : List (Nat × Option (Nat × Bool)) := [(2, none)]
abbrev laws_toKnotS_V0 := (Int) × (List (Int × Int × Unit)) × (List (Int × Int × Unit))
def laws_toKnotS_enc0 (v : laws_toKnotS_V0) : Env × Heap := ([(4, SV.int IntKind.i64 v.1), (0, SV.es (Kd.pair (Kd.int IntKind.i64) (Kd.pair (Kd.int IntKind.i64) Kd.unit)) v.2.1), (3, SV.own 0)], [Blk.arr (Kd.pair (Kd.int IntKind.i64) (Kd.pair (Kd.int IntKind.i64) Kd.unit)) v.2.2 0])
def laws_toKnotS_step0 (fuel : Nat) (g0 : laws_toKnotS_V0 → Option (((List (Int × (Int × Unit))) × Unit) × Unit)) (v : laws_toKnotS_V0) : Option (((List (Int × (Int × Unit))) × Unit) × Unit) :=
 cond (decide (v.1 < (zz (List.length v.2.1))))
 (tst (decide (0 ≤ v.1)) <|
  tst (decide (v.1 < (zz (List.length v.2.1)))) <|
  Option.bind (laws_toKnot_fn fuel (((List.getD v.2.1 (Int.toNat v.1) (0, (0, ()))).fst, (List.getD v.2.1 (Int.toNat v.1) (0, (0, ()))).snd.fst, ()), ())) fun y_2 =>
  tst (decide (0 ≤ v.1)) <|
   tst (decide (v.1 < (zz (List.length v.2.2)))) <|
   tst (decide (Int.toNat v.1 < List.length v.2.2)) <|
   g0 (w64 (v.1 + (1 : Int)), v.2.1, List.set v.2.2 (Int.toNat v.1) (y_2.fst.fst, y_2.fst.snd.fst, ())))
 (some (((v.2.2, ()), ())))
def laws_toKnotS_st0 (fuel : Nat) (g0 : laws_toKnotS_V0 → Option (((List (Int × (Int × Unit))) × Unit) × Unit)) : laws_toKnotS_V0 → Option (((List (Int × (Int × Unit))) × Unit) × Unit) := laws_toKnotS_step0 fuel g0
theorem laws_toKnotS_lp0 (fuel : Nat) (G) : laws_toKnotS_c.lp (laws_toKnotS_T fuel) 0 fuel G (endF laws_toKnotS_rv laws_toKnotS_rs) 0 laws_toKnotS_enc0 = iter (laws_toKnotS_st0 fuel) fuel := C.lp_iter fun g v => by kernel_rfl
def laws_toKnotS_pre (fuel : Nat) (X0 : laws_toKnotS_V0 → Option (((List (Int × (Int × Unit))) × Unit) × Unit)) (x0 : List (Int × Int × Unit)) : Option (((List (Int × (Int × Unit))) × Unit) × Unit) :=
 tst (decide (0 ≤ (zz (List.length x0)))) <|
 tst (decide ((zz (List.length x0)) ≤ (zz (List.length x0)))) <|
 tst (decide (Int.toNat (zz (List.length x0)) < LIM)) <|
 X0 ((0 : Int), x0, List.replicate (Int.toNat (zz (List.length x0))) (0, (0, ())))
def laws_toKnotS_fn (fuel : Nat) (x : (((List (Int × (Int × Unit))) × Unit) × Unit)) : Option (((List (Int × (Int × Unit))) × Unit) × Unit) := laws_toKnotS_pre fuel (iter (laws_toKnotS_st0 fuel) fuel) x.1.1
theorem laws_toKnotS_run (fuel : Nat) (x : PsT laws_toKnotS_ps) : run (laws_toKnotS_T fuel) 0 fuel laws_toKnotS_c (env0 (svPs laws_toKnotS_ps x) 0) [] (endF laws_toKnotS_rv laws_toKnotS_rs) = laws_toKnotS_fn fuel x :=
  (show run (laws_toKnotS_T fuel) 0 fuel laws_toKnotS_c (env0 (svPs laws_toKnotS_ps x) 0) [] (endF laws_toKnotS_rv laws_toKnotS_rs) = laws_toKnotS_pre fuel (laws_toKnotS_c.lp (laws_toKnotS_T fuel) 0 fuel (fun _ _ _ => none) (endF laws_toKnotS_rv laws_toKnotS_rs) 0 laws_toKnotS_enc0) x.1.1 by kernel_rfl).trans (by rw [laws_toKnotS_lp0]; rfl)
def laws_toKnotS_tf (fuel : Nat) : TF := ⟨laws_toKnotS_ps, laws_toKnotS_rs, true, laws_toKnotS_fn fuel⟩
theorem laws_toKnotS_spec (fuel : Nat) : FnSpec Try.prog 41 (laws_toKnotS_tf fuel) :=
  fn_spec (T := laws_toKnotS_T fuel) (c := bodyOf Try.f41) (fn := Try.f41) (TabOK.of (entCons (laws_toKnot_ok fuel) entNil) methNil) mixed (by kernel_rfl) (by kernel_rfl) laws_toKnotS_l (by kernel_rfl) (Nat.le_of_ble_eq_true (by kernel_rfl)) (rv := laws_toKnotS_rv) (by kernel_rfl) (laws_toKnotS_run fuel)
theorem laws_toKnotS_ok (fuel : Nat) : EntryOK Try.prog 41 (laws_toKnotS_tf fuel).te := EntryOK.tf rfl (laws_toKnotS_spec fuel) (isFn (fn := Try.f41) (by kernel_rfl) (by kernel_rfl) (by kernel_rfl))

/-! ### laws_toRank -/
def laws_toRank_T (fuel : Nat) : Tab := Tab.of [(41, (laws_toKnotS_tf fuel).te)] []
abbrev laws_toRank_ps : List Pm := [{ cs := [(Kd.list (Kd.pair (Kd.int IntKind.i64) (Kd.pair (Kd.int IntKind.i64) Kd.unit)), false), (Kd.int IntKind.i64, false)], ag := true }]
abbrev laws_toRank_rs : List Pm := [{ cs := [(Kd.list (Kd.pair (Kd.int IntKind.i64) (Kd.pair (Kd.int IntKind.i64) Kd.unit)), true), (Kd.int IntKind.i64, false)], ag := true }]
def laws_toRank_ann : List Norm := []
noncomputable def laws_toRank_c : C := irOf Try.prog Try.f19 [] laws_toRank_ann []
theorem laws_toRank_l : lightC Try.prog [] Try.f19.ntmps laws_toRank_ann [] 0 (bodyOf Try.f19) = some (laws_toRank_c, 0) := by kernel_rfl
def laws_toRank_rv : List (Nat × Option (Nat × Bool)) := [(2, some (2, true))]
def laws_toRank_pre (fuel : Nat) (x0 : List (Int × Int × Unit)) (x1 : Int) : Option (((List (Int × (Int × Unit))) × (Int × Unit)) × Unit) :=
 Option.bind (laws_toKnotS_fn fuel ((x0, ()), ())) fun y_1 =>
 some (((y_1.fst.fst, x1, ()), ()))
def laws_toRank_fn (fuel : Nat) (x : (((List (Int × (Int × Unit))) × (Int × Unit)) × Unit)) : Option (((List (Int × (Int × Unit))) × (Int × Unit)) × Unit) := laws_toRank_pre fuel x.1.1 x.1.2.1
theorem laws_toRank_run (fuel : Nat) (x : PsT laws_toRank_ps) : run (laws_toRank_T fuel) 0 fuel laws_toRank_c (env0 (svPs laws_toRank_ps x) 0) [] (endF laws_toRank_rv laws_toRank_rs) = laws_toRank_fn fuel x := by kernel_rfl
def laws_toRank_tf (fuel : Nat) : TF := ⟨laws_toRank_ps, laws_toRank_rs, true, laws_toRank_fn fuel⟩
theorem laws_toRank_spec (fuel : Nat) : FnSpec Try.prog 19 (laws_toRank_tf fuel) :=
  fn_spec (T := laws_toRank_T fuel) (c := bodyOf Try.f19) (fn := Try.f19) (TabOK.of (entCons (laws_toKnotS_ok fuel) entNil) methNil) mixed (by kernel_rfl) (by kernel_rfl) laws_toRank_l (by kernel_rfl) (Nat.le_of_ble_eq_true (by kernel_rfl)) (rv := laws_toRank_rv) (by kernel_rfl) (laws_toRank_run fuel)
theorem laws_toRank_ok (fuel : Nat) : EntryOK Try.prog 19 (laws_toRank_tf fuel).te := EntryOK.tf rfl (laws_toRank_spec fuel) (isFn (fn := Try.f19) (by kernel_rfl) (by kernel_rfl) (by kernel_rfl))

/-! ### laws_eqKnot -/
def laws_eqKnot_T (fuel : Nat) : Tab := Tab.of [] []
abbrev laws_eqKnot_ps : List Pm := [{ cs := [(Kd.int IntKind.i64, false), (Kd.int IntKind.i64, false)], ag := true }, { cs := [(Kd.int IntKind.i64, false), (Kd.int IntKind.i64, false)], ag := true }]
abbrev laws_eqKnot_rs : List Pm := [{ cs := [(Kd.bool, false)], ag := false }]
def laws_eqKnot_ann : List Norm := []
noncomputable def laws_eqKnot_c : C := irOf Try.prog Try.f52 [] laws_eqKnot_ann []
theorem laws_eqKnot_l : lightC Try.prog [] Try.f52.ntmps laws_eqKnot_ann [] 0 (bodyOf Try.f52) = some (laws_eqKnot_c, 0) := by kernel_rfl
def laws_eqKnot_rv : List (Nat × Option (Nat × Bool)) := [(4, none)]
def laws_eqKnot_pre (fuel : Nat) (x0 : Int) (x1 : Int) (x2 : Int) (x3 : Int) : Option ((Bool × Unit) × Unit) :=
 cond (x0 != x2)
 (some (((false, ()), ())))
 (cond (x1 != x3)
  (some (((false, ()), ())))
  (some (((true, ()), ()))))
def laws_eqKnot_fn (fuel : Nat) (x : ((Int × (Int × Unit)) × ((Int × (Int × Unit)) × Unit))) : Option ((Bool × Unit) × Unit) := laws_eqKnot_pre fuel x.1.1 x.1.2.1 x.2.1.1 x.2.1.2.1
theorem laws_eqKnot_run (fuel : Nat) (x : PsT laws_eqKnot_ps) : run (laws_eqKnot_T fuel) 0 fuel laws_eqKnot_c (env0 (svPs laws_eqKnot_ps x) 0) [] (endF laws_eqKnot_rv laws_eqKnot_rs) = laws_eqKnot_fn fuel x := by kernel_rfl
def laws_eqKnot_tf (fuel : Nat) : TF := ⟨laws_eqKnot_ps, laws_eqKnot_rs, true, laws_eqKnot_fn fuel⟩
theorem laws_eqKnot_spec (fuel : Nat) : FnSpec Try.prog 52 (laws_eqKnot_tf fuel) :=
  fn_spec (T := laws_eqKnot_T fuel) (c := bodyOf Try.f52) (fn := Try.f52) (TabOK.of (entNil) methNil) mixed (by kernel_rfl) (by kernel_rfl) laws_eqKnot_l (by kernel_rfl) (Nat.le_of_ble_eq_true (by kernel_rfl)) (rv := laws_eqKnot_rv) (by kernel_rfl) (laws_eqKnot_run fuel)
theorem laws_eqKnot_ok (fuel : Nat) : EntryOK Try.prog 52 (laws_eqKnot_tf fuel).te := EntryOK.tf rfl (laws_eqKnot_spec fuel) (isFn (fn := Try.f52) (by kernel_rfl) (by kernel_rfl) (by kernel_rfl))

/-! ### laws_eqKnotS -/
def laws_eqKnotS_T (fuel : Nat) : Tab := Tab.of [(52, (laws_eqKnot_tf fuel).te)] []
abbrev laws_eqKnotS_ps : List Pm := [{ cs := [(Kd.list (Kd.pair (Kd.int IntKind.i64) (Kd.pair (Kd.int IntKind.i64) Kd.unit)), false)], ag := false }, { cs := [(Kd.list (Kd.pair (Kd.int IntKind.i64) (Kd.pair (Kd.int IntKind.i64) Kd.unit)), false)], ag := false }]
abbrev laws_eqKnotS_rs : List Pm := [{ cs := [(Kd.bool, false)], ag := false }]
def laws_eqKnotS_ann : List Norm := [{ live := [5, 0, 1], fix := [] }]
noncomputable def laws_eqKnotS_c : C := irOf Try.prog Try.f42 [] laws_eqKnotS_ann []
theorem laws_eqKnotS_l : lightC Try.prog [] Try.f42.ntmps laws_eqKnotS_ann [] 0 (bodyOf Try.f42) = some (laws_eqKnotS_c, 1) := by kernel_rfl
def laws_eqKnotS_rv : List (Nat × Option (Nat × Bool)) := [(4, none)]
abbrev laws_eqKnotS_V0 := (Int) × (List (Int × Int × Unit)) × (List (Int × Int × Unit))
def laws_eqKnotS_enc0 (v : laws_eqKnotS_V0) : Env × Heap := ([(5, SV.int IntKind.i64 v.1), (0, SV.es (Kd.pair (Kd.int IntKind.i64) (Kd.pair (Kd.int IntKind.i64) Kd.unit)) v.2.1), (1, SV.es (Kd.pair (Kd.int IntKind.i64) (Kd.pair (Kd.int IntKind.i64) Kd.unit)) v.2.2)], [])
def laws_eqKnotS_step0 (fuel : Nat) (g0 : laws_eqKnotS_V0 → Option ((Bool × Unit) × Unit)) (v : laws_eqKnotS_V0) : Option ((Bool × Unit) × Unit) :=
 cond (decide (v.1 < (zz (List.length v.2.1))))
 (tst (decide (0 ≤ v.1)) <|
  tst (decide (v.1 < (zz (List.length v.2.1)))) <|
  tst (decide (0 ≤ v.1)) <|
  tst (decide (v.1 < (zz (List.length v.2.2)))) <|
  Option.bind (laws_eqKnot_fn fuel (((List.getD v.2.1 (Int.toNat v.1) (0, (0, ()))).fst, (List.getD v.2.1 (Int.toNat v.1) (0, (0, ()))).snd.fst, ()), ((List.getD v.2.2 (Int.toNat v.1) (0, (0, ()))).fst, (List.getD v.2.2 (Int.toNat v.1) (0, (0, ()))).snd.fst, ()), ())) fun y_2 =>
  cond (!y_2.fst.fst)
   (some (((false, ()), ())))
   (g0 (w64 (v.1 + (1 : Int)), v.2.1, v.2.2)))
 (some (((true, ()), ())))
def laws_eqKnotS_st0 (fuel : Nat) (g0 : laws_eqKnotS_V0 → Option ((Bool × Unit) × Unit)) : laws_eqKnotS_V0 → Option ((Bool × Unit) × Unit) := laws_eqKnotS_step0 fuel g0
theorem laws_eqKnotS_lp0 (fuel : Nat) (G) : laws_eqKnotS_c.lp (laws_eqKnotS_T fuel) 0 fuel G (endF laws_eqKnotS_rv laws_eqKnotS_rs) 0 laws_eqKnotS_enc0 = iter (laws_eqKnotS_st0 fuel) fuel := C.lp_iter fun g v => by kernel_rfl
def laws_eqKnotS_pre (fuel : Nat) (X0 : laws_eqKnotS_V0 → Option ((Bool × Unit) × Unit)) (x0 : List (Int × Int × Unit)) (x1 : List (Int × Int × Unit)) : Option ((Bool × Unit) × Unit) :=
 cond ((zz (List.length x0)) != (zz (List.length x1)))
 (some (((false, ()), ())))
 (X0 ((0 : Int), x0, x1))
def laws_eqKnotS_fn (fuel : Nat) (x : (((List (Int × (Int × Unit))) × Unit) × (((List (Int × (Int × Unit))) × Unit) × Unit))) : Option ((Bool × Unit) × Unit) := laws_eqKnotS_pre fuel (iter (laws_eqKnotS_st0 fuel) fuel) x.1.1 x.2.1.1
theorem laws_eqKnotS_run (fuel : Nat) (x : PsT laws_eqKnotS_ps) : run (laws_eqKnotS_T fuel) 0 fuel laws_eqKnotS_c (env0 (svPs laws_eqKnotS_ps x) 0) [] (endF laws_eqKnotS_rv laws_eqKnotS_rs) = laws_eqKnotS_fn fuel x :=
  (show run (laws_eqKnotS_T fuel) 0 fuel laws_eqKnotS_c (env0 (svPs laws_eqKnotS_ps x) 0) [] (endF laws_eqKnotS_rv laws_eqKnotS_rs) = laws_eqKnotS_pre fuel (laws_eqKnotS_c.lp (laws_eqKnotS_T fuel) 0 fuel (fun _ _ _ => none) (endF laws_eqKnotS_rv laws_eqKnotS_rs) 0 laws_eqKnotS_enc0) x.1.1 x.2.1.1 by kernel_rfl).trans (by rw [laws_eqKnotS_lp0]; rfl)
def laws_eqKnotS_tf (fuel : Nat) : TF := ⟨laws_eqKnotS_ps, laws_eqKnotS_rs, true, laws_eqKnotS_fn fuel⟩
theorem laws_eqKnotS_spec (fuel : Nat) : FnSpec Try.prog 42 (laws_eqKnotS_tf fuel) :=
  fn_spec (T := laws_eqKnotS_T fuel) (c := bodyOf Try.f42) (fn := Try.f42) (TabOK.of (entCons (laws_eqKnot_ok fuel) entNil) methNil) mixed (by kernel_rfl) (by kernel_rfl) laws_eqKnotS_l (by kernel_rfl) (Nat.le_of_ble_eq_true (by kernel_rfl)) (rv := laws_eqKnotS_rv) (by kernel_rfl) (laws_eqKnotS_run fuel)
theorem laws_eqKnotS_ok (fuel : Nat) : EntryOK Try.prog 42 (laws_eqKnotS_tf fuel).te := EntryOK.tf rfl (laws_eqKnotS_spec fuel) (isFn (fn := Try.f42) (by kernel_rfl) (by kernel_rfl) (by kernel_rfl))

/-! ### laws_eqRank -/
def laws_eqRank_T (fuel : Nat) : Tab := Tab.of [(42, (laws_eqKnotS_tf fuel).te)] []
abbrev laws_eqRank_ps : List Pm := [{ cs := [(Kd.list (Kd.pair (Kd.int IntKind.i64) (Kd.pair (Kd.int IntKind.i64) Kd.unit)), false), (Kd.int IntKind.i64, false)], ag := true }, { cs := [(Kd.list (Kd.pair (Kd.int IntKind.i64) (Kd.pair (Kd.int IntKind.i64) Kd.unit)), false), (Kd.int IntKind.i64, false)], ag := true }]
abbrev laws_eqRank_rs : List Pm := [{ cs := [(Kd.bool, false)], ag := false }]
def laws_eqRank_ann : List Norm := []
noncomputable def laws_eqRank_c : C := irOf Try.prog Try.f20 [] laws_eqRank_ann []
theorem laws_eqRank_l : lightC Try.prog [] Try.f20.ntmps laws_eqRank_ann [] 0 (bodyOf Try.f20) = some (laws_eqRank_c, 0) := by kernel_rfl
def laws_eqRank_rv : List (Nat × Option (Nat × Bool)) := [(4, none)]
def laws_eqRank_pre (fuel : Nat) (x0 : List (Int × Int × Unit)) (x1 : Int) (x2 : List (Int × Int × Unit)) (x3 : Int) : Option ((Bool × Unit) × Unit) :=
 Option.bind (laws_eqKnotS_fn fuel ((x0, ()), (x2, ()), ())) fun y_1 =>
 cond (!y_1.fst.fst)
  (some (((false, ()), ())))
  (cond (x1 != x3)
   (some (((false, ()), ())))
   (some (((true, ()), ()))))
def laws_eqRank_fn (fuel : Nat) (x : (((List (Int × (Int × Unit))) × (Int × Unit)) × (((List (Int × (Int × Unit))) × (Int × Unit)) × Unit))) : Option ((Bool × Unit) × Unit) := laws_eqRank_pre fuel x.1.1 x.1.2.1 x.2.1.1 x.2.1.2.1
theorem laws_eqRank_run (fuel : Nat) (x : PsT laws_eqRank_ps) : run (laws_eqRank_T fuel) 0 fuel laws_eqRank_c (env0 (svPs laws_eqRank_ps x) 0) [] (endF laws_eqRank_rv laws_eqRank_rs) = laws_eqRank_fn fuel x := by kernel_rfl
def laws_eqRank_tf (fuel : Nat) : TF := ⟨laws_eqRank_ps, laws_eqRank_rs, true, laws_eqRank_fn fuel⟩
theorem laws_eqRank_spec (fuel : Nat) : FnSpec Try.prog 20 (laws_eqRank_tf fuel) :=
  fn_spec (T := laws_eqRank_T fuel) (c := bodyOf Try.f20) (fn := Try.f20) (TabOK.of (entCons (laws_eqKnotS_ok fuel) entNil) methNil) mixed (by kernel_rfl) (by kernel_rfl) laws_eqRank_l (by kernel_rfl) (Nat.le_of_ble_eq_true (by kernel_rfl)) (rv := laws_eqRank_rv) (by kernel_rfl) (laws_eqRank_run fuel)
theorem laws_eqRank_ok (fuel : Nat) : EntryOK Try.prog 20 (laws_eqRank_tf fuel).te := EntryOK.tf rfl (laws_eqRank_spec fuel) (isFn (fn := Try.f20) (by kernel_rfl) (by kernel_rfl) (by kernel_rfl))

/-! ### laws_markKnotS -/
def laws_markKnotS_T (fuel : Nat) : Tab := Tab.of [] []
abbrev laws_markKnotS_ps : List Pm := [{ cs := [(Kd.int IntKind.i64, false)], ag := false }]
abbrev laws_markKnotS_rs : List Pm := [{ cs := [(Kd.int IntKind.i64, false)], ag := false }]
def laws_markKnotS_ann : List Norm := [{ live := [5, 0, 1], fix := [] }]
noncomputable def laws_markKnotS_c : C := irOf Try.prog Try.f43 [] laws_markKnotS_ann []
theorem laws_markKnotS_l : lightC Try.prog [] Try.f43.ntmps laws_markKnotS_ann [] 0 (bodyOf Try.f43) = some (laws_markKnotS_c, 1) := by kernel_rfl
def laws_markKnotS_rv : List (Nat × Option (Nat × Bool)) := [(4, none)]
abbrev laws_markKnotS_V0 := (Int) × (Int) × (List (Int × Int × Unit))
def laws_markKnotS_enc0 (v : laws_markKnotS_V0) : Env × Heap := ([(5, SV.int IntKind.i64 v.1), (0, SV.own 0), (1, SV.int IntKind.i64 v.2.1)], [Blk.arr (Kd.pair (Kd.int IntKind.i64) (Kd.pair (Kd.int IntKind.i64) Kd.unit)) v.2.2 0])
def laws_markKnotS_step0 (fuel : Nat) (g0 : laws_markKnotS_V0 → Option ((List (Int × (Int × Unit))) × ((Int × Unit) × Unit))) (v : laws_markKnotS_V0) : Option ((List (Int × (Int × Unit))) × ((Int × Unit) × Unit)) :=
 cond (decide (v.1 < (zz (List.length v.2.2))))
 (tst (decide (0 ≤ v.1)) <|
  tst (decide (v.1 < (zz (List.length v.2.2)))) <|
  tst (decide (Int.toNat v.1 < List.length v.2.2)) <|
  tst (decide (0 ≤ v.1)) <|
  tst (decide (v.1 < (zz (List.length (List.set v.2.2 (Int.toNat v.1) (v.2.1, (List.getD v.2.2 (Int.toNat v.1) (0, (0, ()))).snd.fst, ())))))) <|
  tst (decide (Int.toNat v.1 < List.length (List.set v.2.2 (Int.toNat v.1) (v.2.1, (List.getD v.2.2 (Int.toNat v.1) (0, (0, ()))).snd.fst, ())))) <|
  g0 (w64 (v.1 + (1 : Int)), w64 (w64 (v.2.1 + (1 : Int)) + (1 : Int)), List.set (List.set v.2.2 (Int.toNat v.1) (v.2.1, (List.getD v.2.2 (Int.toNat v.1) (0, (0, ()))).snd.fst, ())) (Int.toNat v.1) ((List.getD (List.set v.2.2 (Int.toNat v.1) (v.2.1, (List.getD v.2.2 (Int.toNat v.1) (0, (0, ()))).snd.fst, ())) (Int.toNat v.1) (0, (0, ()))).fst, w64 (v.2.1 + (1 : Int)), ())))
 (some ((v.2.2, (v.2.1, ()), ())))
def laws_markKnotS_st0 (fuel : Nat) (g0 : laws_markKnotS_V0 → Option ((List (Int × (Int × Unit))) × ((Int × Unit) × Unit))) : laws_markKnotS_V0 → Option ((List (Int × (Int × Unit))) × ((Int × Unit) × Unit)) := laws_markKnotS_step0 fuel g0
theorem laws_markKnotS_lp0 (fuel : Nat) (G) : laws_markKnotS_c.lp (laws_markKnotS_T fuel) 1 fuel G (endS laws_markKnotS_rv (Kd.pair (Kd.int IntKind.i64) (Kd.pair (Kd.int IntKind.i64) Kd.unit)) false laws_markKnotS_rs) 0 laws_markKnotS_enc0 = iter (laws_markKnotS_st0 fuel) fuel := C.lp_iter fun g v => by kernel_rfl
def laws_markKnotS_pre (fuel : Nat) (X0 : laws_markKnotS_V0 → Option ((List (Int × (Int × Unit))) × ((Int × Unit) × Unit))) (d0 : List (Int × Int × Unit)) (x0 : Int) : Option ((List (Int × (Int × Unit))) × ((Int × Unit) × Unit)) :=
 X0 ((0 : Int), x0, d0)
def laws_markKnotS_fn (fuel : Nat) (z : (List (Int × (Int × Unit))) × Unit × ((Int × Unit) × Unit)) : Option ((List (Int × (Int × Unit))) × ((Int × Unit) × Unit)) := laws_markKnotS_pre fuel (iter (laws_markKnotS_st0 fuel) fuel) z.1 z.2.2.1.1
theorem laws_markKnotS_run (fuel : Nat) (c : List (Kd.T (Kd.pair (Kd.int IntKind.i64) (Kd.pair (Kd.int IntKind.i64) Kd.unit)))) (d : CsT []) (x : PsT laws_markKnotS_ps) : run (laws_markKnotS_T fuel) 1 fuel laws_markKnotS_c ((0, firstV false 0 (svCs [] d)) :: env0 (svPs laws_markKnotS_ps x) 1) [.arr (Kd.pair (Kd.int IntKind.i64) (Kd.pair (Kd.int IntKind.i64) Kd.unit)) c 0] (endS laws_markKnotS_rv (Kd.pair (Kd.int IntKind.i64) (Kd.pair (Kd.int IntKind.i64) Kd.unit)) false laws_markKnotS_rs) = laws_markKnotS_fn fuel (c, d, x) :=
  (show run (laws_markKnotS_T fuel) 1 fuel laws_markKnotS_c ((0, firstV false 0 (svCs [] d)) :: env0 (svPs laws_markKnotS_ps x) 1) [.arr (Kd.pair (Kd.int IntKind.i64) (Kd.pair (Kd.int IntKind.i64) Kd.unit)) c 0] (endS laws_markKnotS_rv (Kd.pair (Kd.int IntKind.i64) (Kd.pair (Kd.int IntKind.i64) Kd.unit)) false laws_markKnotS_rs) = laws_markKnotS_pre fuel (laws_markKnotS_c.lp (laws_markKnotS_T fuel) 1 fuel (fun _ _ _ => none) (endS laws_markKnotS_rv (Kd.pair (Kd.int IntKind.i64) (Kd.pair (Kd.int IntKind.i64) Kd.unit)) false laws_markKnotS_rs) 0 laws_markKnotS_enc0) c x.1.1 by kernel_rfl).trans (by rw [laws_markKnotS_lp0]; rfl)
def laws_markKnotS_tf (fuel : Nat) : TFS := ⟨(Kd.pair (Kd.int IntKind.i64) (Kd.pair (Kd.int IntKind.i64) Kd.unit)), false, [], laws_markKnotS_ps, laws_markKnotS_rs, false, laws_markKnotS_fn fuel⟩
theorem laws_markKnotS_spec (fuel : Nat) : FnSpecS Try.prog 43 (laws_markKnotS_tf fuel) :=
  fn_specS (T := laws_markKnotS_T fuel) (c := bodyOf Try.f43) (fn := Try.f43) (TabOK.of (entNil) methNil) mixed (by kernel_rfl) (by kernel_rfl) laws_markKnotS_l (by kernel_rfl) (Nat.le_of_ble_eq_true (by kernel_rfl)) (rv := laws_markKnotS_rv) (by kernel_rfl) (laws_markKnotS_run fuel)
theorem laws_markKnotS_ok (fuel : Nat) : EntryOK Try.prog 43 (laws_markKnotS_tf fuel).te := EntryOK.tfs (laws_markKnotS_spec fuel) (isFn (fn := Try.f43) (by kernel_rfl) (by kernel_rfl) (by kernel_rfl))

/-! ### laws_markRank -/
def laws_markRank_T (fuel : Nat) : Tab := Tab.of [(43, (laws_markKnotS_tf fuel).te)] []
abbrev laws_markRank_ps : List Pm := [{ cs := [(Kd.int IntKind.i64, false)], ag := false }]
abbrev laws_markRank_rs : List Pm := [{ cs := [(Kd.int IntKind.i64, false)], ag := false }]
def laws_markRank_ann : List Norm := []
noncomputable def laws_markRank_c : C := irOf Try.prog Try.f21 [] laws_markRank_ann []
theorem laws_markRank_l : lightC Try.prog [] Try.f21.ntmps laws_markRank_ann [] 0 (bodyOf Try.f21) = some (laws_markRank_c, 0) := by kernel_rfl
def laws_markRank_rv : List (Nat × Option (Nat × Bool)) := [(4, none)]
def laws_markRank_pre (fuel : Nat) (d0 : List (Int × Int × Unit)) (d1 : Int) (x0 : Int) : Option ((List (Int × (Int × Unit))) × ((Int × Unit) × Unit)) :=
 Option.bind (laws_markKnotS_fn fuel (d0, (), (x0, ()), ())) fun y_1 =>
 some ((y_1.fst, (y_1.snd.fst.fst, ()), ()))
def laws_markRank_fn (fuel : Nat) (z : (List (Int × (Int × Unit))) × (Int × Unit) × ((Int × Unit) × Unit)) : Option ((List (Int × (Int × Unit))) × ((Int × Unit) × Unit)) := laws_markRank_pre fuel z.1 z.2.1.1 z.2.2.1.1
theorem laws_markRank_run (fuel : Nat) (c : List (Kd.T (Kd.pair (Kd.int IntKind.i64) (Kd.pair (Kd.int IntKind.i64) Kd.unit)))) (d : CsT [(Kd.int IntKind.i64, false)]) (x : PsT laws_markRank_ps) : run (laws_markRank_T fuel) 1 fuel laws_markRank_c ((0, firstV true 0 (svCs [(Kd.int IntKind.i64, false)] d)) :: env0 (svPs laws_markRank_ps x) 1) [.arr (Kd.pair (Kd.int IntKind.i64) (Kd.pair (Kd.int IntKind.i64) Kd.unit)) c 0] (endS laws_markRank_rv (Kd.pair (Kd.int IntKind.i64) (Kd.pair (Kd.int IntKind.i64) Kd.unit)) false laws_markRank_rs) = laws_markRank_fn fuel (c, d, x) := by kernel_rfl
def laws_markRank_tf (fuel : Nat) : TFS := ⟨(Kd.pair (Kd.int IntKind.i64) (Kd.pair (Kd.int IntKind.i64) Kd.unit)), true, [(Kd.int IntKind.i64, false)], laws_markRank_ps, laws_markRank_rs, false, laws_markRank_fn fuel⟩
theorem laws_markRank_spec (fuel : Nat) : FnSpecS Try.prog 21 (laws_markRank_tf fuel) :=
  fn_specS (T := laws_markRank_T fuel) (c := bodyOf Try.f21) (fn := Try.f21) (TabOK.of (entCons (laws_markKnotS_ok fuel) entNil) methNil) mixed (by kernel_rfl) (by kernel_rfl) laws_markRank_l (by kernel_rfl) (Nat.le_of_ble_eq_true (by kernel_rfl)) (rv := laws_markRank_rv) (by kernel_rfl) (laws_markRank_run fuel)
theorem laws_markRank_ok (fuel : Nat) : EntryOK Try.prog 21 (laws_markRank_tf fuel).te := EntryOK.tfs (laws_markRank_spec fuel) (isFn (fn := Try.f21) (by kernel_rfl) (by kernel_rfl) (by kernel_rfl))

/-! ### laws_heldKnotS -/
def laws_heldKnotS_T (fuel : Nat) : Tab := Tab.of [] []
abbrev laws_heldKnotS_ps : List Pm := [{ cs := [(Kd.list (Kd.pair (Kd.int IntKind.i64) (Kd.pair (Kd.int IntKind.i64) Kd.unit)), false)], ag := false }, { cs := [(Kd.int IntKind.i64, false)], ag := false }]
abbrev laws_heldKnotS_rs : List Pm := [{ cs := [(Kd.int IntKind.i64, false)], ag := false }]
def laws_heldKnotS_ann : List Norm := [{ live := [5, 0, 1], fix := [] }]
noncomputable def laws_heldKnotS_c : C := irOf Try.prog Try.f44 [] laws_heldKnotS_ann []
theorem laws_heldKnotS_l : lightC Try.prog [] Try.f44.ntmps laws_heldKnotS_ann [] 0 (bodyOf Try.f44) = some (laws_heldKnotS_c, 1) := by kernel_rfl
def laws_heldKnotS_rv : List (Nat × Option (Nat × Bool)) := [(4, none)]
abbrev laws_heldKnotS_V0 := (Int) × (List (Int × Int × Unit)) × (Int)
def laws_heldKnotS_enc0 (v : laws_heldKnotS_V0) : Env × Heap := ([(5, SV.int IntKind.i64 v.1), (0, SV.es (Kd.pair (Kd.int IntKind.i64) (Kd.pair (Kd.int IntKind.i64) Kd.unit)) v.2.1), (1, SV.int IntKind.i64 v.2.2)], [])
def laws_heldKnotS_step0 (fuel : Nat) (g0 : laws_heldKnotS_V0 → Option ((Int × Unit) × Unit)) (v : laws_heldKnotS_V0) : Option ((Int × Unit) × Unit) :=
 cond (decide (v.1 < (zz (List.length v.2.1))))
 (tst (decide (0 ≤ v.1)) <|
  tst (decide (v.1 < (zz (List.length v.2.1)))) <|
  cond ((List.getD v.2.1 (Int.toNat v.1) (0, (0, ()))).fst != v.2.2)
  (some ((((-1 : Int), ()), ())))
  (tst (decide (0 ≤ v.1)) <|
   tst (decide (v.1 < (zz (List.length v.2.1)))) <|
   cond ((List.getD v.2.1 (Int.toNat v.1) (0, (0, ()))).snd.fst != w64 (v.2.2 + (1 : Int)))
   (some ((((-1 : Int), ()), ())))
   (g0 (w64 (v.1 + (1 : Int)), v.2.1, w64 (w64 (v.2.2 + (1 : Int)) + (1 : Int))))))
 (some (((v.2.2, ()), ())))
def laws_heldKnotS_st0 (fuel : Nat) (g0 : laws_heldKnotS_V0 → Option ((Int × Unit) × Unit)) : laws_heldKnotS_V0 → Option ((Int × Unit) × Unit) := laws_heldKnotS_step0 fuel g0
theorem laws_heldKnotS_lp0 (fuel : Nat) (G) : laws_heldKnotS_c.lp (laws_heldKnotS_T fuel) 0 fuel G (endF laws_heldKnotS_rv laws_heldKnotS_rs) 0 laws_heldKnotS_enc0 = iter (laws_heldKnotS_st0 fuel) fuel := C.lp_iter fun g v => by kernel_rfl
def laws_heldKnotS_pre (fuel : Nat) (X0 : laws_heldKnotS_V0 → Option ((Int × Unit) × Unit)) (x0 : List (Int × Int × Unit)) (x1 : Int) : Option ((Int × Unit) × Unit) :=
 X0 ((0 : Int), x0, x1)
def laws_heldKnotS_fn (fuel : Nat) (x : (((List (Int × (Int × Unit))) × Unit) × ((Int × Unit) × Unit))) : Option ((Int × Unit) × Unit) := laws_heldKnotS_pre fuel (iter (laws_heldKnotS_st0 fuel) fuel) x.1.1 x.2.1.1
theorem laws_heldKnotS_run (fuel : Nat) (x : PsT laws_heldKnotS_ps) : run (laws_heldKnotS_T fuel) 0 fuel laws_heldKnotS_c (env0 (svPs laws_heldKnotS_ps x) 0) [] (endF laws_heldKnotS_rv laws_heldKnotS_rs) = laws_heldKnotS_fn fuel x :=
  (show run (laws_heldKnotS_T fuel) 0 fuel laws_heldKnotS_c (env0 (svPs laws_heldKnotS_ps x) 0) [] (endF laws_heldKnotS_rv laws_heldKnotS_rs) = laws_heldKnotS_pre fuel (laws_heldKnotS_c.lp (laws_heldKnotS_T fuel) 0 fuel (fun _ _ _ => none) (endF laws_heldKnotS_rv laws_heldKnotS_rs) 0 laws_heldKnotS_enc0) x.1.1 x.2.1.1 by kernel_rfl).trans (by rw [laws_heldKnotS_lp0]; rfl)
def laws_heldKnotS_tf (fuel : Nat) : TF := ⟨laws_heldKnotS_ps, laws_heldKnotS_rs, true, laws_heldKnotS_fn fuel⟩
theorem laws_heldKnotS_spec (fuel : Nat) : FnSpec Try.prog 44 (laws_heldKnotS_tf fuel) :=
  fn_spec (T := laws_heldKnotS_T fuel) (c := bodyOf Try.f44) (fn := Try.f44) (TabOK.of (entNil) methNil) mixed (by kernel_rfl) (by kernel_rfl) laws_heldKnotS_l (by kernel_rfl) (Nat.le_of_ble_eq_true (by kernel_rfl)) (rv := laws_heldKnotS_rv) (by kernel_rfl) (laws_heldKnotS_run fuel)
theorem laws_heldKnotS_ok (fuel : Nat) : EntryOK Try.prog 44 (laws_heldKnotS_tf fuel).te := EntryOK.tf rfl (laws_heldKnotS_spec fuel) (isFn (fn := Try.f44) (by kernel_rfl) (by kernel_rfl) (by kernel_rfl))

/-! ### laws_heldRank -/
def laws_heldRank_T (fuel : Nat) : Tab := Tab.of [(44, (laws_heldKnotS_tf fuel).te)] []
abbrev laws_heldRank_ps : List Pm := [{ cs := [(Kd.list (Kd.pair (Kd.int IntKind.i64) (Kd.pair (Kd.int IntKind.i64) Kd.unit)), false), (Kd.int IntKind.i64, false)], ag := true }, { cs := [(Kd.int IntKind.i64, false)], ag := false }]
abbrev laws_heldRank_rs : List Pm := [{ cs := [(Kd.int IntKind.i64, false)], ag := false }]
def laws_heldRank_ann : List Norm := []
noncomputable def laws_heldRank_c : C := irOf Try.prog Try.f22 [] laws_heldRank_ann []
theorem laws_heldRank_l : lightC Try.prog [] Try.f22.ntmps laws_heldRank_ann [] 0 (bodyOf Try.f22) = some (laws_heldRank_c, 0) := by kernel_rfl
def laws_heldRank_rv : List (Nat × Option (Nat × Bool)) := [(4, none)]
def laws_heldRank_pre (fuel : Nat) (x0 : List (Int × Int × Unit)) (x1 : Int) (x2 : Int) : Option ((Int × Unit) × Unit) :=
 Option.bind (laws_heldKnotS_fn fuel ((x0, ()), (x2, ()), ())) fun y_1 =>
 cond (decide (y_1.fst.fst < (0 : Int)))
  (some ((((-1 : Int), ()), ())))
  (some (((y_1.fst.fst, ()), ())))
def laws_heldRank_fn (fuel : Nat) (x : (((List (Int × (Int × Unit))) × (Int × Unit)) × ((Int × Unit) × Unit))) : Option ((Int × Unit) × Unit) := laws_heldRank_pre fuel x.1.1 x.1.2.1 x.2.1.1
theorem laws_heldRank_run (fuel : Nat) (x : PsT laws_heldRank_ps) : run (laws_heldRank_T fuel) 0 fuel laws_heldRank_c (env0 (svPs laws_heldRank_ps x) 0) [] (endF laws_heldRank_rv laws_heldRank_rs) = laws_heldRank_fn fuel x := by kernel_rfl
def laws_heldRank_tf (fuel : Nat) : TF := ⟨laws_heldRank_ps, laws_heldRank_rs, true, laws_heldRank_fn fuel⟩
theorem laws_heldRank_spec (fuel : Nat) : FnSpec Try.prog 22 (laws_heldRank_tf fuel) :=
  fn_spec (T := laws_heldRank_T fuel) (c := bodyOf Try.f22) (fn := Try.f22) (TabOK.of (entCons (laws_heldKnotS_ok fuel) entNil) methNil) mixed (by kernel_rfl) (by kernel_rfl) laws_heldRank_l (by kernel_rfl) (Nat.le_of_ble_eq_true (by kernel_rfl)) (rv := laws_heldRank_rv) (by kernel_rfl) (laws_heldRank_run fuel)
theorem laws_heldRank_ok (fuel : Nat) : EntryOK Try.prog 22 (laws_heldRank_tf fuel).te := EntryOK.tf rfl (laws_heldRank_spec fuel) (isFn (fn := Try.f22) (by kernel_rfl) (by kernel_rfl) (by kernel_rfl))

/-! ### laws_FnExactRankJoin -/
def laws_FnExactRankJoin_T (fuel : Nat) : Tab := Tab.of [(14, (spec_RankJoin_tf fuel).te), (15, (impl_RankJoin_tf fuel).te), (18, (laws_szRank_tf fuel).te), (19, (laws_toRank_tf fuel).te), (20, (laws_eqRank_tf fuel).te), (21, (laws_markRank_tf fuel).te), (22, (laws_heldRank_tf fuel).te)] []
abbrev laws_FnExactRankJoin_ps : List Pm := [{ cs := [(Kd.list (Kd.pair (Kd.int IntKind.i64) (Kd.pair (Kd.int IntKind.i64) Kd.unit)), false), (Kd.int IntKind.i64, false)], ag := true }, { cs := [(Kd.list (Kd.pair (Kd.int IntKind.i64) (Kd.pair (Kd.int IntKind.i64) Kd.unit)), false), (Kd.int IntKind.i64, false)], ag := true }]
abbrev laws_FnExactRankJoin_rs : List Pm := [{ cs := [(Kd.bool, false)], ag := false }]
def laws_FnExactRankJoin_ann : List Norm := []
noncomputable def laws_FnExactRankJoin_c : C := irOf Try.prog Try.f5 [30, 54, 59, 97] laws_FnExactRankJoin_ann []
theorem laws_FnExactRankJoin_l : lightC Try.prog [30, 54, 59, 97] Try.f5.ntmps laws_FnExactRankJoin_ann [] 0 (bodyOf Try.f5) = some (laws_FnExactRankJoin_c, 0) := by kernel_rfl
def laws_FnExactRankJoin_rv : List (Nat × Option (Nat × Bool)) := [(4, none)]
def laws_FnExactRankJoin_pre (fuel : Nat) (x0 : List (Int × Int × Unit)) (x1 : Int) (x2 : List (Int × Int × Unit)) (x3 : Int) : Option ((Bool × Unit) × Unit) :=
 Option.bind (laws_szRank_fn fuel ((x0, x1, ()), ((1048576 : Int), ()), ())) fun y_1 =>
 cond (decide (y_1.fst.fst < (0 : Int)))
  (some (((true, ()), ())))
  (Option.bind (laws_szRank_fn fuel ((x2, x3, ()), (y_1.fst.fst, ()), ())) fun y_3 =>
   cond (decide (y_3.fst.fst < (0 : Int)))
    (some (((true, ()), ())))
    (Option.bind (laws_toRank_fn fuel ((x0, x1, ()), ())) fun y_5 =>
     Option.bind (laws_toRank_fn fuel ((x2, x3, ()), ())) fun y_6 =>
      Option.bind (spec_RankJoin_fn fuel ((y_5.fst.fst, y_5.fst.snd.fst, ()), (y_6.fst.fst, y_6.fst.snd.fst, ()), ())) fun y_7 =>
       Option.bind (laws_toRank_fn fuel ((x0, x1, ()), ())) fun y_8 =>
        Option.bind (laws_toRank_fn fuel ((x2, x3, ()), ())) fun y_9 =>
         Option.bind (impl_RankJoin_fn fuel ((y_8.fst.fst, y_8.fst.snd.fst, ()), (y_9.fst.fst, y_9.fst.snd.fst, ()), ())) fun y_10 =>
          Option.bind (laws_eqRank_fn fuel ((y_10.fst.fst, y_10.fst.snd.fst, ()), (y_7.fst.fst, y_7.fst.snd.fst, ()), ())) fun y_11 =>
           cond (!y_11.fst.fst)
            (some (((false, ()), ())))
            (cond (!y_10.snd.fst.fst == y_7.snd.fst.fst)
             (some (((false, ()), ())))
             (Option.bind (laws_toRank_fn fuel ((x0, x1, ()), ())) fun y_14 =>
              Option.bind (laws_eqRank_fn fuel ((y_8.fst.fst, y_8.fst.snd.fst, ()), (y_14.fst.fst, y_14.fst.snd.fst, ()), ())) fun y_15 =>
               cond (!y_15.fst.fst)
                (some (((false, ()), ())))
                (Option.bind (laws_toRank_fn fuel ((x2, x3, ()), ())) fun y_17 =>
                 Option.bind (laws_eqRank_fn fuel ((y_9.fst.fst, y_9.fst.snd.fst, ()), (y_17.fst.fst, y_17.fst.snd.fst, ()), ())) fun y_18 =>
                  cond (!y_18.fst.fst)
                   (some (((false, ()), ())))
                   (Option.bind (laws_markRank_fn fuel (y_8.fst.fst, (y_8.fst.snd.fst, ()), ((1 : Int), ()), ())) fun y_20 =>
                    Option.bind (laws_markRank_fn fuel (y_9.fst.fst, (y_9.fst.snd.fst, ()), (y_20.snd.fst.fst, ()), ())) fun y_21 =>
                     cond (decide (y_21.snd.fst.fst < (0 : Int)))
                      (some (((false, ()), ())))
                      (Option.bind (laws_eqRank_fn fuel ((y_10.fst.fst, y_10.fst.snd.fst, ()), (y_7.fst.fst, y_7.fst.snd.fst, ()), ())) fun y_23 =>
                       cond (!y_23.fst.fst)
                        (some (((false, ()), ())))
                        (cond (!y_10.snd.fst.fst == y_7.snd.fst.fst)
                         (some (((false, ()), ())))
                         (Option.bind (laws_markRank_fn fuel (y_10.fst.fst, (y_10.fst.snd.fst, ()), ((1 : Int), ()), ())) fun y_26 =>
                          Option.bind (laws_heldRank_fn fuel ((y_26.fst, y_10.fst.snd.fst, ()), ((1 : Int), ()), ())) fun y_27 =>
                           cond (decide (y_27.fst.fst < (0 : Int)))
                            (some (((false, ()), ())))
                            (cond (y_27.fst.fst != y_26.snd.fst.fst)
                             (some (((false, ()), ())))
                             (Option.bind (laws_toRank_fn fuel ((x0, x1, ()), ())) fun y_30 =>
                              Option.bind (laws_toRank_fn fuel ((x2, x3, ()), ())) fun y_31 =>
                               Option.bind (impl_RankJoin_fn fuel ((y_30.fst.fst, y_30.fst.snd.fst, ()), (y_31.fst.fst, y_31.fst.snd.fst, ()), ())) fun y_32 =>
                                Option.bind (laws_eqRank_fn fuel ((y_32.fst.fst, y_32.fst.snd.fst, ()), (y_7.fst.fst, y_7.fst.snd.fst, ()), ())) fun y_33 =>
                                 cond (!y_33.fst.fst)
                                  (some (((false, ()), ())))
                                  (cond (!y_32.snd.fst.fst == y_7.snd.fst.fst)
                                   (some (((false, ()), ())))
                                   (Option.bind (laws_heldRank_fn fuel ((y_26.fst, y_10.fst.snd.fst, ()), ((1 : Int), ()), ())) fun y_36 =>
                                    cond (decide (y_36.fst.fst < (0 : Int)))
                                     (some (((false, ()), ())))
                                     (cond (y_36.fst.fst != y_26.snd.fst.fst)
                                      (some (((false, ()), ())))
                                      (some (((true, ()), ())))))))))))))))))
def laws_FnExactRankJoin_fn (fuel : Nat) (x : (((List (Int × (Int × Unit))) × (Int × Unit)) × (((List (Int × (Int × Unit))) × (Int × Unit)) × Unit))) : Option ((Bool × Unit) × Unit) := laws_FnExactRankJoin_pre fuel x.1.1 x.1.2.1 x.2.1.1 x.2.1.2.1
theorem laws_FnExactRankJoin_run (fuel : Nat) (x : PsT laws_FnExactRankJoin_ps) : run (laws_FnExactRankJoin_T fuel) 0 fuel laws_FnExactRankJoin_c (env0 (svPs laws_FnExactRankJoin_ps x) 0) [] (endF laws_FnExactRankJoin_rv laws_FnExactRankJoin_rs) = laws_FnExactRankJoin_fn fuel x := by kernel_rfl
def laws_FnExactRankJoin_tf (fuel : Nat) : TF := ⟨laws_FnExactRankJoin_ps, laws_FnExactRankJoin_rs, true, laws_FnExactRankJoin_fn fuel⟩
theorem laws_FnExactRankJoin_spec (fuel : Nat) : FnSpec Try.prog 5 (laws_FnExactRankJoin_tf fuel) :=
  fn_spec (T := laws_FnExactRankJoin_T fuel) (c := bodyOf Try.f5) (fn := Try.f5) (TabOK.of (entCons (spec_RankJoin_ok fuel) (entCons (impl_RankJoin_ok fuel) (entCons (laws_szRank_ok fuel) (entCons (laws_toRank_ok fuel) (entCons (laws_eqRank_ok fuel) (entCons (laws_markRank_ok fuel) (entCons (laws_heldRank_ok fuel) entNil))))))) methNil) mixed (by kernel_rfl) (by kernel_rfl) laws_FnExactRankJoin_l (by kernel_rfl) (Nat.le_of_ble_eq_true (by kernel_rfl)) (rv := laws_FnExactRankJoin_rv) (by kernel_rfl) (laws_FnExactRankJoin_run fuel)
theorem laws_FnExactRankJoin_ok (fuel : Nat) : EntryOK Try.prog 5 (laws_FnExactRankJoin_tf fuel).te := EntryOK.tf rfl (laws_FnExactRankJoin_spec fuel) (isFn (fn := Try.f5) (by kernel_rfl) (by kernel_rfl) (by kernel_rfl))

/-! ### laws_FnExactRankAdd -/
def laws_FnExactRankAdd_T (fuel : Nat) : Tab := Tab.of [(18, (laws_szRank_tf fuel).te), (19, (laws_toRank_tf fuel).te), (20, (laws_eqRank_tf fuel).te), (21, (laws_markRank_tf fuel).te), (22, (laws_heldRank_tf fuel).te), (26, (spec_RankAdd_tf fuel).te), (27, (impl_RankAdd_tf fuel).te)] []
abbrev laws_FnExactRankAdd_ps : List Pm := [{ cs := [(Kd.list (Kd.pair (Kd.int IntKind.i64) (Kd.pair (Kd.int IntKind.i64) Kd.unit)), false), (Kd.int IntKind.i64, false)], ag := true }, { cs := [(Kd.int IntKind.i64, false)], ag := false }]
abbrev laws_FnExactRankAdd_rs : List Pm := [{ cs := [(Kd.bool, false)], ag := false }]
def laws_FnExactRankAdd_ann : List Norm := []
noncomputable def laws_FnExactRankAdd_c : C := irOf Try.prog Try.f7 [45] laws_FnExactRankAdd_ann []
theorem laws_FnExactRankAdd_l : lightC Try.prog [45] Try.f7.ntmps laws_FnExactRankAdd_ann [] 0 (bodyOf Try.f7) = some (laws_FnExactRankAdd_c, 0) := by kernel_rfl
def laws_FnExactRankAdd_rv : List (Nat × Option (Nat × Bool)) := [(4, none)]
def laws_FnExactRankAdd_pre (fuel : Nat) (x0 : List (Int × Int × Unit)) (x1 : Int) (x2 : Int) : Option ((Bool × Unit) × Unit) :=
 Option.bind (laws_szRank_fn fuel ((x0, x1, ()), ((1048576 : Int), ()), ())) fun y_1 =>
 cond (decide (y_1.fst.fst < (0 : Int)))
  (some (((true, ()), ())))
  (Option.bind (laws_toRank_fn fuel ((x0, x1, ()), ())) fun y_3 =>
   Option.bind (spec_RankAdd_fn fuel ((y_3.fst.fst, y_3.fst.snd.fst, ()), (x2, ()), ())) fun y_4 =>
    Option.bind (laws_toRank_fn fuel ((x0, x1, ()), ())) fun y_5 =>
     Option.bind (impl_RankAdd_fn fuel ((y_5.fst.fst, y_5.fst.snd.fst, ()), (x2, ()), ())) fun y_6 =>
      Option.bind (laws_eqRank_fn fuel ((y_6.fst.fst, y_6.fst.snd.fst, ()), (y_4.fst.fst, y_4.fst.snd.fst, ()), ())) fun y_7 =>
       cond (!y_7.fst.fst)
        (some (((false, ()), ())))
        (cond (!y_6.snd.fst.fst == y_4.snd.fst.fst)
         (some (((false, ()), ())))
         (Option.bind (laws_toRank_fn fuel ((x0, x1, ()), ())) fun y_10 =>
          Option.bind (laws_eqRank_fn fuel ((y_5.fst.fst, y_5.fst.snd.fst, ()), (y_10.fst.fst, y_10.fst.snd.fst, ()), ())) fun y_11 =>
           cond (!y_11.fst.fst)
            (some (((false, ()), ())))
            (Option.bind (laws_markRank_fn fuel (y_5.fst.fst, (y_5.fst.snd.fst, ()), ((1 : Int), ()), ())) fun y_13 =>
             cond (decide (y_13.snd.fst.fst < (0 : Int)))
              (some (((false, ()), ())))
              (Option.bind (laws_eqRank_fn fuel ((y_6.fst.fst, y_6.fst.snd.fst, ()), (y_4.fst.fst, y_4.fst.snd.fst, ()), ())) fun y_15 =>
               cond (!y_15.fst.fst)
                (some (((false, ()), ())))
                (cond (!y_6.snd.fst.fst == y_4.snd.fst.fst)
                 (some (((false, ()), ())))
                 (Option.bind (laws_markRank_fn fuel (y_6.fst.fst, (y_6.fst.snd.fst, ()), ((1 : Int), ()), ())) fun y_18 =>
                  Option.bind (laws_heldRank_fn fuel ((y_18.fst, y_6.fst.snd.fst, ()), ((1 : Int), ()), ())) fun y_19 =>
                   cond (decide (y_19.fst.fst < (0 : Int)))
                    (some (((false, ()), ())))
                    (cond (y_19.fst.fst != y_18.snd.fst.fst)
                     (some (((false, ()), ())))
                     (Option.bind (laws_toRank_fn fuel ((x0, x1, ()), ())) fun y_22 =>
                      Option.bind (impl_RankAdd_fn fuel ((y_22.fst.fst, y_22.fst.snd.fst, ()), (x2, ()), ())) fun y_23 =>
                       Option.bind (laws_eqRank_fn fuel ((y_23.fst.fst, y_23.fst.snd.fst, ()), (y_4.fst.fst, y_4.fst.snd.fst, ()), ())) fun y_24 =>
                        cond (!y_24.fst.fst)
                         (some (((false, ()), ())))
                         (cond (!y_23.snd.fst.fst == y_4.snd.fst.fst)
                          (some (((false, ()), ())))
                          (Option.bind (laws_heldRank_fn fuel ((y_18.fst, y_6.fst.snd.fst, ()), ((1 : Int), ()), ())) fun y_27 =>
                           cond (decide (y_27.fst.fst < (0 : Int)))
                            (some (((false, ()), ())))
                            (cond (y_27.fst.fst != y_18.snd.fst.fst)
                             (some (((false, ()), ())))
                             (some (((true, ()), ())))))))))))))))
def laws_FnExactRankAdd_fn (fuel : Nat) (x : (((List (Int × (Int × Unit))) × (Int × Unit)) × ((Int × Unit) × Unit))) : Option ((Bool × Unit) × Unit) := laws_FnExactRankAdd_pre fuel x.1.1 x.1.2.1 x.2.1.1
theorem laws_FnExactRankAdd_run (fuel : Nat) (x : PsT laws_FnExactRankAdd_ps) : run (laws_FnExactRankAdd_T fuel) 0 fuel laws_FnExactRankAdd_c (env0 (svPs laws_FnExactRankAdd_ps x) 0) [] (endF laws_FnExactRankAdd_rv laws_FnExactRankAdd_rs) = laws_FnExactRankAdd_fn fuel x := by kernel_rfl
def laws_FnExactRankAdd_tf (fuel : Nat) : TF := ⟨laws_FnExactRankAdd_ps, laws_FnExactRankAdd_rs, true, laws_FnExactRankAdd_fn fuel⟩
theorem laws_FnExactRankAdd_spec (fuel : Nat) : FnSpec Try.prog 7 (laws_FnExactRankAdd_tf fuel) :=
  fn_spec (T := laws_FnExactRankAdd_T fuel) (c := bodyOf Try.f7) (fn := Try.f7) (TabOK.of (entCons (laws_szRank_ok fuel) (entCons (laws_toRank_ok fuel) (entCons (laws_eqRank_ok fuel) (entCons (laws_markRank_ok fuel) (entCons (laws_heldRank_ok fuel) (entCons (spec_RankAdd_ok fuel) (entCons (impl_RankAdd_ok fuel) entNil))))))) methNil) mixed (by kernel_rfl) (by kernel_rfl) laws_FnExactRankAdd_l (by kernel_rfl) (Nat.le_of_ble_eq_true (by kernel_rfl)) (rv := laws_FnExactRankAdd_rv) (by kernel_rfl) (laws_FnExactRankAdd_run fuel)
theorem laws_FnExactRankAdd_ok (fuel : Nat) : EntryOK Try.prog 7 (laws_FnExactRankAdd_tf fuel).te := EntryOK.tf rfl (laws_FnExactRankAdd_spec fuel) (isFn (fn := Try.f7) (by kernel_rfl) (by kernel_rfl) (by kernel_rfl))

end Go.Proofs.Ytapicafncjajnaa.Den
