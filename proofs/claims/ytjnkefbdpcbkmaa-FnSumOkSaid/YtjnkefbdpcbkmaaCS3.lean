/- Readings of functions of the sums, as functions on plain data (3). -/
import Derived.Test.YtjnkefbdpcbkmaaCS2
namespace Go.Proofs.Ytjnkefbdpcbkmaa.Den
open Go Go.RowKit
set_option linter.unusedVariables false
set_option linter.unusedSimpArgs false

/-! ### impl_rowAll -/
def impl_rowAll_T (fuel : Nat) : Tab := Tab.of [] []
abbrev impl_rowAll_ps : List Pm := [{ cs := [(Kd.list (Kd.int IntKind.i64), false)], ag := false }]
abbrev impl_rowAll_rs : List Pm := [{ cs := [(Kd.int IntKind.i64, false)], ag := false }, { cs := [(Kd.bool, false)], ag := false }]
def impl_rowAll_ann : List Norm := [{ live := [12, 11, 10, 4], fix := [] }]
noncomputable def impl_rowAll_c : C := irOf Try.prog Try.f63 [] impl_rowAll_ann []
theorem impl_rowAll_l : lightC Try.prog [] Try.f63.ntmps impl_rowAll_ann [] 0 (bodyOf Try.f63) = some (impl_rowAll_c, 1) := by kernel_rfl
def impl_rowAll_rv : List (Nat × Option (Nat × Bool)) := [(2, none), (3, none)]
abbrev impl_rowAll_V0 := (Int) × (Int) × (List Int) × (Int)
def impl_rowAll_enc0 (v : impl_rowAll_V0) : Env × Heap := ([(12, SV.int IntKind.i64 v.1), (11, SV.int IntKind.i64 v.2.1), (10, SV.es (Kd.int IntKind.i64) v.2.2.1), (4, SV.int IntKind.i64 v.2.2.2)], [])
def impl_rowAll_step0 (fuel : Nat) (g0 : impl_rowAll_V0 → Option ((Int × Unit) × ((Bool × Unit) × Unit))) (v : impl_rowAll_V0) : Option ((Int × Unit) × ((Bool × Unit) × Unit)) :=
 cond (decide (v.1 < v.2.1))
 (tst (decide (0 ≤ v.1)) <|
  tst (decide (v.1 < (zz (List.length v.2.2.1)))) <|
  cond (decide (List.getD v.2.2.1 (Int.toNat v.1) 0 < (0 : Int)))
  (some ((((0 : Int), ()), (false, ()), ())))
  (cond (decide (List.getD v.2.2.1 (Int.toNat v.1) 0 > (2000 : Int)))
   (some ((((0 : Int), ()), (false, ()), ())))
   (g0 (w64 (v.1 + (1 : Int)), v.2.1, v.2.2.1, w64 (v.2.2.2 + List.getD v.2.2.1 (Int.toNat v.1) 0)))))
 (some (((v.2.2.2, ()), (decide (v.2.2.2 ≤ (2000 : Int)), ()), ())))
def impl_rowAll_st0 (fuel : Nat) (g0 : impl_rowAll_V0 → Option ((Int × Unit) × ((Bool × Unit) × Unit))) : impl_rowAll_V0 → Option ((Int × Unit) × ((Bool × Unit) × Unit)) := impl_rowAll_step0 fuel g0
theorem impl_rowAll_lp0 (fuel : Nat) (G) : impl_rowAll_c.lp (impl_rowAll_T fuel) 0 fuel G (endF impl_rowAll_rv impl_rowAll_rs) 0 impl_rowAll_enc0 = iter (impl_rowAll_st0 fuel) fuel := C.lp_iter fun g v => by kernel_rfl
def impl_rowAll_pre (fuel : Nat) (X0 : impl_rowAll_V0 → Option ((Int × Unit) × ((Bool × Unit) × Unit))) (x0 : List Int) : Option ((Int × Unit) × ((Bool × Unit) × Unit)) :=
 cond ((zz (List.length x0)) != (8 : Int))
 (some ((((0 : Int), ()), (false, ()), ())))
 (X0 ((0 : Int), (zz (List.length x0)), x0, (0 : Int)))
def impl_rowAll_fn (fuel : Nat) (x : (((List Int) × Unit) × Unit)) : Option ((Int × Unit) × ((Bool × Unit) × Unit)) := impl_rowAll_pre fuel (iter (impl_rowAll_st0 fuel) fuel) x.1.1
theorem impl_rowAll_run (fuel : Nat) (x : PsT impl_rowAll_ps) : run (impl_rowAll_T fuel) 0 fuel impl_rowAll_c (env0 (svPs impl_rowAll_ps x) 0) [] (endF impl_rowAll_rv impl_rowAll_rs) = impl_rowAll_fn fuel x :=
  (show run (impl_rowAll_T fuel) 0 fuel impl_rowAll_c (env0 (svPs impl_rowAll_ps x) 0) [] (endF impl_rowAll_rv impl_rowAll_rs) = impl_rowAll_pre fuel (impl_rowAll_c.lp (impl_rowAll_T fuel) 0 fuel (fun _ _ _ => none) (endF impl_rowAll_rv impl_rowAll_rs) 0 impl_rowAll_enc0) x.1.1 by kernel_rfl).trans (by rw [impl_rowAll_lp0]; rfl)
def impl_rowAll_tf (fuel : Nat) : TF := ⟨impl_rowAll_ps, impl_rowAll_rs, true, impl_rowAll_fn fuel⟩
theorem impl_rowAll_spec (fuel : Nat) : FnSpec Try.prog 63 (impl_rowAll_tf fuel) :=
  fn_spec (T := impl_rowAll_T fuel) (c := bodyOf Try.f63) (fn := Try.f63) (TabOK.of (entNil) (methNil)) mixed (by kernel_rfl) (by kernel_rfl) impl_rowAll_l (by kernel_rfl) (Nat.le_of_ble_eq_true (by kernel_rfl)) (rv := impl_rowAll_rv) (by kernel_rfl) (impl_rowAll_run fuel)
theorem impl_rowAll_ok (fuel : Nat) : EntryOK Try.prog 63 (impl_rowAll_tf fuel).te := EntryOK.tf rfl (impl_rowAll_spec fuel) (isFn (fn := Try.f63) (by kernel_rfl) (by kernel_rfl) (by kernel_rfl))

/-! ### impl_RoughOk -/
def impl_RoughOk_T (fuel : Nat) : Tab := Tab.of [(63, (impl_rowAll_tf fuel).te)] []
abbrev impl_RoughOk_ps : List Pm := [{ cs := [(Kd.list (Kd.list (Kd.int IntKind.i64)), false)], ag := true }]
abbrev impl_RoughOk_rs : List Pm := [{ cs := [(Kd.bool, false)], ag := false }]
def impl_RoughOk_ann : List Norm := [{ live := [24, 23, 22, 3], fix := [] }]
noncomputable def impl_RoughOk_c : C := irOf Try.prog Try.f24 [] impl_RoughOk_ann []
theorem impl_RoughOk_l : lightC Try.prog [] Try.f24.ntmps impl_RoughOk_ann [] 0 (bodyOf Try.f24) = some (impl_RoughOk_c, 1) := by kernel_rfl
def impl_RoughOk_rv : List (Nat × Option (Nat × Bool)) := [(2, none)]
abbrev impl_RoughOk_V0 := (Int) × (Int) × (List (List Int)) × (Int)
def impl_RoughOk_enc0 (v : impl_RoughOk_V0) : Env × Heap := ([(24, SV.int IntKind.i64 v.1), (23, SV.int IntKind.i64 v.2.1), (22, SV.es (Kd.list (Kd.int IntKind.i64)) v.2.2.1), (3, SV.int IntKind.i64 v.2.2.2)], [])
def impl_RoughOk_step0 (fuel : Nat) (g0 : impl_RoughOk_V0 → Option ((Bool × Unit) × Unit)) (v : impl_RoughOk_V0) : Option ((Bool × Unit) × Unit) :=
 cond (decide (v.1 < v.2.1))
 (tst (decide (0 ≤ v.1)) <|
  tst (decide (v.1 < (zz (List.length v.2.2.1)))) <|
  Option.bind (impl_rowAll_fn fuel ((List.getD v.2.2.1 (Int.toNat v.1) [], ()), ())) fun y_2 =>
  cond (!y_2.snd.fst.fst)
   (some (((false, ()), ())))
   (cond (y_2.fst.fst != v.2.2.2)
    (some (((false, ()), ())))
    (g0 (w64 (v.1 + (1 : Int)), v.2.1, v.2.2.1, v.2.2.2))))
 (some (((true, ()), ())))
def impl_RoughOk_st0 (fuel : Nat) (g0 : impl_RoughOk_V0 → Option ((Bool × Unit) × Unit)) : impl_RoughOk_V0 → Option ((Bool × Unit) × Unit) := impl_RoughOk_step0 fuel g0
theorem impl_RoughOk_lp0 (fuel : Nat) (G) : impl_RoughOk_c.lp (impl_RoughOk_T fuel) 0 fuel G (endF impl_RoughOk_rv impl_RoughOk_rs) 0 impl_RoughOk_enc0 = iter (impl_RoughOk_st0 fuel) fuel := C.lp_iter fun g v => by kernel_rfl
def impl_RoughOk_pre (fuel : Nat) (X0 : impl_RoughOk_V0 → Option ((Bool × Unit) × Unit)) (x0 : List (List Int)) : Option ((Bool × Unit) × Unit) :=
 cond ((zz (List.length x0)) != (3 : Int))
 (some (((false, ()), ())))
 (tst (decide ((0 : Int) < (zz (List.length x0)))) <|
  Option.bind (impl_rowAll_fn fuel ((List.getD x0 (Int.toNat (0 : Int)) [], ()), ())) fun y_2 =>
  X0 ((0 : Int), (zz (List.length x0)), x0, y_2.fst.fst))
def impl_RoughOk_fn (fuel : Nat) (x : (((List (List Int)) × Unit) × Unit)) : Option ((Bool × Unit) × Unit) := impl_RoughOk_pre fuel (iter (impl_RoughOk_st0 fuel) fuel) x.1.1
theorem impl_RoughOk_run (fuel : Nat) (x : PsT impl_RoughOk_ps) : run (impl_RoughOk_T fuel) 0 fuel impl_RoughOk_c (env0 (svPs impl_RoughOk_ps x) 0) [] (endF impl_RoughOk_rv impl_RoughOk_rs) = impl_RoughOk_fn fuel x :=
  (show run (impl_RoughOk_T fuel) 0 fuel impl_RoughOk_c (env0 (svPs impl_RoughOk_ps x) 0) [] (endF impl_RoughOk_rv impl_RoughOk_rs) = impl_RoughOk_pre fuel (impl_RoughOk_c.lp (impl_RoughOk_T fuel) 0 fuel (fun _ _ _ => none) (endF impl_RoughOk_rv impl_RoughOk_rs) 0 impl_RoughOk_enc0) x.1.1 by kernel_rfl).trans (by rw [impl_RoughOk_lp0]; rfl)
def impl_RoughOk_tf (fuel : Nat) : TF := ⟨impl_RoughOk_ps, impl_RoughOk_rs, true, impl_RoughOk_fn fuel⟩
theorem impl_RoughOk_spec (fuel : Nat) : FnSpec Try.prog 24 (impl_RoughOk_tf fuel) :=
  fn_spec (T := impl_RoughOk_T fuel) (c := bodyOf Try.f24) (fn := Try.f24) (TabOK.of (entCons (impl_rowAll_ok fuel) entNil) (methNil)) mixed (by kernel_rfl) (by kernel_rfl) impl_RoughOk_l (by kernel_rfl) (Nat.le_of_ble_eq_true (by kernel_rfl)) (rv := impl_RoughOk_rv) (by kernel_rfl) (impl_RoughOk_run fuel)
theorem impl_RoughOk_ok (fuel : Nat) : EntryOK Try.prog 24 (impl_RoughOk_tf fuel).te := EntryOK.tf rfl (impl_RoughOk_spec fuel) (isFn (fn := Try.f24) (by kernel_rfl) (by kernel_rfl) (by kernel_rfl))

/-! ### impl_RoughAll -/
def impl_RoughAll_T (fuel : Nat) : Tab := Tab.of [(24, (impl_RoughOk_tf fuel).te), (63, (impl_rowAll_tf fuel).te)] []
abbrev impl_RoughAll_ps : List Pm := [{ cs := [(Kd.list (Kd.list (Kd.int IntKind.i64)), false)], ag := true }]
abbrev impl_RoughAll_rs : List Pm := [{ cs := [(Kd.int IntKind.i64, false)], ag := false }]
def impl_RoughAll_ann : List Norm := []
noncomputable def impl_RoughAll_c : C := irOf Try.prog Try.f22 [] impl_RoughAll_ann []
theorem impl_RoughAll_l : lightC Try.prog [] Try.f22.ntmps impl_RoughAll_ann [] 0 (bodyOf Try.f22) = some (impl_RoughAll_c, 0) := by kernel_rfl
def impl_RoughAll_rv : List (Nat × Option (Nat × Bool)) := [(2, none)]
def impl_RoughAll_pre (fuel : Nat) (x0 : List (List Int)) : Option ((Int × Unit) × Unit) :=
 Option.bind (impl_RoughOk_fn fuel ((x0, ()), ())) fun y_1 =>
 cond (!y_1.fst.fst)
  (some ((((-1 : Int), ()), ())))
  (tst (decide ((0 : Int) < (zz (List.length x0)))) <|
   Option.bind (impl_rowAll_fn fuel ((List.getD x0 (Int.toNat (0 : Int)) [], ()), ())) fun y_3 =>
   some (((y_3.fst.fst, ()), ())))
def impl_RoughAll_fn (fuel : Nat) (x : (((List (List Int)) × Unit) × Unit)) : Option ((Int × Unit) × Unit) := impl_RoughAll_pre fuel x.1.1
theorem impl_RoughAll_run (fuel : Nat) (x : PsT impl_RoughAll_ps) : run (impl_RoughAll_T fuel) 0 fuel impl_RoughAll_c (env0 (svPs impl_RoughAll_ps x) 0) [] (endF impl_RoughAll_rv impl_RoughAll_rs) = impl_RoughAll_fn fuel x := by kernel_rfl
def impl_RoughAll_tf (fuel : Nat) : TF := ⟨impl_RoughAll_ps, impl_RoughAll_rs, true, impl_RoughAll_fn fuel⟩
theorem impl_RoughAll_spec (fuel : Nat) : FnSpec Try.prog 22 (impl_RoughAll_tf fuel) :=
  fn_spec (T := impl_RoughAll_T fuel) (c := bodyOf Try.f22) (fn := Try.f22) (TabOK.of (entCons (impl_RoughOk_ok fuel) (entCons (impl_rowAll_ok fuel) entNil)) (methNil)) mixed (by kernel_rfl) (by kernel_rfl) impl_RoughAll_l (by kernel_rfl) (Nat.le_of_ble_eq_true (by kernel_rfl)) (rv := impl_RoughAll_rv) (by kernel_rfl) (impl_RoughAll_run fuel)
theorem impl_RoughAll_ok (fuel : Nat) : EntryOK Try.prog 22 (impl_RoughAll_tf fuel).te := EntryOK.tf rfl (impl_RoughAll_spec fuel) (isFn (fn := Try.f22) (by kernel_rfl) (by kernel_rfl) (by kernel_rfl))

/-! ### impl_Sum_ways -/
def impl_Sum_ways_T (fuel : Nat) : Tab := Tab.of [] []
abbrev impl_Sum_ways_ps : Sh := (.agg (.cell (Kd.list (Kd.list (Kd.int IntKind.i64))) 0 (.cell (Kd.list (Kd.int IntKind.i64)) 0 (.cell (Kd.list (Kd.pair (Kd.int IntKind.i64) (Kd.pair (Kd.int IntKind.i64) Kd.unit))) 0 (.cell (Kd.int IntKind.i64) 0 (.cell (Kd.int IntKind.i64) 0 (.cell (Kd.list (Kd.pair (Kd.int IntKind.i64) (Kd.pair (Kd.int IntKind.i64) Kd.unit))) 0 (.cell (Kd.int IntKind.i64) 0 .nil))))))) .nil)
abbrev impl_Sum_ways_rs : Sh := (.agg (.ifc 24 (.agg (.cell (Kd.list (Kd.list (Kd.int IntKind.i64))) 0 .nil) .nil) (.ifc 27 (.agg (.cell (Kd.list (Kd.int IntKind.i64)) 0 .nil) .nil) (.ifc 30 (.agg (.cell (Kd.list (Kd.pair (Kd.int IntKind.i64) (Kd.pair (Kd.int IntKind.i64) Kd.unit))) 0 (.cell (Kd.int IntKind.i64) 0 (.cell (Kd.int IntKind.i64) 0 .nil))) .nil) (.ifc 33 (.agg (.cell (Kd.list (Kd.pair (Kd.int IntKind.i64) (Kd.pair (Kd.int IntKind.i64) Kd.unit))) 0 (.cell (Kd.int IntKind.i64) 0 .nil)) .nil) .nil)))) .nil)
def impl_Sum_ways_ann : List Norm := []
noncomputable def impl_Sum_ways_c : C := irOf Try.prog Try.f60 [] impl_Sum_ways_ann []
theorem impl_Sum_ways_l : lightC Try.prog [] Try.f60.ntmps impl_Sum_ways_ann [] 0 (bodyOf Try.f60) = some (impl_Sum_ways_c, 0) := by kernel_rfl
def impl_Sum_ways_rv : List (Nat × Option (Nat × Bool)) := [(2, some (4, true))]
def impl_Sum_ways_pre (fuel : Nat) (x0 : List (List Int)) (x1 : List Int) (x2 : List (Int × Int × Unit)) (x3 : Int) (x4 : Int) (x5 : List (Int × Int × Unit)) (x6 : Int) : Option (((((List (List Int)) × Unit) × Unit) × ((((List Int) × Unit) × Unit) × ((((List (Int × (Int × Unit))) × (Int × (Int × Unit))) × Unit) × ((((List (Int × (Int × Unit))) × (Int × Unit)) × Unit) × Unit)))) × Unit) :=
 some (((((x0, ()), ()), ((x1, ()), ()), ((x2, x3, x4, ()), ()), ((x5, x6, ()), ()), ()), ()))
def impl_Sum_ways_fn (fuel : Nat) (x : (((List (List Int)) × ((List Int) × ((List (Int × (Int × Unit))) × (Int × (Int × ((List (Int × (Int × Unit))) × (Int × Unit))))))) × Unit)) : Option (((((List (List Int)) × Unit) × Unit) × ((((List Int) × Unit) × Unit) × ((((List (Int × (Int × Unit))) × (Int × (Int × Unit))) × Unit) × ((((List (Int × (Int × Unit))) × (Int × Unit)) × Unit) × Unit)))) × Unit) := impl_Sum_ways_pre fuel x.1.1 x.1.2.1 x.1.2.2.1 x.1.2.2.2.1 x.1.2.2.2.2.1 x.1.2.2.2.2.2.1 x.1.2.2.2.2.2.2.1
theorem impl_Sum_ways_run (fuel : Nat) (x : Sh.T impl_Sum_ways_ps) : run (impl_Sum_ways_T fuel) 0 fuel impl_Sum_ways_c (env0 (svS impl_Sum_ways_ps x) 0) [] (endG impl_Sum_ways_rv impl_Sum_ways_rs) = impl_Sum_ways_fn fuel x := by kernel_rfl
def impl_Sum_ways_tf (fuel : Nat) : TG := ⟨impl_Sum_ways_ps, impl_Sum_ways_rs, false, impl_Sum_ways_fn fuel⟩
theorem impl_Sum_ways_spec (fuel : Nat) : FnSpecG Try.prog 60 (impl_Sum_ways_tf fuel) :=
  fn_specG (T := impl_Sum_ways_T fuel) (c := bodyOf Try.f60) (fn := Try.f60) (TabOK.of (entNil) (methNil)) mixed (by kernel_rfl) (by kernel_rfl) impl_Sum_ways_l (by kernel_rfl) (Nat.le_of_ble_eq_true (by kernel_rfl)) (rv := impl_Sum_ways_rv) (by kernel_rfl) (fun x y h => (impl_Sum_ways_run fuel x).trans h)
theorem impl_Sum_ways_ok (fuel : Nat) : EntryOK Try.prog 60 (impl_Sum_ways_tf fuel).te := EntryOK.tg rfl (impl_Sum_ways_spec fuel) (isFn (fn := Try.f60) (by kernel_rfl) (by kernel_rfl) (by kernel_rfl))

/-! ### impl_Rough_inForm -/
def impl_Rough_inForm_T (fuel : Nat) : Tab := Tab.of [(24, (impl_RoughOk_tf fuel).te)] []
abbrev impl_Rough_inForm_ps : List Pm := [{ cs := [(Kd.list (Kd.list (Kd.int IntKind.i64)), false)], ag := true }]
abbrev impl_Rough_inForm_rs : List Pm := [{ cs := [(Kd.bool, false)], ag := false }]
def impl_Rough_inForm_ann : List Norm := []
noncomputable def impl_Rough_inForm_c : C := irOf Try.prog Try.f141 [] impl_Rough_inForm_ann []
theorem impl_Rough_inForm_l : lightC Try.prog [] Try.f141.ntmps impl_Rough_inForm_ann [] 0 (bodyOf Try.f141) = some (impl_Rough_inForm_c, 0) := by kernel_rfl
def impl_Rough_inForm_rv : List (Nat × Option (Nat × Bool)) := [(2, none)]
def impl_Rough_inForm_pre (fuel : Nat) (x0 : List (List Int)) : Option ((Bool × Unit) × Unit) :=
 Option.bind (impl_RoughOk_fn fuel ((x0, ()), ())) fun y_1 =>
 some (((y_1.fst.fst, ()), ()))
def impl_Rough_inForm_fn (fuel : Nat) (x : (((List (List Int)) × Unit) × Unit)) : Option ((Bool × Unit) × Unit) := impl_Rough_inForm_pre fuel x.1.1
theorem impl_Rough_inForm_run (fuel : Nat) (x : PsT impl_Rough_inForm_ps) : run (impl_Rough_inForm_T fuel) 0 fuel impl_Rough_inForm_c (env0 (svPs impl_Rough_inForm_ps x) 0) [] (endF impl_Rough_inForm_rv impl_Rough_inForm_rs) = impl_Rough_inForm_fn fuel x := by kernel_rfl
def impl_Rough_inForm_tf (fuel : Nat) : TF := ⟨impl_Rough_inForm_ps, impl_Rough_inForm_rs, true, impl_Rough_inForm_fn fuel⟩
theorem impl_Rough_inForm_spec (fuel : Nat) : FnSpec Try.prog 141 (impl_Rough_inForm_tf fuel) :=
  fn_spec (T := impl_Rough_inForm_T fuel) (c := bodyOf Try.f141) (fn := Try.f141) (TabOK.of (entCons (impl_RoughOk_ok fuel) entNil) (methNil)) mixed (by kernel_rfl) (by kernel_rfl) impl_Rough_inForm_l (by kernel_rfl) (Nat.le_of_ble_eq_true (by kernel_rfl)) (rv := impl_Rough_inForm_rv) (by kernel_rfl) (impl_Rough_inForm_run fuel)
theorem impl_Rough_inForm_ok (fuel : Nat) : EntryOK Try.prog 141 (impl_Rough_inForm_tf fuel).te := EntryOK.tf rfl (impl_Rough_inForm_spec fuel) (isFn (fn := Try.f141) (by kernel_rfl) (by kernel_rfl) (by kernel_rfl))

/-! ### impl_FewOk -/
def impl_FewOk_T (fuel : Nat) : Tab := Tab.of [] []
abbrev impl_FewOk_ps : List Pm := [{ cs := [(Kd.list (Kd.int IntKind.i64), false)], ag := true }]
abbrev impl_FewOk_rs : List Pm := [{ cs := [(Kd.bool, false)], ag := false }]
def impl_FewOk_ann : List Norm := [{ live := [13, 12, 11, 3], fix := [] }]
noncomputable def impl_FewOk_c : C := irOf Try.prog Try.f25 [] impl_FewOk_ann []
theorem impl_FewOk_l : lightC Try.prog [] Try.f25.ntmps impl_FewOk_ann [] 0 (bodyOf Try.f25) = some (impl_FewOk_c, 1) := by kernel_rfl
def impl_FewOk_rv : List (Nat × Option (Nat × Bool)) := [(2, none)]
abbrev impl_FewOk_V0 := (Int) × (Int) × (List Int) × (Int)
def impl_FewOk_enc0 (v : impl_FewOk_V0) : Env × Heap := ([(13, SV.int IntKind.i64 v.1), (12, SV.int IntKind.i64 v.2.1), (11, SV.es (Kd.int IntKind.i64) v.2.2.1), (3, SV.int IntKind.i64 v.2.2.2)], [])
def impl_FewOk_step0 (fuel : Nat) (g0 : impl_FewOk_V0 → Option ((Bool × Unit) × Unit)) (v : impl_FewOk_V0) : Option ((Bool × Unit) × Unit) :=
 cond (decide (v.1 < v.2.1))
 (tst (decide (0 ≤ v.1)) <|
  tst (decide (v.1 < (zz (List.length v.2.2.1)))) <|
  cond (decide (List.getD v.2.2.1 (Int.toNat v.1) 0 ≤ v.2.2.2))
  (some (((false, ()), ())))
  (cond (decide (List.getD v.2.2.1 (Int.toNat v.1) 0 ≥ (64 : Int)))
   (some (((false, ()), ())))
   (g0 (w64 (v.1 + (1 : Int)), v.2.1, v.2.2.1, List.getD v.2.2.1 (Int.toNat v.1) 0))))
 (some (((true, ()), ())))
def impl_FewOk_st0 (fuel : Nat) (g0 : impl_FewOk_V0 → Option ((Bool × Unit) × Unit)) : impl_FewOk_V0 → Option ((Bool × Unit) × Unit) := impl_FewOk_step0 fuel g0
theorem impl_FewOk_lp0 (fuel : Nat) (G) : impl_FewOk_c.lp (impl_FewOk_T fuel) 0 fuel G (endF impl_FewOk_rv impl_FewOk_rs) 0 impl_FewOk_enc0 = iter (impl_FewOk_st0 fuel) fuel := C.lp_iter fun g v => by kernel_rfl
def impl_FewOk_pre (fuel : Nat) (X0 : impl_FewOk_V0 → Option ((Bool × Unit) × Unit)) (x0 : List Int) : Option ((Bool × Unit) × Unit) :=
 cond (decide ((zz (List.length x0)) > (6 : Int)))
 (some (((false, ()), ())))
 (X0 ((0 : Int), (zz (List.length x0)), x0, (-1 : Int)))
def impl_FewOk_fn (fuel : Nat) (x : (((List Int) × Unit) × Unit)) : Option ((Bool × Unit) × Unit) := impl_FewOk_pre fuel (iter (impl_FewOk_st0 fuel) fuel) x.1.1
theorem impl_FewOk_run (fuel : Nat) (x : PsT impl_FewOk_ps) : run (impl_FewOk_T fuel) 0 fuel impl_FewOk_c (env0 (svPs impl_FewOk_ps x) 0) [] (endF impl_FewOk_rv impl_FewOk_rs) = impl_FewOk_fn fuel x :=
  (show run (impl_FewOk_T fuel) 0 fuel impl_FewOk_c (env0 (svPs impl_FewOk_ps x) 0) [] (endF impl_FewOk_rv impl_FewOk_rs) = impl_FewOk_pre fuel (impl_FewOk_c.lp (impl_FewOk_T fuel) 0 fuel (fun _ _ _ => none) (endF impl_FewOk_rv impl_FewOk_rs) 0 impl_FewOk_enc0) x.1.1 by kernel_rfl).trans (by rw [impl_FewOk_lp0]; rfl)
def impl_FewOk_tf (fuel : Nat) : TF := ⟨impl_FewOk_ps, impl_FewOk_rs, true, impl_FewOk_fn fuel⟩
theorem impl_FewOk_spec (fuel : Nat) : FnSpec Try.prog 25 (impl_FewOk_tf fuel) :=
  fn_spec (T := impl_FewOk_T fuel) (c := bodyOf Try.f25) (fn := Try.f25) (TabOK.of (entNil) (methNil)) mixed (by kernel_rfl) (by kernel_rfl) impl_FewOk_l (by kernel_rfl) (Nat.le_of_ble_eq_true (by kernel_rfl)) (rv := impl_FewOk_rv) (by kernel_rfl) (impl_FewOk_run fuel)
theorem impl_FewOk_ok (fuel : Nat) : EntryOK Try.prog 25 (impl_FewOk_tf fuel).te := EntryOK.tf rfl (impl_FewOk_spec fuel) (isFn (fn := Try.f25) (by kernel_rfl) (by kernel_rfl) (by kernel_rfl))

/-! ### impl_Few_inForm -/
def impl_Few_inForm_T (fuel : Nat) : Tab := Tab.of [(25, (impl_FewOk_tf fuel).te)] []
abbrev impl_Few_inForm_ps : List Pm := [{ cs := [(Kd.list (Kd.int IntKind.i64), false)], ag := true }]
abbrev impl_Few_inForm_rs : List Pm := [{ cs := [(Kd.bool, false)], ag := false }]
def impl_Few_inForm_ann : List Norm := []
noncomputable def impl_Few_inForm_c : C := irOf Try.prog Try.f142 [] impl_Few_inForm_ann []
theorem impl_Few_inForm_l : lightC Try.prog [] Try.f142.ntmps impl_Few_inForm_ann [] 0 (bodyOf Try.f142) = some (impl_Few_inForm_c, 0) := by kernel_rfl
def impl_Few_inForm_rv : List (Nat × Option (Nat × Bool)) := [(2, none)]
def impl_Few_inForm_pre (fuel : Nat) (x0 : List Int) : Option ((Bool × Unit) × Unit) :=
 Option.bind (impl_FewOk_fn fuel ((x0, ()), ())) fun y_1 =>
 some (((y_1.fst.fst, ()), ()))
def impl_Few_inForm_fn (fuel : Nat) (x : (((List Int) × Unit) × Unit)) : Option ((Bool × Unit) × Unit) := impl_Few_inForm_pre fuel x.1.1
theorem impl_Few_inForm_run (fuel : Nat) (x : PsT impl_Few_inForm_ps) : run (impl_Few_inForm_T fuel) 0 fuel impl_Few_inForm_c (env0 (svPs impl_Few_inForm_ps x) 0) [] (endF impl_Few_inForm_rv impl_Few_inForm_rs) = impl_Few_inForm_fn fuel x := by kernel_rfl
def impl_Few_inForm_tf (fuel : Nat) : TF := ⟨impl_Few_inForm_ps, impl_Few_inForm_rs, true, impl_Few_inForm_fn fuel⟩
theorem impl_Few_inForm_spec (fuel : Nat) : FnSpec Try.prog 142 (impl_Few_inForm_tf fuel) :=
  fn_spec (T := impl_Few_inForm_T fuel) (c := bodyOf Try.f142) (fn := Try.f142) (TabOK.of (entCons (impl_FewOk_ok fuel) entNil) (methNil)) mixed (by kernel_rfl) (by kernel_rfl) impl_Few_inForm_l (by kernel_rfl) (Nat.le_of_ble_eq_true (by kernel_rfl)) (rv := impl_Few_inForm_rv) (by kernel_rfl) (impl_Few_inForm_run fuel)
theorem impl_Few_inForm_ok (fuel : Nat) : EntryOK Try.prog 142 (impl_Few_inForm_tf fuel).te := EntryOK.tf rfl (impl_Few_inForm_spec fuel) (isFn (fn := Try.f142) (by kernel_rfl) (by kernel_rfl) (by kernel_rfl))

/-! ### impl_TopOk -/
def impl_TopOk_T (fuel : Nat) : Tab := Tab.of [] []
abbrev impl_TopOk_ps : List Pm := [{ cs := [(Kd.list (Kd.pair (Kd.int IntKind.i64) (Kd.pair (Kd.int IntKind.i64) Kd.unit)), false), (Kd.int IntKind.i64, false), (Kd.int IntKind.i64, false)], ag := true }]
abbrev impl_TopOk_rs : List Pm := [{ cs := [(Kd.bool, false)], ag := false }]
def impl_TopOk_ann : List Norm := [{ live := [37, 36, 35, 4, 3, 1], fix := [] }]
noncomputable def impl_TopOk_c : C := irOf Try.prog Try.f26 [] impl_TopOk_ann []
theorem impl_TopOk_l : lightC Try.prog [] Try.f26.ntmps impl_TopOk_ann [] 0 (bodyOf Try.f26) = some (impl_TopOk_c, 1) := by kernel_rfl
def impl_TopOk_rv : List (Nat × Option (Nat × Bool)) := [(2, none)]
abbrev impl_TopOk_V0 := (Int) × (Int) × (List (Int × Int × Unit)) × (Int) × (Int) × (List (Int × Int × Unit)) × (Int) × (Int)
def impl_TopOk_enc0 (v : impl_TopOk_V0) : Env × Heap := ([(37, SV.int IntKind.i64 v.1), (36, SV.int IntKind.i64 v.2.1), (35, SV.es (Kd.pair (Kd.int IntKind.i64) (Kd.pair (Kd.int IntKind.i64) Kd.unit)) v.2.2.1), (4, SV.int IntKind.i64 v.2.2.2.1), (3, SV.int IntKind.i64 v.2.2.2.2.1), (1, SV.ptr 0 0)], [Blk.cells [SV.es (Kd.pair (Kd.int IntKind.i64) (Kd.pair (Kd.int IntKind.i64) Kd.unit)) v.2.2.2.2.2.1, SV.int IntKind.i64 v.2.2.2.2.2.2.1, SV.int IntKind.i64 v.2.2.2.2.2.2.2] 0 3])
def impl_TopOk_step0 (fuel : Nat) (g0 : impl_TopOk_V0 → Option ((Bool × Unit) × Unit)) (v : impl_TopOk_V0) : Option ((Bool × Unit) × Unit) :=
 cond (decide (v.1 < v.2.1))
 (tst (decide (0 ≤ v.1)) <|
  tst (decide (v.1 < (zz (List.length v.2.2.1)))) <|
  cond (decide ((List.getD v.2.2.1 (Int.toNat v.1) (0, (0, ()))).fst ≤ v.2.2.2.1))
  (some (((false, ()), ())))
  (cond (decide ((List.getD v.2.2.1 (Int.toNat v.1) (0, (0, ()))).fst ≥ (64 : Int)))
   (some (((false, ()), ())))
   (cond (decide ((List.getD v.2.2.1 (Int.toNat v.1) (0, (0, ()))).snd.fst < (1 : Int)))
    (some (((false, ()), ())))
    (cond (decide ((List.getD v.2.2.1 (Int.toNat v.1) (0, (0, ()))).snd.fst > (2000 : Int)))
     (some (((false, ()), ())))
     (g0 (w64 (v.1 + (1 : Int)), v.2.1, v.2.2.1, (List.getD v.2.2.1 (Int.toNat v.1) (0, (0, ()))).fst, w64 (v.2.2.2.2.1 + (List.getD v.2.2.1 (Int.toNat v.1) (0, (0, ()))).snd.fst), v.2.2.2.2.2.1, v.2.2.2.2.2.2.1, v.2.2.2.2.2.2.2))))))
 (some (((decide (v.2.2.2.2.1 ≤ v.2.2.2.2.2.2.2), ()), ())))
def impl_TopOk_st0 (fuel : Nat) (g0 : impl_TopOk_V0 → Option ((Bool × Unit) × Unit)) : impl_TopOk_V0 → Option ((Bool × Unit) × Unit) := impl_TopOk_step0 fuel g0
theorem impl_TopOk_lp0 (fuel : Nat) (G) : impl_TopOk_c.lp (impl_TopOk_T fuel) 0 fuel G (endF impl_TopOk_rv impl_TopOk_rs) 0 impl_TopOk_enc0 = iter (impl_TopOk_st0 fuel) fuel := C.lp_iter fun g v => by kernel_rfl
def impl_TopOk_pre (fuel : Nat) (X0 : impl_TopOk_V0 → Option ((Bool × Unit) × Unit)) (x0 : List (Int × Int × Unit)) (x1 : Int) (x2 : Int) : Option ((Bool × Unit) × Unit) :=
 cond (decide ((zz (List.length x0)) > (4 : Int)))
 (some (((false, ()), ())))
 (cond (decide (x1 < (0 : Int)))
  (some (((false, ()), ())))
  (cond (decide (x1 > (2000 : Int)))
   (some (((false, ()), ())))
   (cond (decide (x2 < (0 : Int)))
    (some (((false, ()), ())))
    (cond (decide (x2 > (2000 : Int)))
     (some (((false, ()), ())))
     (X0 ((0 : Int), (zz (List.length x0)), x0, (-1 : Int), w64 (x1 * (5 : Int)), x0, x1, x2))))))
def impl_TopOk_fn (fuel : Nat) (x : (((List (Int × (Int × Unit))) × (Int × (Int × Unit))) × Unit)) : Option ((Bool × Unit) × Unit) := impl_TopOk_pre fuel (iter (impl_TopOk_st0 fuel) fuel) x.1.1 x.1.2.1 x.1.2.2.1
theorem impl_TopOk_run (fuel : Nat) (x : PsT impl_TopOk_ps) : run (impl_TopOk_T fuel) 0 fuel impl_TopOk_c (env0 (svPs impl_TopOk_ps x) 0) [] (endF impl_TopOk_rv impl_TopOk_rs) = impl_TopOk_fn fuel x :=
  (show run (impl_TopOk_T fuel) 0 fuel impl_TopOk_c (env0 (svPs impl_TopOk_ps x) 0) [] (endF impl_TopOk_rv impl_TopOk_rs) = impl_TopOk_pre fuel (impl_TopOk_c.lp (impl_TopOk_T fuel) 0 fuel (fun _ _ _ => none) (endF impl_TopOk_rv impl_TopOk_rs) 0 impl_TopOk_enc0) x.1.1 x.1.2.1 x.1.2.2.1 by kernel_rfl).trans (by rw [impl_TopOk_lp0]; rfl)
def impl_TopOk_tf (fuel : Nat) : TF := ⟨impl_TopOk_ps, impl_TopOk_rs, true, impl_TopOk_fn fuel⟩
theorem impl_TopOk_spec (fuel : Nat) : FnSpec Try.prog 26 (impl_TopOk_tf fuel) :=
  fn_spec (T := impl_TopOk_T fuel) (c := bodyOf Try.f26) (fn := Try.f26) (TabOK.of (entNil) (methNil)) mixed (by kernel_rfl) (by kernel_rfl) impl_TopOk_l (by kernel_rfl) (Nat.le_of_ble_eq_true (by kernel_rfl)) (rv := impl_TopOk_rv) (by kernel_rfl) (impl_TopOk_run fuel)
theorem impl_TopOk_ok (fuel : Nat) : EntryOK Try.prog 26 (impl_TopOk_tf fuel).te := EntryOK.tf rfl (impl_TopOk_spec fuel) (isFn (fn := Try.f26) (by kernel_rfl) (by kernel_rfl) (by kernel_rfl))

/-! ### impl_Top_inForm -/
def impl_Top_inForm_T (fuel : Nat) : Tab := Tab.of [(26, (impl_TopOk_tf fuel).te)] []
abbrev impl_Top_inForm_ps : List Pm := [{ cs := [(Kd.list (Kd.pair (Kd.int IntKind.i64) (Kd.pair (Kd.int IntKind.i64) Kd.unit)), false), (Kd.int IntKind.i64, false), (Kd.int IntKind.i64, false)], ag := true }]
abbrev impl_Top_inForm_rs : List Pm := [{ cs := [(Kd.bool, false)], ag := false }]
def impl_Top_inForm_ann : List Norm := []
noncomputable def impl_Top_inForm_c : C := irOf Try.prog Try.f143 [] impl_Top_inForm_ann []
theorem impl_Top_inForm_l : lightC Try.prog [] Try.f143.ntmps impl_Top_inForm_ann [] 0 (bodyOf Try.f143) = some (impl_Top_inForm_c, 0) := by kernel_rfl
def impl_Top_inForm_rv : List (Nat × Option (Nat × Bool)) := [(2, none)]
def impl_Top_inForm_pre (fuel : Nat) (x0 : List (Int × Int × Unit)) (x1 : Int) (x2 : Int) : Option ((Bool × Unit) × Unit) :=
 Option.bind (impl_TopOk_fn fuel ((x0, x1, x2, ()), ())) fun y_1 =>
 some (((y_1.fst.fst, ()), ()))
def impl_Top_inForm_fn (fuel : Nat) (x : (((List (Int × (Int × Unit))) × (Int × (Int × Unit))) × Unit)) : Option ((Bool × Unit) × Unit) := impl_Top_inForm_pre fuel x.1.1 x.1.2.1 x.1.2.2.1
theorem impl_Top_inForm_run (fuel : Nat) (x : PsT impl_Top_inForm_ps) : run (impl_Top_inForm_T fuel) 0 fuel impl_Top_inForm_c (env0 (svPs impl_Top_inForm_ps x) 0) [] (endF impl_Top_inForm_rv impl_Top_inForm_rs) = impl_Top_inForm_fn fuel x := by kernel_rfl
def impl_Top_inForm_tf (fuel : Nat) : TF := ⟨impl_Top_inForm_ps, impl_Top_inForm_rs, true, impl_Top_inForm_fn fuel⟩
theorem impl_Top_inForm_spec (fuel : Nat) : FnSpec Try.prog 143 (impl_Top_inForm_tf fuel) :=
  fn_spec (T := impl_Top_inForm_T fuel) (c := bodyOf Try.f143) (fn := Try.f143) (TabOK.of (entCons (impl_TopOk_ok fuel) entNil) (methNil)) mixed (by kernel_rfl) (by kernel_rfl) impl_Top_inForm_l (by kernel_rfl) (Nat.le_of_ble_eq_true (by kernel_rfl)) (rv := impl_Top_inForm_rv) (by kernel_rfl) (impl_Top_inForm_run fuel)
theorem impl_Top_inForm_ok (fuel : Nat) : EntryOK Try.prog 143 (impl_Top_inForm_tf fuel).te := EntryOK.tf rfl (impl_Top_inForm_spec fuel) (isFn (fn := Try.f143) (by kernel_rfl) (by kernel_rfl) (by kernel_rfl))

/-! ### impl_Rank_inForm -/
def impl_Rank_inForm_T (fuel : Nat) : Tab := Tab.of [(27, (impl_RankOk_tf fuel).te)] []
abbrev impl_Rank_inForm_ps : List Pm := [{ cs := [(Kd.list (Kd.pair (Kd.int IntKind.i64) (Kd.pair (Kd.int IntKind.i64) Kd.unit)), false), (Kd.int IntKind.i64, false)], ag := true }]
abbrev impl_Rank_inForm_rs : List Pm := [{ cs := [(Kd.bool, false)], ag := false }]
def impl_Rank_inForm_ann : List Norm := []
noncomputable def impl_Rank_inForm_c : C := irOf Try.prog Try.f144 [] impl_Rank_inForm_ann []
theorem impl_Rank_inForm_l : lightC Try.prog [] Try.f144.ntmps impl_Rank_inForm_ann [] 0 (bodyOf Try.f144) = some (impl_Rank_inForm_c, 0) := by kernel_rfl
def impl_Rank_inForm_rv : List (Nat × Option (Nat × Bool)) := [(2, none)]
def impl_Rank_inForm_pre (fuel : Nat) (x0 : List (Int × Int × Unit)) (x1 : Int) : Option ((Bool × Unit) × Unit) :=
 Option.bind (impl_RankOk_fn fuel ((x0, x1, ()), ())) fun y_1 =>
 some (((y_1.fst.fst, ()), ()))
def impl_Rank_inForm_fn (fuel : Nat) (x : (((List (Int × (Int × Unit))) × (Int × Unit)) × Unit)) : Option ((Bool × Unit) × Unit) := impl_Rank_inForm_pre fuel x.1.1 x.1.2.1
theorem impl_Rank_inForm_run (fuel : Nat) (x : PsT impl_Rank_inForm_ps) : run (impl_Rank_inForm_T fuel) 0 fuel impl_Rank_inForm_c (env0 (svPs impl_Rank_inForm_ps x) 0) [] (endF impl_Rank_inForm_rv impl_Rank_inForm_rs) = impl_Rank_inForm_fn fuel x := by kernel_rfl
def impl_Rank_inForm_tf (fuel : Nat) : TF := ⟨impl_Rank_inForm_ps, impl_Rank_inForm_rs, true, impl_Rank_inForm_fn fuel⟩
theorem impl_Rank_inForm_spec (fuel : Nat) : FnSpec Try.prog 144 (impl_Rank_inForm_tf fuel) :=
  fn_spec (T := impl_Rank_inForm_T fuel) (c := bodyOf Try.f144) (fn := Try.f144) (TabOK.of (entCons (impl_RankOk_ok fuel) entNil) (methNil)) mixed (by kernel_rfl) (by kernel_rfl) impl_Rank_inForm_l (by kernel_rfl) (Nat.le_of_ble_eq_true (by kernel_rfl)) (rv := impl_Rank_inForm_rv) (by kernel_rfl) (impl_Rank_inForm_run fuel)
theorem impl_Rank_inForm_ok (fuel : Nat) : EntryOK Try.prog 144 (impl_Rank_inForm_tf fuel).te := EntryOK.tf rfl (impl_Rank_inForm_spec fuel) (isFn (fn := Try.f144) (by kernel_rfl) (by kernel_rfl) (by kernel_rfl))

/-! ### impl_SumOk -/
def impl_SumOk_T (fuel : Nat) : Tab := Tab.of [(22, (impl_RoughAll_tf fuel).te), (60, (impl_Sum_ways_tf fuel).te), (141, (impl_Rough_inForm_tf fuel).te), (142, (impl_Few_inForm_tf fuel).te), (143, (impl_Top_inForm_tf fuel).te), (144, (impl_Rank_inForm_tf fuel).te)] [(24, "loop.example/inkling/impl.inForm", 141), (27, "loop.example/inkling/impl.inForm", 142), (30, "loop.example/inkling/impl.inForm", 143), (33, "loop.example/inkling/impl.inForm", 144)]
abbrev impl_SumOk_ps : List Pm := [{ cs := [(Kd.list (Kd.list (Kd.int IntKind.i64)), false), (Kd.list (Kd.int IntKind.i64), false), (Kd.list (Kd.pair (Kd.int IntKind.i64) (Kd.pair (Kd.int IntKind.i64) Kd.unit)), false), (Kd.int IntKind.i64, false), (Kd.int IntKind.i64, false), (Kd.list (Kd.pair (Kd.int IntKind.i64) (Kd.pair (Kd.int IntKind.i64) Kd.unit)), false), (Kd.int IntKind.i64, false)], ag := true }]
abbrev impl_SumOk_rs : List Pm := [{ cs := [(Kd.bool, false)], ag := false }]
def impl_SumOk_ann : List Norm := [{ live := [8, 7, 1], fix := [] }]
noncomputable def impl_SumOk_c : C := irOf Try.prog Try.f18 [] impl_SumOk_ann []
theorem impl_SumOk_l : lightC Try.prog [] Try.f18.ntmps impl_SumOk_ann [] 0 (bodyOf Try.f18) = some (impl_SumOk_c, 1) := by kernel_rfl
def impl_SumOk_rv : List (Nat × Option (Nat × Bool)) := [(2, none)]
def impl_SumOk_pre (fuel : Nat) (x0 : List (List Int)) (x1 : List Int) (x2 : List (Int × Int × Unit)) (x3 : Int) (x4 : Int) (x5 : List (Int × Int × Unit)) (x6 : Int) : Option ((Bool × Unit) × Unit) :=
 Option.bind (impl_Sum_ways_fn fuel ((x0, x1, x2, x3, x4, x5, x6, ()), ())) fun y_1 =>
 Option.bind (impl_Rough_inForm_fn fuel ((y_1.fst.fst.fst.fst, ()), ())) fun y_2 =>
  cond (!y_2.fst.fst)
   (some (((false, ()), ())))
   (Option.bind (impl_Few_inForm_fn fuel ((y_1.fst.snd.fst.fst.fst, ()), ())) fun y_4 =>
    cond (!y_4.fst.fst)
     (some (((false, ()), ())))
     (Option.bind (impl_Top_inForm_fn fuel ((y_1.fst.snd.snd.fst.fst.fst, y_1.fst.snd.snd.fst.fst.snd.fst, y_1.fst.snd.snd.fst.fst.snd.snd.fst, ()), ())) fun y_6 =>
      cond (!y_6.fst.fst)
       (some (((false, ()), ())))
       (Option.bind (impl_Rank_inForm_fn fuel ((y_1.fst.snd.snd.snd.fst.fst.fst, y_1.fst.snd.snd.snd.fst.fst.snd.fst, ()), ())) fun y_8 =>
        cond (!y_8.fst.fst)
         (some (((false, ()), ())))
         (Option.bind (impl_RoughAll_fn fuel ((x0, ()), ())) fun y_10 =>
          cond (x4 == y_10.fst.fst)
           (cond (x6 == y_10.fst.fst)
            (some (((decide ((zz (List.length x1)) > (0 : Int)) == decide (y_10.fst.fst > (0 : Int)), ()), ())))
            (some (((false, ()), ()))))
           (some (((false, ()), ())))))))
def impl_SumOk_fn (fuel : Nat) (x : (((List (List Int)) × ((List Int) × ((List (Int × (Int × Unit))) × (Int × (Int × ((List (Int × (Int × Unit))) × (Int × Unit))))))) × Unit)) : Option ((Bool × Unit) × Unit) := impl_SumOk_pre fuel x.1.1 x.1.2.1 x.1.2.2.1 x.1.2.2.2.1 x.1.2.2.2.2.1 x.1.2.2.2.2.2.1 x.1.2.2.2.2.2.2.1
theorem impl_SumOk_run (fuel : Nat) (x : PsT impl_SumOk_ps) : run (impl_SumOk_T fuel) 0 (fuel + 6) impl_SumOk_c (env0 (svPs impl_SumOk_ps x) 0) [] (endF impl_SumOk_rv impl_SumOk_rs) = impl_SumOk_fn fuel x := by kernel_rfl
def impl_SumOk_tf (fuel : Nat) : TF := ⟨impl_SumOk_ps, impl_SumOk_rs, true, impl_SumOk_fn fuel⟩
theorem impl_SumOk_spec (fuel : Nat) : FnSpec Try.prog 18 (impl_SumOk_tf fuel) :=
  fn_spec (T := impl_SumOk_T fuel) (c := bodyOf Try.f18) (fn := Try.f18) (TabOK.of (entCons (impl_RoughAll_ok fuel) (entCons (impl_Sum_ways_ok fuel) (entCons (impl_Rough_inForm_ok fuel) (entCons (impl_Few_inForm_ok fuel) (entCons (impl_Top_inForm_ok fuel) (entCons (impl_Rank_inForm_ok fuel) entNil)))))) (methCons (fun v args w => by kernel_rfl) (methCons (fun v args w => by kernel_rfl) (methCons (fun v args w => by kernel_rfl) (methCons (fun v args w => by kernel_rfl) (methNil)))))) mixed (by kernel_rfl) (by kernel_rfl) impl_SumOk_l (by kernel_rfl) (Nat.le_of_ble_eq_true (by kernel_rfl)) (rv := impl_SumOk_rv) (by kernel_rfl) (impl_SumOk_run fuel)
theorem impl_SumOk_ok (fuel : Nat) : EntryOK Try.prog 18 (impl_SumOk_tf fuel).te := EntryOK.tf rfl (impl_SumOk_spec fuel) (isFn (fn := Try.f18) (by kernel_rfl) (by kernel_rfl) (by kernel_rfl))

/-! ### laws_FnExactSumOk -/
def laws_FnExactSumOk_T (fuel : Nat) : Tab := Tab.of [(12, (laws_eqSum_tf fuel).te), (15, (laws_szSum_tf fuel).te), (16, (spec_SumOk_tf fuel).te), (17, (laws_toSum_tf fuel).te), (18, (impl_SumOk_tf fuel).te)] []
abbrev laws_FnExactSumOk_ps : List Pm := [{ cs := [(Kd.list (Kd.list (Kd.int IntKind.i64)), false), (Kd.list (Kd.int IntKind.i64), false), (Kd.list (Kd.pair (Kd.int IntKind.i64) (Kd.pair (Kd.int IntKind.i64) Kd.unit)), false), (Kd.int IntKind.i64, false), (Kd.int IntKind.i64, false), (Kd.list (Kd.pair (Kd.int IntKind.i64) (Kd.pair (Kd.int IntKind.i64) Kd.unit)), false), (Kd.int IntKind.i64, false)], ag := true }]
abbrev laws_FnExactSumOk_rs : List Pm := [{ cs := [(Kd.bool, false)], ag := false }]
def laws_FnExactSumOk_ann : List Norm := []
noncomputable def laws_FnExactSumOk_c : C := irOf Try.prog Try.f4 [] laws_FnExactSumOk_ann []
theorem laws_FnExactSumOk_l : lightC Try.prog [] Try.f4.ntmps laws_FnExactSumOk_ann [] 0 (bodyOf Try.f4) = some (laws_FnExactSumOk_c, 0) := by kernel_rfl
def laws_FnExactSumOk_rv : List (Nat × Option (Nat × Bool)) := [(2, none)]
def laws_FnExactSumOk_pre (fuel : Nat) (x0 : List (List Int)) (x1 : List Int) (x2 : List (Int × Int × Unit)) (x3 : Int) (x4 : Int) (x5 : List (Int × Int × Unit)) (x6 : Int) : Option ((Bool × Unit) × Unit) :=
 Option.bind (laws_szSum_fn fuel ((x0, x1, x2, x3, x4, x5, x6, ()), ((1048576 : Int), ()), ())) fun y_1 =>
 cond (decide (y_1.fst.fst < (0 : Int)))
  (some (((true, ()), ())))
  (Option.bind (laws_toSum_fn fuel ((x0, x1, x2, x3, x4, x5, x6, ()), ())) fun y_3 =>
   Option.bind (spec_SumOk_fn fuel ((y_3.fst.fst, y_3.fst.snd.fst, y_3.fst.snd.snd.fst, y_3.fst.snd.snd.snd.fst, y_3.fst.snd.snd.snd.snd.fst, y_3.fst.snd.snd.snd.snd.snd.fst, y_3.fst.snd.snd.snd.snd.snd.snd.fst, ()), ())) fun y_4 =>
    Option.bind (laws_toSum_fn fuel ((x0, x1, x2, x3, x4, x5, x6, ()), ())) fun y_5 =>
     Option.bind (impl_SumOk_fn fuel ((y_5.fst.fst, y_5.fst.snd.fst, y_5.fst.snd.snd.fst, y_5.fst.snd.snd.snd.fst, y_5.fst.snd.snd.snd.snd.fst, y_5.fst.snd.snd.snd.snd.snd.fst, y_5.fst.snd.snd.snd.snd.snd.snd.fst, ()), ())) fun y_6 =>
      cond (!y_6.fst.fst == y_4.fst.fst)
       (some (((false, ()), ())))
       (Option.bind (laws_toSum_fn fuel ((x0, x1, x2, x3, x4, x5, x6, ()), ())) fun y_8 =>
        Option.bind (laws_eqSum_fn fuel ((y_5.fst.fst, y_5.fst.snd.fst, y_5.fst.snd.snd.fst, y_5.fst.snd.snd.snd.fst, y_5.fst.snd.snd.snd.snd.fst, y_5.fst.snd.snd.snd.snd.snd.fst, y_5.fst.snd.snd.snd.snd.snd.snd.fst, ()), (y_8.fst.fst, y_8.fst.snd.fst, y_8.fst.snd.snd.fst, y_8.fst.snd.snd.snd.fst, y_8.fst.snd.snd.snd.snd.fst, y_8.fst.snd.snd.snd.snd.snd.fst, y_8.fst.snd.snd.snd.snd.snd.snd.fst, ()), ())) fun y_9 =>
         cond (!y_9.fst.fst)
          (some (((false, ()), ())))
          (some (((true, ()), ())))))
def laws_FnExactSumOk_fn (fuel : Nat) (x : (((List (List Int)) × ((List Int) × ((List (Int × (Int × Unit))) × (Int × (Int × ((List (Int × (Int × Unit))) × (Int × Unit))))))) × Unit)) : Option ((Bool × Unit) × Unit) := laws_FnExactSumOk_pre fuel x.1.1 x.1.2.1 x.1.2.2.1 x.1.2.2.2.1 x.1.2.2.2.2.1 x.1.2.2.2.2.2.1 x.1.2.2.2.2.2.2.1
theorem laws_FnExactSumOk_run (fuel : Nat) (x : PsT laws_FnExactSumOk_ps) : run (laws_FnExactSumOk_T fuel) 0 fuel laws_FnExactSumOk_c (env0 (svPs laws_FnExactSumOk_ps x) 0) [] (endF laws_FnExactSumOk_rv laws_FnExactSumOk_rs) = laws_FnExactSumOk_fn fuel x := by kernel_rfl
def laws_FnExactSumOk_tf (fuel : Nat) : TF := ⟨laws_FnExactSumOk_ps, laws_FnExactSumOk_rs, true, laws_FnExactSumOk_fn fuel⟩
theorem laws_FnExactSumOk_spec (fuel : Nat) : FnSpec Try.prog 4 (laws_FnExactSumOk_tf fuel) :=
  fn_spec (T := laws_FnExactSumOk_T fuel) (c := bodyOf Try.f4) (fn := Try.f4) (TabOK.of (entCons (laws_eqSum_ok fuel) (entCons (laws_szSum_ok fuel) (entCons (spec_SumOk_ok fuel) (entCons (laws_toSum_ok fuel) (entCons (impl_SumOk_ok fuel) entNil))))) (methNil)) mixed (by kernel_rfl) (by kernel_rfl) laws_FnExactSumOk_l (by kernel_rfl) (Nat.le_of_ble_eq_true (by kernel_rfl)) (rv := laws_FnExactSumOk_rv) (by kernel_rfl) (laws_FnExactSumOk_run fuel)
theorem laws_FnExactSumOk_ok (fuel : Nat) : EntryOK Try.prog 4 (laws_FnExactSumOk_tf fuel).te := EntryOK.tf rfl (laws_FnExactSumOk_spec fuel) (isFn (fn := Try.f4) (by kernel_rfl) (by kernel_rfl) (by kernel_rfl))

/-! ### spec_SumAll -/
def spec_SumAll_T (fuel : Nat) : Tab := Tab.of [(16, (spec_SumOk_tf fuel).te)] []
abbrev spec_SumAll_ps : List Pm := [{ cs := [(Kd.list (Kd.list (Kd.int IntKind.i64)), false), (Kd.list (Kd.int IntKind.i64), false), (Kd.list (Kd.pair (Kd.int IntKind.i64) (Kd.pair (Kd.int IntKind.i64) Kd.unit)), false), (Kd.int IntKind.i64, false), (Kd.int IntKind.i64, false), (Kd.list (Kd.pair (Kd.int IntKind.i64) (Kd.pair (Kd.int IntKind.i64) Kd.unit)), false), (Kd.int IntKind.i64, false)], ag := true }]
abbrev spec_SumAll_rs : List Pm := [{ cs := [(Kd.int IntKind.i64, false)], ag := false }]
def spec_SumAll_ann : List Norm := []
noncomputable def spec_SumAll_c : C := irOf Try.prog Try.f19 [] spec_SumAll_ann []
theorem spec_SumAll_l : lightC Try.prog [] Try.f19.ntmps spec_SumAll_ann [] 0 (bodyOf Try.f19) = some (spec_SumAll_c, 0) := by kernel_rfl
def spec_SumAll_rv : List (Nat × Option (Nat × Bool)) := [(2, none)]
def spec_SumAll_pre (fuel : Nat) (x0 : List (List Int)) (x1 : List Int) (x2 : List (Int × Int × Unit)) (x3 : Int) (x4 : Int) (x5 : List (Int × Int × Unit)) (x6 : Int) : Option ((Int × Unit) × Unit) :=
 Option.bind (spec_SumOk_fn fuel ((x0, x1, x2, x3, x4, x5, x6, ()), ())) fun y_1 =>
 cond (!y_1.fst.fst)
  (some ((((-1 : Int), ()), ())))
  (some (((x4, ()), ())))
def spec_SumAll_fn (fuel : Nat) (x : (((List (List Int)) × ((List Int) × ((List (Int × (Int × Unit))) × (Int × (Int × ((List (Int × (Int × Unit))) × (Int × Unit))))))) × Unit)) : Option ((Int × Unit) × Unit) := spec_SumAll_pre fuel x.1.1 x.1.2.1 x.1.2.2.1 x.1.2.2.2.1 x.1.2.2.2.2.1 x.1.2.2.2.2.2.1 x.1.2.2.2.2.2.2.1
theorem spec_SumAll_run (fuel : Nat) (x : PsT spec_SumAll_ps) : run (spec_SumAll_T fuel) 0 fuel spec_SumAll_c (env0 (svPs spec_SumAll_ps x) 0) [] (endF spec_SumAll_rv spec_SumAll_rs) = spec_SumAll_fn fuel x := by kernel_rfl
def spec_SumAll_tf (fuel : Nat) : TF := ⟨spec_SumAll_ps, spec_SumAll_rs, true, spec_SumAll_fn fuel⟩
theorem spec_SumAll_spec (fuel : Nat) : FnSpec Try.prog 19 (spec_SumAll_tf fuel) :=
  fn_spec (T := spec_SumAll_T fuel) (c := bodyOf Try.f19) (fn := Try.f19) (TabOK.of (entCons (spec_SumOk_ok fuel) entNil) (methNil)) mixed (by kernel_rfl) (by kernel_rfl) spec_SumAll_l (by kernel_rfl) (Nat.le_of_ble_eq_true (by kernel_rfl)) (rv := spec_SumAll_rv) (by kernel_rfl) (spec_SumAll_run fuel)
theorem spec_SumAll_ok (fuel : Nat) : EntryOK Try.prog 19 (spec_SumAll_tf fuel).te := EntryOK.tf rfl (spec_SumAll_spec fuel) (isFn (fn := Try.f19) (by kernel_rfl) (by kernel_rfl) (by kernel_rfl))

/-! ### impl_SumAll -/
def impl_SumAll_T (fuel : Nat) : Tab := Tab.of [(18, (impl_SumOk_tf fuel).te), (22, (impl_RoughAll_tf fuel).te)] []
abbrev impl_SumAll_ps : List Pm := [{ cs := [(Kd.list (Kd.list (Kd.int IntKind.i64)), false), (Kd.list (Kd.int IntKind.i64), false), (Kd.list (Kd.pair (Kd.int IntKind.i64) (Kd.pair (Kd.int IntKind.i64) Kd.unit)), false), (Kd.int IntKind.i64, false), (Kd.int IntKind.i64, false), (Kd.list (Kd.pair (Kd.int IntKind.i64) (Kd.pair (Kd.int IntKind.i64) Kd.unit)), false), (Kd.int IntKind.i64, false)], ag := true }]
abbrev impl_SumAll_rs : List Pm := [{ cs := [(Kd.int IntKind.i64, false)], ag := false }]
def impl_SumAll_ann : List Norm := []
noncomputable def impl_SumAll_c : C := irOf Try.prog Try.f20 [] impl_SumAll_ann []
theorem impl_SumAll_l : lightC Try.prog [] Try.f20.ntmps impl_SumAll_ann [] 0 (bodyOf Try.f20) = some (impl_SumAll_c, 0) := by kernel_rfl
def impl_SumAll_rv : List (Nat × Option (Nat × Bool)) := [(2, none)]
def impl_SumAll_pre (fuel : Nat) (x0 : List (List Int)) (x1 : List Int) (x2 : List (Int × Int × Unit)) (x3 : Int) (x4 : Int) (x5 : List (Int × Int × Unit)) (x6 : Int) : Option ((Int × Unit) × Unit) :=
 Option.bind (impl_SumOk_fn fuel ((x0, x1, x2, x3, x4, x5, x6, ()), ())) fun y_1 =>
 cond (!y_1.fst.fst)
  (some ((((-1 : Int), ()), ())))
  (Option.bind (impl_RoughAll_fn fuel ((x0, ()), ())) fun y_3 =>
   some (((y_3.fst.fst, ()), ())))
def impl_SumAll_fn (fuel : Nat) (x : (((List (List Int)) × ((List Int) × ((List (Int × (Int × Unit))) × (Int × (Int × ((List (Int × (Int × Unit))) × (Int × Unit))))))) × Unit)) : Option ((Int × Unit) × Unit) := impl_SumAll_pre fuel x.1.1 x.1.2.1 x.1.2.2.1 x.1.2.2.2.1 x.1.2.2.2.2.1 x.1.2.2.2.2.2.1 x.1.2.2.2.2.2.2.1
theorem impl_SumAll_run (fuel : Nat) (x : PsT impl_SumAll_ps) : run (impl_SumAll_T fuel) 0 fuel impl_SumAll_c (env0 (svPs impl_SumAll_ps x) 0) [] (endF impl_SumAll_rv impl_SumAll_rs) = impl_SumAll_fn fuel x := by kernel_rfl
def impl_SumAll_tf (fuel : Nat) : TF := ⟨impl_SumAll_ps, impl_SumAll_rs, true, impl_SumAll_fn fuel⟩
theorem impl_SumAll_spec (fuel : Nat) : FnSpec Try.prog 20 (impl_SumAll_tf fuel) :=
  fn_spec (T := impl_SumAll_T fuel) (c := bodyOf Try.f20) (fn := Try.f20) (TabOK.of (entCons (impl_SumOk_ok fuel) (entCons (impl_RoughAll_ok fuel) entNil)) (methNil)) mixed (by kernel_rfl) (by kernel_rfl) impl_SumAll_l (by kernel_rfl) (Nat.le_of_ble_eq_true (by kernel_rfl)) (rv := impl_SumAll_rv) (by kernel_rfl) (impl_SumAll_run fuel)
theorem impl_SumAll_ok (fuel : Nat) : EntryOK Try.prog 20 (impl_SumAll_tf fuel).te := EntryOK.tf rfl (impl_SumAll_spec fuel) (isFn (fn := Try.f20) (by kernel_rfl) (by kernel_rfl) (by kernel_rfl))

end Go.Proofs.Ytjnkefbdpcbkmaa.Den
