/- Readings of functions of the ranks, as functions on plain data (C2). -/
import Derived.Test.YtapicafncjajnaaC1
namespace Go.Proofs.Ytapicafncjajnaa.Den
open Go Go.RowKit
set_option linter.unusedVariables false
set_option linter.unusedSimpArgs false

/-! ### spec_l4Span -/
def spec_l4Span_T (fuel : Nat) : Tab := Tab.of [] []
abbrev spec_l4Span_ps : List Pm := [{ cs := [(Kd.int IntKind.i64, false)], ag := false }]
abbrev spec_l4Span_rs : List Pm := [{ cs := [(Kd.int IntKind.i64, false)], ag := false }, { cs := [(Kd.int IntKind.i64, false)], ag := false }]
def spec_l4Span_ann : List Norm := [{ live := [4, 5], fix := [] }]
noncomputable def spec_l4Span_c : C := irOf Try.prog Try.f31 [] spec_l4Span_ann []
theorem spec_l4Span_l : lightC Try.prog [] Try.f31.ntmps spec_l4Span_ann [] 0 (bodyOf Try.f31) = some (spec_l4Span_c, 1) := by kernel_rfl
def spec_l4Span_rv : List (Nat × Option (Nat × Bool)) := [(2, none), (3, none)]
abbrev spec_l4Span_V0 := (Int) × (Int)
def spec_l4Span_enc0 (v : spec_l4Span_V0) : Env × Heap := ([(4, SV.int IntKind.i64 v.1), (5, SV.int IntKind.i64 v.2)], [])
def spec_l4Span_step0 (fuel : Nat) (g0 : spec_l4Span_V0 → Option ((Int × Unit) × ((Int × Unit) × Unit))) (v : spec_l4Span_V0) : Option ((Int × Unit) × ((Int × Unit) × Unit)) :=
 cond (decide (v.1 < (64 : Int)))
 (g0 (w64 ((2 : Int) * v.1), w64 (w64 ((2 : Int) * v.2) + (1 : Int))))
 (some (((w64 (v.1 - (64 : Int)), ()), (w64 (v.2 - (64 : Int)), ()), ())))
def spec_l4Span_st0 (fuel : Nat) (g0 : spec_l4Span_V0 → Option ((Int × Unit) × ((Int × Unit) × Unit))) : spec_l4Span_V0 → Option ((Int × Unit) × ((Int × Unit) × Unit)) := spec_l4Span_step0 fuel g0
theorem spec_l4Span_lp0 (fuel : Nat) (G) : spec_l4Span_c.lp (spec_l4Span_T fuel) 0 fuel G (endF spec_l4Span_rv spec_l4Span_rs) 0 spec_l4Span_enc0 = iter (spec_l4Span_st0 fuel) fuel := C.lp_iter fun g v => by kernel_rfl
def spec_l4Span_pre (fuel : Nat) (X0 : spec_l4Span_V0 → Option ((Int × Unit) × ((Int × Unit) × Unit))) (x0 : Int) : Option ((Int × Unit) × ((Int × Unit) × Unit)) :=
 X0 (x0, x0)
def spec_l4Span_fn (fuel : Nat) (x : ((Int × Unit) × Unit)) : Option ((Int × Unit) × ((Int × Unit) × Unit)) := spec_l4Span_pre fuel (iter (spec_l4Span_st0 fuel) fuel) x.1.1
theorem spec_l4Span_run (fuel : Nat) (x : PsT spec_l4Span_ps) : run (spec_l4Span_T fuel) 0 fuel spec_l4Span_c (env0 (svPs spec_l4Span_ps x) 0) [] (endF spec_l4Span_rv spec_l4Span_rs) = spec_l4Span_fn fuel x :=
  (show run (spec_l4Span_T fuel) 0 fuel spec_l4Span_c (env0 (svPs spec_l4Span_ps x) 0) [] (endF spec_l4Span_rv spec_l4Span_rs) = spec_l4Span_pre fuel (spec_l4Span_c.lp (spec_l4Span_T fuel) 0 fuel (fun _ _ _ => none) (endF spec_l4Span_rv spec_l4Span_rs) 0 spec_l4Span_enc0) x.1.1 by kernel_rfl).trans (by rw [spec_l4Span_lp0]; rfl)
def spec_l4Span_tf (fuel : Nat) : TF := ⟨spec_l4Span_ps, spec_l4Span_rs, true, spec_l4Span_fn fuel⟩
theorem spec_l4Span_spec (fuel : Nat) : FnSpec Try.prog 31 (spec_l4Span_tf fuel) :=
  fn_spec (T := spec_l4Span_T fuel) (c := bodyOf Try.f31) (fn := Try.f31) (TabOK.of (entNil) methNil) mixed (by kernel_rfl) (by kernel_rfl) spec_l4Span_l (by kernel_rfl) (Nat.le_of_ble_eq_true (by kernel_rfl)) (rv := spec_l4Span_rv) (by kernel_rfl) (spec_l4Span_run fuel)
theorem spec_l4Span_ok (fuel : Nat) : EntryOK Try.prog 31 (spec_l4Span_tf fuel).te := EntryOK.tf rfl (spec_l4Span_spec fuel) (isFn (fn := Try.f31) (by kernel_rfl) (by kernel_rfl) (by kernel_rfl))

/-! ### spec_RankBelow -/
def spec_RankBelow_T (fuel : Nat) : Tab := Tab.of [(29, (spec_RankOk_tf fuel).te), (30, (spec_l6In_tf fuel).te), (31, (spec_l4Span_tf fuel).te)] []
abbrev spec_RankBelow_ps : List Pm := [{ cs := [(Kd.list (Kd.pair (Kd.int IntKind.i64) (Kd.pair (Kd.int IntKind.i64) Kd.unit)), false), (Kd.int IntKind.i64, false)], ag := true }, { cs := [(Kd.int IntKind.i64, false)], ag := false }]
abbrev spec_RankBelow_rs : List Pm := [{ cs := [(Kd.int IntKind.i64, false)], ag := false }, { cs := [(Kd.int IntKind.i64, false)], ag := false }]
def spec_RankBelow_ann : List Norm := [{ live := [8, 2, 1, 6, 7], fix := [] }]
noncomputable def spec_RankBelow_c : C := irOf Try.prog Try.f11 [] spec_RankBelow_ann []
theorem spec_RankBelow_l : lightC Try.prog [] Try.f11.ntmps spec_RankBelow_ann [] 0 (bodyOf Try.f11) = some (spec_RankBelow_c, 1) := by kernel_rfl
def spec_RankBelow_rv : List (Nat × Option (Nat × Bool)) := [(4, none), (5, none)]
abbrev spec_RankBelow_V0 := (Int) × (Int) × (Int) × (Int) × (List (Int × Int × Unit)) × (Int)
def spec_RankBelow_enc0 (v : spec_RankBelow_V0) : Env × Heap := ([(8, SV.int IntKind.i64 v.1), (2, SV.ptr 0 0), (1, SV.int IntKind.i64 v.2.1), (6, SV.int IntKind.i64 v.2.2.1), (7, SV.int IntKind.i64 v.2.2.2.1)], [Blk.cells [SV.es (Kd.pair (Kd.int IntKind.i64) (Kd.pair (Kd.int IntKind.i64) Kd.unit)) v.2.2.2.2.1, SV.int IntKind.i64 v.2.2.2.2.2] 0 2])
def spec_RankBelow_step0 (fuel : Nat) (g0 : spec_RankBelow_V0 → Option ((Int × Unit) × ((Int × Unit) × Unit))) (v : spec_RankBelow_V0) : Option ((Int × Unit) × ((Int × Unit) × Unit)) :=
 cond (decide (v.1 < (zz (List.length v.2.2.2.2.1))))
 (tst (decide (0 ≤ v.1)) <|
  tst (decide (v.1 < (zz (List.length v.2.2.2.2.1)))) <|
  Option.bind (spec_l4Span_fn fuel (((List.getD v.2.2.2.2.1 (Int.toNat v.1) (0, (0, ()))).fst, ()), ())) fun y_2 =>
  cond (decide (y_2.snd.fst.fst ≤ v.2.1))
   (tst (decide (0 ≤ v.1)) <|
    tst (decide (v.1 < (zz (List.length v.2.2.2.2.1)))) <|
    cond (decide (y_2.fst.fst ≤ v.2.1))
    (tst (decide (0 ≤ v.1)) <|
     tst (decide (v.1 < (zz (List.length v.2.2.2.2.1)))) <|
     g0 (w64 (v.1 + (1 : Int)), v.2.1, w64 (v.2.2.1 + (List.getD v.2.2.2.2.1 (Int.toNat v.1) (0, (0, ()))).snd.fst), w64 (v.2.2.2.1 + (List.getD v.2.2.2.2.1 (Int.toNat v.1) (0, (0, ()))).snd.fst), v.2.2.2.2.1, v.2.2.2.2.2))
    (g0 (w64 (v.1 + (1 : Int)), v.2.1, w64 (v.2.2.1 + (List.getD v.2.2.2.2.1 (Int.toNat v.1) (0, (0, ()))).snd.fst), v.2.2.2.1, v.2.2.2.2.1, v.2.2.2.2.2)))
   (cond (decide (y_2.fst.fst ≤ v.2.1))
    (tst (decide (0 ≤ v.1)) <|
     tst (decide (v.1 < (zz (List.length v.2.2.2.2.1)))) <|
     g0 (w64 (v.1 + (1 : Int)), v.2.1, v.2.2.1, w64 (v.2.2.2.1 + (List.getD v.2.2.2.2.1 (Int.toNat v.1) (0, (0, ()))).snd.fst), v.2.2.2.2.1, v.2.2.2.2.2))
    (g0 (w64 (v.1 + (1 : Int)), v.2.1, v.2.2.1, v.2.2.2.1, v.2.2.2.2.1, v.2.2.2.2.2))))
 (some (((v.2.2.1, ()), (v.2.2.2.1, ()), ())))
def spec_RankBelow_st0 (fuel : Nat) (g0 : spec_RankBelow_V0 → Option ((Int × Unit) × ((Int × Unit) × Unit))) : spec_RankBelow_V0 → Option ((Int × Unit) × ((Int × Unit) × Unit)) := spec_RankBelow_step0 fuel g0
theorem spec_RankBelow_lp0 (fuel : Nat) (G) : spec_RankBelow_c.lp (spec_RankBelow_T fuel) 0 fuel G (endF spec_RankBelow_rv spec_RankBelow_rs) 0 spec_RankBelow_enc0 = iter (spec_RankBelow_st0 fuel) fuel := C.lp_iter fun g v => by kernel_rfl
def spec_RankBelow_pre (fuel : Nat) (X0 : spec_RankBelow_V0 → Option ((Int × Unit) × ((Int × Unit) × Unit))) (x0 : List (Int × Int × Unit)) (x1 : Int) (x2 : Int) : Option ((Int × Unit) × ((Int × Unit) × Unit)) :=
 Option.bind (spec_RankOk_fn fuel ((x0, x1, ()), ())) fun y_1 =>
 cond (!y_1.fst.fst)
  (some ((((-1 : Int), ()), ((-1 : Int), ()), ())))
  (Option.bind (spec_l6In_fn fuel ((x2, ()), ((0 : Int), ()), ((63 : Int), ()), ())) fun y_3 =>
   cond (!y_3.fst.fst)
    (some ((((-1 : Int), ()), ((-1 : Int), ()), ())))
    (X0 ((0 : Int), x2, (0 : Int), (0 : Int), x0, x1)))
def spec_RankBelow_fn (fuel : Nat) (x : (((List (Int × (Int × Unit))) × (Int × Unit)) × ((Int × Unit) × Unit))) : Option ((Int × Unit) × ((Int × Unit) × Unit)) := spec_RankBelow_pre fuel (iter (spec_RankBelow_st0 fuel) fuel) x.1.1 x.1.2.1 x.2.1.1
theorem spec_RankBelow_run (fuel : Nat) (x : PsT spec_RankBelow_ps) : run (spec_RankBelow_T fuel) 0 fuel spec_RankBelow_c (env0 (svPs spec_RankBelow_ps x) 0) [] (endF spec_RankBelow_rv spec_RankBelow_rs) = spec_RankBelow_fn fuel x :=
  (show run (spec_RankBelow_T fuel) 0 fuel spec_RankBelow_c (env0 (svPs spec_RankBelow_ps x) 0) [] (endF spec_RankBelow_rv spec_RankBelow_rs) = spec_RankBelow_pre fuel (spec_RankBelow_c.lp (spec_RankBelow_T fuel) 0 fuel (fun _ _ _ => none) (endF spec_RankBelow_rv spec_RankBelow_rs) 0 spec_RankBelow_enc0) x.1.1 x.1.2.1 x.2.1.1 by kernel_rfl).trans (by rw [spec_RankBelow_lp0]; rfl)
def spec_RankBelow_tf (fuel : Nat) : TF := ⟨spec_RankBelow_ps, spec_RankBelow_rs, true, spec_RankBelow_fn fuel⟩
theorem spec_RankBelow_spec (fuel : Nat) : FnSpec Try.prog 11 (spec_RankBelow_tf fuel) :=
  fn_spec (T := spec_RankBelow_T fuel) (c := bodyOf Try.f11) (fn := Try.f11) (TabOK.of (entCons (spec_RankOk_ok fuel) (entCons (spec_l6In_ok fuel) (entCons (spec_l4Span_ok fuel) entNil))) methNil) mixed (by kernel_rfl) (by kernel_rfl) spec_RankBelow_l (by kernel_rfl) (Nat.le_of_ble_eq_true (by kernel_rfl)) (rv := spec_RankBelow_rv) (by kernel_rfl) (spec_RankBelow_run fuel)
theorem spec_RankBelow_ok (fuel : Nat) : EntryOK Try.prog 11 (spec_RankBelow_tf fuel).te := EntryOK.tf rfl (spec_RankBelow_spec fuel) (isFn (fn := Try.f11) (by kernel_rfl) (by kernel_rfl) (by kernel_rfl))

/-! ### impl_RankOk -/
def impl_RankOk_T (fuel : Nat) : Tab := Tab.of [] []
abbrev impl_RankOk_ps : List Pm := [{ cs := [(Kd.list (Kd.pair (Kd.int IntKind.i64) (Kd.pair (Kd.int IntKind.i64) Kd.unit)), false), (Kd.int IntKind.i64, false)], ag := true }]
abbrev impl_RankOk_rs : List Pm := [{ cs := [(Kd.bool, false)], ag := false }]
def impl_RankOk_ann : List Norm := [{ live := [18, 17, 16, 3, 1, 4], fix := [] }]
noncomputable def impl_RankOk_c : C := irOf Try.prog Try.f17 [] impl_RankOk_ann []
theorem impl_RankOk_l : lightC Try.prog [] Try.f17.ntmps impl_RankOk_ann [] 0 (bodyOf Try.f17) = some (impl_RankOk_c, 1) := by kernel_rfl
def impl_RankOk_rv : List (Nat × Option (Nat × Bool)) := [(2, none)]
abbrev impl_RankOk_V0 := (Int) × (Int) × (List (Int × Int × Unit)) × (Int) × (Int) × (List (Int × Int × Unit)) × (Int)
def impl_RankOk_enc0 (v : impl_RankOk_V0) : Env × Heap := ([(18, SV.int IntKind.i64 v.1), (17, SV.int IntKind.i64 v.2.1), (16, SV.es (Kd.pair (Kd.int IntKind.i64) (Kd.pair (Kd.int IntKind.i64) Kd.unit)) v.2.2.1), (3, SV.int IntKind.i64 v.2.2.2.1), (1, SV.ptr 0 0), (4, SV.int IntKind.i64 v.2.2.2.2.1)], [Blk.cells [SV.es (Kd.pair (Kd.int IntKind.i64) (Kd.pair (Kd.int IntKind.i64) Kd.unit)) v.2.2.2.2.2.1, SV.int IntKind.i64 v.2.2.2.2.2.2] 0 2])
def impl_RankOk_step0 (fuel : Nat) (g0 : impl_RankOk_V0 → Option ((Bool × Unit) × Unit)) (v : impl_RankOk_V0) : Option ((Bool × Unit) × Unit) :=
 cond (decide (v.1 < v.2.1))
 (tst (decide (0 ≤ v.1)) <|
  tst (decide (v.1 < (zz (List.length v.2.2.1)))) <|
  cond (decide ((List.getD v.2.2.1 (Int.toNat v.1) (0, (0, ()))).fst ≤ v.2.2.2.1))
  (some (((false, ()), ())))
  (cond (decide ((List.getD v.2.2.1 (Int.toNat v.1) (0, (0, ()))).fst ≥ (128 : Int)))
   (some (((false, ()), ())))
   (cond (decide ((List.getD v.2.2.1 (Int.toNat v.1) (0, (0, ()))).snd.fst < (1 : Int)))
    (some (((false, ()), ())))
    (cond (decide ((List.getD v.2.2.1 (Int.toNat v.1) (0, (0, ()))).snd.fst > (2000 : Int)))
     (some (((false, ()), ())))
     (cond (decide ((List.getD v.2.2.1 (Int.toNat v.1) (0, (0, ()))).fst < (64 : Int)))
      (cond (decide ((List.getD v.2.2.1 (Int.toNat v.1) (0, (0, ()))).snd.fst > w64 (Int.tdiv v.2.2.2.2.2.2 (8 : Int))))
       (some (((false, ()), ())))
       (g0 (w64 (v.1 + (1 : Int)), v.2.1, v.2.2.1, (List.getD v.2.2.1 (Int.toNat v.1) (0, (0, ()))).fst, w64 (v.2.2.2.2.1 + (List.getD v.2.2.1 (Int.toNat v.1) (0, (0, ()))).snd.fst), v.2.2.2.2.2.1, v.2.2.2.2.2.2)))
      (g0 (w64 (v.1 + (1 : Int)), v.2.1, v.2.2.1, (List.getD v.2.2.1 (Int.toNat v.1) (0, (0, ()))).fst, w64 (v.2.2.2.2.1 + (List.getD v.2.2.1 (Int.toNat v.1) (0, (0, ()))).snd.fst), v.2.2.2.2.2.1, v.2.2.2.2.2.2)))))))
 (some (((v.2.2.2.2.1 == v.2.2.2.2.2.2, ()), ())))
def impl_RankOk_st0 (fuel : Nat) (g0 : impl_RankOk_V0 → Option ((Bool × Unit) × Unit)) : impl_RankOk_V0 → Option ((Bool × Unit) × Unit) := impl_RankOk_step0 fuel g0
theorem impl_RankOk_lp0 (fuel : Nat) (G) : impl_RankOk_c.lp (impl_RankOk_T fuel) 0 fuel G (endF impl_RankOk_rv impl_RankOk_rs) 0 impl_RankOk_enc0 = iter (impl_RankOk_st0 fuel) fuel := C.lp_iter fun g v => by kernel_rfl
def impl_RankOk_pre (fuel : Nat) (X0 : impl_RankOk_V0 → Option ((Bool × Unit) × Unit)) (x0 : List (Int × Int × Unit)) (x1 : Int) : Option ((Bool × Unit) × Unit) :=
 cond (decide (x1 < (0 : Int)))
 (some (((false, ()), ())))
 (cond (decide (x1 > (2000 : Int)))
  (some (((false, ()), ())))
  (X0 ((0 : Int), (zz (List.length x0)), x0, (0 : Int), (0 : Int), x0, x1)))
def impl_RankOk_fn (fuel : Nat) (x : (((List (Int × (Int × Unit))) × (Int × Unit)) × Unit)) : Option ((Bool × Unit) × Unit) := impl_RankOk_pre fuel (iter (impl_RankOk_st0 fuel) fuel) x.1.1 x.1.2.1
theorem impl_RankOk_run (fuel : Nat) (x : PsT impl_RankOk_ps) : run (impl_RankOk_T fuel) 0 fuel impl_RankOk_c (env0 (svPs impl_RankOk_ps x) 0) [] (endF impl_RankOk_rv impl_RankOk_rs) = impl_RankOk_fn fuel x :=
  (show run (impl_RankOk_T fuel) 0 fuel impl_RankOk_c (env0 (svPs impl_RankOk_ps x) 0) [] (endF impl_RankOk_rv impl_RankOk_rs) = impl_RankOk_pre fuel (impl_RankOk_c.lp (impl_RankOk_T fuel) 0 fuel (fun _ _ _ => none) (endF impl_RankOk_rv impl_RankOk_rs) 0 impl_RankOk_enc0) x.1.1 x.1.2.1 by kernel_rfl).trans (by rw [impl_RankOk_lp0]; rfl)
def impl_RankOk_tf (fuel : Nat) : TF := ⟨impl_RankOk_ps, impl_RankOk_rs, true, impl_RankOk_fn fuel⟩
theorem impl_RankOk_spec (fuel : Nat) : FnSpec Try.prog 17 (impl_RankOk_tf fuel) :=
  fn_spec (T := impl_RankOk_T fuel) (c := bodyOf Try.f17) (fn := Try.f17) (TabOK.of (entNil) methNil) mixed (by kernel_rfl) (by kernel_rfl) impl_RankOk_l (by kernel_rfl) (Nat.le_of_ble_eq_true (by kernel_rfl)) (rv := impl_RankOk_rv) (by kernel_rfl) (impl_RankOk_run fuel)
theorem impl_RankOk_ok (fuel : Nat) : EntryOK Try.prog 17 (impl_RankOk_tf fuel).te := EntryOK.tf rfl (impl_RankOk_spec fuel) (isFn (fn := Try.f17) (by kernel_rfl) (by kernel_rfl) (by kernel_rfl))

/-! ### impl_isThing -/
def impl_isThing_T (fuel : Nat) : Tab := Tab.of [] []
abbrev impl_isThing_ps : List Pm := [{ cs := [(Kd.int IntKind.i64, false)], ag := false }]
abbrev impl_isThing_rs : List Pm := [{ cs := [(Kd.bool, false)], ag := false }]
def impl_isThing_ann : List Norm := []
noncomputable def impl_isThing_c : C := irOf Try.prog Try.f32 [] impl_isThing_ann []
theorem impl_isThing_l : lightC Try.prog [] Try.f32.ntmps impl_isThing_ann [] 0 (bodyOf Try.f32) = some (impl_isThing_c, 0) := by kernel_rfl
def impl_isThing_rv : List (Nat × Option (Nat × Bool)) := [(2, none)]
def impl_isThing_pre (fuel : Nat) (x0 : Int) : Option ((Bool × Unit) × Unit) :=
 cond (decide (x0 ≥ (0 : Int)))
 (some (((decide (x0 < (64 : Int)), ()), ())))
 (some (((false, ()), ())))
def impl_isThing_fn (fuel : Nat) (x : ((Int × Unit) × Unit)) : Option ((Bool × Unit) × Unit) := impl_isThing_pre fuel x.1.1
theorem impl_isThing_run (fuel : Nat) (x : PsT impl_isThing_ps) : run (impl_isThing_T fuel) 0 fuel impl_isThing_c (env0 (svPs impl_isThing_ps x) 0) [] (endF impl_isThing_rv impl_isThing_rs) = impl_isThing_fn fuel x := by kernel_rfl
def impl_isThing_tf (fuel : Nat) : TF := ⟨impl_isThing_ps, impl_isThing_rs, true, impl_isThing_fn fuel⟩
theorem impl_isThing_spec (fuel : Nat) : FnSpec Try.prog 32 (impl_isThing_tf fuel) :=
  fn_spec (T := impl_isThing_T fuel) (c := bodyOf Try.f32) (fn := Try.f32) (TabOK.of (entNil) methNil) mixed (by kernel_rfl) (by kernel_rfl) impl_isThing_l (by kernel_rfl) (Nat.le_of_ble_eq_true (by kernel_rfl)) (rv := impl_isThing_rv) (by kernel_rfl) (impl_isThing_run fuel)
theorem impl_isThing_ok (fuel : Nat) : EntryOK Try.prog 32 (impl_isThing_tf fuel).te := EntryOK.tf rfl (impl_isThing_spec fuel) (isFn (fn := Try.f32) (by kernel_rfl) (by kernel_rfl) (by kernel_rfl))

/-! ### impl_RankSpan -/
def impl_RankSpan_T (fuel : Nat) : Tab := Tab.of [] []
abbrev impl_RankSpan_ps : List Pm := [{ cs := [(Kd.int IntKind.i64, false)], ag := false }]
abbrev impl_RankSpan_rs : List Pm := [{ cs := [(Kd.int IntKind.i64, false)], ag := false }, { cs := [(Kd.int IntKind.i64, false)], ag := false }]
def impl_RankSpan_ann : List Norm := [{ live := [4, 5], fix := [] }]
noncomputable def impl_RankSpan_c : C := irOf Try.prog Try.f47 [] impl_RankSpan_ann []
theorem impl_RankSpan_l : lightC Try.prog [] Try.f47.ntmps impl_RankSpan_ann [] 0 (bodyOf Try.f47) = some (impl_RankSpan_c, 1) := by kernel_rfl
def impl_RankSpan_rv : List (Nat × Option (Nat × Bool)) := [(2, none), (3, none)]
abbrev impl_RankSpan_V0 := (Int) × (Int)
def impl_RankSpan_enc0 (v : impl_RankSpan_V0) : Env × Heap := ([(4, SV.int IntKind.i64 v.1), (5, SV.int IntKind.i64 v.2)], [])
def impl_RankSpan_step0 (fuel : Nat) (g0 : impl_RankSpan_V0 → Option ((Int × Unit) × ((Int × Unit) × Unit))) (v : impl_RankSpan_V0) : Option ((Int × Unit) × ((Int × Unit) × Unit)) :=
 cond (decide (v.1 < (64 : Int)))
 (g0 (w64 (v.1 * 2 ^ min (Int.toNat (1 : Int)) (IntKind.bits IntKind.i64)), w64 (zz (BitVec.toNat (BitVec.ofInt (IntKind.bits IntKind.i64) (w64 (v.2 * 2 ^ min (Int.toNat (1 : Int)) (IntKind.bits IntKind.i64))) ||| BitVec.ofInt (IntKind.bits IntKind.i64) (1 : Int))))))
 (some (((w64 (v.1 - (64 : Int)), ()), (w64 (v.2 - (64 : Int)), ()), ())))
def impl_RankSpan_st0 (fuel : Nat) (g0 : impl_RankSpan_V0 → Option ((Int × Unit) × ((Int × Unit) × Unit))) : impl_RankSpan_V0 → Option ((Int × Unit) × ((Int × Unit) × Unit)) := impl_RankSpan_step0 fuel g0
theorem impl_RankSpan_lp0 (fuel : Nat) (G) : impl_RankSpan_c.lp (impl_RankSpan_T fuel) 0 fuel G (endF impl_RankSpan_rv impl_RankSpan_rs) 0 impl_RankSpan_enc0 = iter (impl_RankSpan_st0 fuel) fuel := C.lp_iter fun g v => by kernel_rfl
def impl_RankSpan_pre (fuel : Nat) (X0 : impl_RankSpan_V0 → Option ((Int × Unit) × ((Int × Unit) × Unit))) (x0 : Int) : Option ((Int × Unit) × ((Int × Unit) × Unit)) :=
 cond (decide (x0 < (1 : Int)))
 (some ((((1 : Int), ()), ((0 : Int), ()), ())))
 (cond (decide (x0 ≥ (128 : Int)))
  (some ((((1 : Int), ()), ((0 : Int), ()), ())))
  (X0 (x0, x0)))
def impl_RankSpan_fn (fuel : Nat) (x : ((Int × Unit) × Unit)) : Option ((Int × Unit) × ((Int × Unit) × Unit)) := impl_RankSpan_pre fuel (iter (impl_RankSpan_st0 fuel) fuel) x.1.1
theorem impl_RankSpan_run (fuel : Nat) (x : PsT impl_RankSpan_ps) : run (impl_RankSpan_T fuel) 0 fuel impl_RankSpan_c (env0 (svPs impl_RankSpan_ps x) 0) [] (endF impl_RankSpan_rv impl_RankSpan_rs) = impl_RankSpan_fn fuel x :=
  (show run (impl_RankSpan_T fuel) 0 fuel impl_RankSpan_c (env0 (svPs impl_RankSpan_ps x) 0) [] (endF impl_RankSpan_rv impl_RankSpan_rs) = impl_RankSpan_pre fuel (impl_RankSpan_c.lp (impl_RankSpan_T fuel) 0 fuel (fun _ _ _ => none) (endF impl_RankSpan_rv impl_RankSpan_rs) 0 impl_RankSpan_enc0) x.1.1 by kernel_rfl).trans (by rw [impl_RankSpan_lp0]; rfl)
def impl_RankSpan_tf (fuel : Nat) : TF := ⟨impl_RankSpan_ps, impl_RankSpan_rs, true, impl_RankSpan_fn fuel⟩
theorem impl_RankSpan_spec (fuel : Nat) : FnSpec Try.prog 47 (impl_RankSpan_tf fuel) :=
  fn_spec (T := impl_RankSpan_T fuel) (c := bodyOf Try.f47) (fn := Try.f47) (TabOK.of (entNil) methNil) mixed (by kernel_rfl) (by kernel_rfl) impl_RankSpan_l (by kernel_rfl) (Nat.le_of_ble_eq_true (by kernel_rfl)) (rv := impl_RankSpan_rv) (by kernel_rfl) (impl_RankSpan_run fuel)
theorem impl_RankSpan_ok (fuel : Nat) : EntryOK Try.prog 47 (impl_RankSpan_tf fuel).te := EntryOK.tf rfl (impl_RankSpan_spec fuel) (isFn (fn := Try.f47) (by kernel_rfl) (by kernel_rfl) (by kernel_rfl))

/-! ### impl_Rank_upTo -/
def impl_Rank_upTo_T (fuel : Nat) : Tab := Tab.of [(47, (impl_RankSpan_tf fuel).te)] []
abbrev impl_Rank_upTo_ps : List Pm := [{ cs := [(Kd.list (Kd.pair (Kd.int IntKind.i64) (Kd.pair (Kd.int IntKind.i64) Kd.unit)), false), (Kd.int IntKind.i64, false)], ag := true }, { cs := [(Kd.int IntKind.i64, false)], ag := false }]
abbrev impl_Rank_upTo_rs : List Pm := [{ cs := [(Kd.int IntKind.i64, false)], ag := false }, { cs := [(Kd.int IntKind.i64, false)], ag := false }]
def impl_Rank_upTo_ann : List Norm := [{ live := [15, 14, 13, 1, 6, 7], fix := [] }]
noncomputable def impl_Rank_upTo_c : C := irOf Try.prog Try.f33 [] impl_Rank_upTo_ann []
theorem impl_Rank_upTo_l : lightC Try.prog [] Try.f33.ntmps impl_Rank_upTo_ann [] 0 (bodyOf Try.f33) = some (impl_Rank_upTo_c, 1) := by kernel_rfl
def impl_Rank_upTo_rv : List (Nat × Option (Nat × Bool)) := [(4, none), (5, none)]
abbrev impl_Rank_upTo_V0 := (Int) × (Int) × (List (Int × Int × Unit)) × (Int) × (Int) × (Int)
def impl_Rank_upTo_enc0 (v : impl_Rank_upTo_V0) : Env × Heap := ([(15, SV.int IntKind.i64 v.1), (14, SV.int IntKind.i64 v.2.1), (13, SV.es (Kd.pair (Kd.int IntKind.i64) (Kd.pair (Kd.int IntKind.i64) Kd.unit)) v.2.2.1), (1, SV.int IntKind.i64 v.2.2.2.1), (6, SV.int IntKind.i64 v.2.2.2.2.1), (7, SV.int IntKind.i64 v.2.2.2.2.2)], [])
def impl_Rank_upTo_step0 (fuel : Nat) (g0 : impl_Rank_upTo_V0 → Option ((Int × Unit) × ((Int × Unit) × Unit))) (v : impl_Rank_upTo_V0) : Option ((Int × Unit) × ((Int × Unit) × Unit)) :=
 cond (decide (v.1 < v.2.1))
 (tst (decide (0 ≤ v.1)) <|
  tst (decide (v.1 < (zz (List.length v.2.2.1)))) <|
  Option.bind (impl_RankSpan_fn fuel (((List.getD v.2.2.1 (Int.toNat v.1) (0, (0, ()))).fst, ()), ())) fun y_2 =>
  cond (decide (y_2.snd.fst.fst ≤ v.2.2.2.1))
   (cond (decide (y_2.fst.fst ≤ v.2.2.2.1))
    (g0 (w64 (v.1 + (1 : Int)), v.2.1, v.2.2.1, v.2.2.2.1, w64 (v.2.2.2.2.1 + (List.getD v.2.2.1 (Int.toNat v.1) (0, (0, ()))).snd.fst), w64 (v.2.2.2.2.2 + (List.getD v.2.2.1 (Int.toNat v.1) (0, (0, ()))).snd.fst)))
    (g0 (w64 (v.1 + (1 : Int)), v.2.1, v.2.2.1, v.2.2.2.1, w64 (v.2.2.2.2.1 + (List.getD v.2.2.1 (Int.toNat v.1) (0, (0, ()))).snd.fst), v.2.2.2.2.2)))
   (cond (decide (y_2.fst.fst ≤ v.2.2.2.1))
    (g0 (w64 (v.1 + (1 : Int)), v.2.1, v.2.2.1, v.2.2.2.1, v.2.2.2.2.1, w64 (v.2.2.2.2.2 + (List.getD v.2.2.1 (Int.toNat v.1) (0, (0, ()))).snd.fst)))
    (g0 (w64 (v.1 + (1 : Int)), v.2.1, v.2.2.1, v.2.2.2.1, v.2.2.2.2.1, v.2.2.2.2.2))))
 (some (((v.2.2.2.2.1, ()), (v.2.2.2.2.2, ()), ())))
def impl_Rank_upTo_st0 (fuel : Nat) (g0 : impl_Rank_upTo_V0 → Option ((Int × Unit) × ((Int × Unit) × Unit))) : impl_Rank_upTo_V0 → Option ((Int × Unit) × ((Int × Unit) × Unit)) := impl_Rank_upTo_step0 fuel g0
theorem impl_Rank_upTo_lp0 (fuel : Nat) (G) : impl_Rank_upTo_c.lp (impl_Rank_upTo_T fuel) 0 fuel G (endF impl_Rank_upTo_rv impl_Rank_upTo_rs) 0 impl_Rank_upTo_enc0 = iter (impl_Rank_upTo_st0 fuel) fuel := C.lp_iter fun g v => by kernel_rfl
def impl_Rank_upTo_pre (fuel : Nat) (X0 : impl_Rank_upTo_V0 → Option ((Int × Unit) × ((Int × Unit) × Unit))) (x0 : List (Int × Int × Unit)) (x1 : Int) (x2 : Int) : Option ((Int × Unit) × ((Int × Unit) × Unit)) :=
 X0 ((0 : Int), (zz (List.length x0)), x0, x2, (0 : Int), (0 : Int))
def impl_Rank_upTo_fn (fuel : Nat) (x : (((List (Int × (Int × Unit))) × (Int × Unit)) × ((Int × Unit) × Unit))) : Option ((Int × Unit) × ((Int × Unit) × Unit)) := impl_Rank_upTo_pre fuel (iter (impl_Rank_upTo_st0 fuel) fuel) x.1.1 x.1.2.1 x.2.1.1
theorem impl_Rank_upTo_run (fuel : Nat) (x : PsT impl_Rank_upTo_ps) : run (impl_Rank_upTo_T fuel) 0 fuel impl_Rank_upTo_c (env0 (svPs impl_Rank_upTo_ps x) 0) [] (endF impl_Rank_upTo_rv impl_Rank_upTo_rs) = impl_Rank_upTo_fn fuel x :=
  (show run (impl_Rank_upTo_T fuel) 0 fuel impl_Rank_upTo_c (env0 (svPs impl_Rank_upTo_ps x) 0) [] (endF impl_Rank_upTo_rv impl_Rank_upTo_rs) = impl_Rank_upTo_pre fuel (impl_Rank_upTo_c.lp (impl_Rank_upTo_T fuel) 0 fuel (fun _ _ _ => none) (endF impl_Rank_upTo_rv impl_Rank_upTo_rs) 0 impl_Rank_upTo_enc0) x.1.1 x.1.2.1 x.2.1.1 by kernel_rfl).trans (by rw [impl_Rank_upTo_lp0]; rfl)
def impl_Rank_upTo_tf (fuel : Nat) : TF := ⟨impl_Rank_upTo_ps, impl_Rank_upTo_rs, true, impl_Rank_upTo_fn fuel⟩
theorem impl_Rank_upTo_spec (fuel : Nat) : FnSpec Try.prog 33 (impl_Rank_upTo_tf fuel) :=
  fn_spec (T := impl_Rank_upTo_T fuel) (c := bodyOf Try.f33) (fn := Try.f33) (TabOK.of (entCons (impl_RankSpan_ok fuel) entNil) methNil) mixed (by kernel_rfl) (by kernel_rfl) impl_Rank_upTo_l (by kernel_rfl) (Nat.le_of_ble_eq_true (by kernel_rfl)) (rv := impl_Rank_upTo_rv) (by kernel_rfl) (impl_Rank_upTo_run fuel)
theorem impl_Rank_upTo_ok (fuel : Nat) : EntryOK Try.prog 33 (impl_Rank_upTo_tf fuel).te := EntryOK.tf rfl (impl_Rank_upTo_spec fuel) (isFn (fn := Try.f33) (by kernel_rfl) (by kernel_rfl) (by kernel_rfl))

/-! ### impl_RankBelow -/
def impl_RankBelow_T (fuel : Nat) : Tab := Tab.of [(17, (impl_RankOk_tf fuel).te), (32, (impl_isThing_tf fuel).te), (33, (impl_Rank_upTo_tf fuel).te)] []
abbrev impl_RankBelow_ps : List Pm := [{ cs := [(Kd.list (Kd.pair (Kd.int IntKind.i64) (Kd.pair (Kd.int IntKind.i64) Kd.unit)), false), (Kd.int IntKind.i64, false)], ag := true }, { cs := [(Kd.int IntKind.i64, false)], ag := false }]
abbrev impl_RankBelow_rs : List Pm := [{ cs := [(Kd.int IntKind.i64, false)], ag := false }, { cs := [(Kd.int IntKind.i64, false)], ag := false }]
def impl_RankBelow_ann : List Norm := []
noncomputable def impl_RankBelow_c : C := irOf Try.prog Try.f12 [] impl_RankBelow_ann []
theorem impl_RankBelow_l : lightC Try.prog [] Try.f12.ntmps impl_RankBelow_ann [] 0 (bodyOf Try.f12) = some (impl_RankBelow_c, 0) := by kernel_rfl
def impl_RankBelow_rv : List (Nat × Option (Nat × Bool)) := [(4, none), (5, none)]
def impl_RankBelow_pre (fuel : Nat) (x0 : List (Int × Int × Unit)) (x1 : Int) (x2 : Int) : Option ((Int × Unit) × ((Int × Unit) × Unit)) :=
 Option.bind (impl_RankOk_fn fuel ((x0, x1, ()), ())) fun y_1 =>
 cond (!y_1.fst.fst)
  (some ((((-1 : Int), ()), ((-1 : Int), ()), ())))
  (Option.bind (impl_isThing_fn fuel ((x2, ()), ())) fun y_3 =>
   cond (!y_3.fst.fst)
    (some ((((-1 : Int), ()), ((-1 : Int), ()), ())))
    (Option.bind (impl_Rank_upTo_fn fuel ((x0, x1, ()), (x2, ()), ())) fun y_5 =>
     some (((y_5.fst.fst, ()), (y_5.snd.fst.fst, ()), ()))))
def impl_RankBelow_fn (fuel : Nat) (x : (((List (Int × (Int × Unit))) × (Int × Unit)) × ((Int × Unit) × Unit))) : Option ((Int × Unit) × ((Int × Unit) × Unit)) := impl_RankBelow_pre fuel x.1.1 x.1.2.1 x.2.1.1
theorem impl_RankBelow_run (fuel : Nat) (x : PsT impl_RankBelow_ps) : run (impl_RankBelow_T fuel) 0 fuel impl_RankBelow_c (env0 (svPs impl_RankBelow_ps x) 0) [] (endF impl_RankBelow_rv impl_RankBelow_rs) = impl_RankBelow_fn fuel x := by kernel_rfl
def impl_RankBelow_tf (fuel : Nat) : TF := ⟨impl_RankBelow_ps, impl_RankBelow_rs, true, impl_RankBelow_fn fuel⟩
theorem impl_RankBelow_spec (fuel : Nat) : FnSpec Try.prog 12 (impl_RankBelow_tf fuel) :=
  fn_spec (T := impl_RankBelow_T fuel) (c := bodyOf Try.f12) (fn := Try.f12) (TabOK.of (entCons (impl_RankOk_ok fuel) (entCons (impl_isThing_ok fuel) (entCons (impl_Rank_upTo_ok fuel) entNil))) methNil) mixed (by kernel_rfl) (by kernel_rfl) impl_RankBelow_l (by kernel_rfl) (Nat.le_of_ble_eq_true (by kernel_rfl)) (rv := impl_RankBelow_rv) (by kernel_rfl) (impl_RankBelow_run fuel)
theorem impl_RankBelow_ok (fuel : Nat) : EntryOK Try.prog 12 (impl_RankBelow_tf fuel).te := EntryOK.tf rfl (impl_RankBelow_spec fuel) (isFn (fn := Try.f12) (by kernel_rfl) (by kernel_rfl) (by kernel_rfl))

/-! ### laws_FnRankMore -/
def laws_FnRankMore_T (fuel : Nat) : Tab := Tab.of [(10, (spec_DrawRankBelow_tf fuel).te), (11, (spec_RankBelow_tf fuel).te), (12, (impl_RankBelow_tf fuel).te)] []
abbrev laws_FnRankMore_ps : List Pm := [{ cs := [(Kd.list (Kd.int IntKind.u8), false)], ag := false }, { cs := [(Kd.list (Kd.int IntKind.u8), false)], ag := false }]
abbrev laws_FnRankMore_rs : List Pm := [{ cs := [(Kd.bool, false)], ag := false }]
def laws_FnRankMore_ann : List Norm := []
noncomputable def laws_FnRankMore_c : C := irOf Try.prog Try.f3 [] laws_FnRankMore_ann []
theorem laws_FnRankMore_l : lightC Try.prog [] Try.f3.ntmps laws_FnRankMore_ann [] 0 (bodyOf Try.f3) = some (laws_FnRankMore_c, 0) := by kernel_rfl
def laws_FnRankMore_rv : List (Nat × Option (Nat × Bool)) := [(4, none)]
def laws_FnRankMore_pre (fuel : Nat) (x0 : List Int) (x1 : List Int) : Option ((Bool × Unit) × Unit) :=
 cond (decide ((zz (List.length x0)) > (1048576 : Int)))
 (some (((true, ()), ())))
 (cond (decide ((zz (List.length x1)) > (1048576 : Int)))
  (some (((true, ()), ())))
  (Option.bind (spec_DrawRankBelow_fn fuel ((x0, ()), ())) fun y_3 =>
   Option.bind (spec_RankBelow_fn fuel ((y_3.fst.fst, y_3.fst.snd.fst, ()), (y_3.snd.fst.fst, ()), ())) fun y_4 =>
    Option.bind (impl_RankBelow_fn fuel ((y_3.fst.fst, y_3.fst.snd.fst, ()), (y_3.snd.fst.fst, ()), ())) fun y_5 =>
     cond (y_5.fst.fst != y_4.fst.fst)
      (cond (y_5.fst.fst == y_4.fst.fst)
       (some (((y_5.snd.fst.fst == y_4.snd.fst.fst, ()), ())))
       (some (((false, ()), ()))))
      (cond (y_5.snd.fst.fst != y_4.snd.fst.fst)
       (cond (y_5.fst.fst == y_4.fst.fst)
        (some (((y_5.snd.fst.fst == y_4.snd.fst.fst, ()), ())))
        (some (((false, ()), ()))))
       (cond (decide (y_5.fst.fst < (0 : Int)))
        (cond (y_5.fst.fst == y_4.fst.fst)
         (some (((y_5.snd.fst.fst == y_4.snd.fst.fst, ()), ())))
         (some (((false, ()), ()))))
        (tst (!decide (w64 ((64 : Int) - y_3.snd.fst.fst) = 0)) <|
         Option.bind (impl_RankBelow_fn fuel ((y_3.fst.fst, y_3.fst.snd.fst, ()), (w64 (y_3.snd.fst.fst + Int.tmod ((zz (List.length x1))) (w64 ((64 : Int) - y_3.snd.fst.fst))), ()), ())) fun y_9 =>
         cond (decide (y_9.fst.fst ≥ y_5.fst.fst))
          (some (((decide (y_9.snd.fst.fst ≥ y_5.snd.fst.fst), ()), ())))
          (some (((false, ()), ()))))))))
def laws_FnRankMore_fn (fuel : Nat) (x : (((List Int) × Unit) × (((List Int) × Unit) × Unit))) : Option ((Bool × Unit) × Unit) := laws_FnRankMore_pre fuel x.1.1 x.2.1.1
theorem laws_FnRankMore_run (fuel : Nat) (x : PsT laws_FnRankMore_ps) : run (laws_FnRankMore_T fuel) 0 fuel laws_FnRankMore_c (env0 (svPs laws_FnRankMore_ps x) 0) [] (endF laws_FnRankMore_rv laws_FnRankMore_rs) = laws_FnRankMore_fn fuel x := by kernel_rfl
def laws_FnRankMore_tf (fuel : Nat) : TF := ⟨laws_FnRankMore_ps, laws_FnRankMore_rs, true, laws_FnRankMore_fn fuel⟩
theorem laws_FnRankMore_spec (fuel : Nat) : FnSpec Try.prog 3 (laws_FnRankMore_tf fuel) :=
  fn_spec (T := laws_FnRankMore_T fuel) (c := bodyOf Try.f3) (fn := Try.f3) (TabOK.of (entCons (spec_DrawRankBelow_ok fuel) (entCons (spec_RankBelow_ok fuel) (entCons (impl_RankBelow_ok fuel) entNil))) methNil) mixed (by kernel_rfl) (by kernel_rfl) laws_FnRankMore_l (by kernel_rfl) (Nat.le_of_ble_eq_true (by kernel_rfl)) (rv := laws_FnRankMore_rv) (by kernel_rfl) (laws_FnRankMore_run fuel)
theorem laws_FnRankMore_ok (fuel : Nat) : EntryOK Try.prog 3 (laws_FnRankMore_tf fuel).te := EntryOK.tf rfl (laws_FnRankMore_spec fuel) (isFn (fn := Try.f3) (by kernel_rfl) (by kernel_rfl) (by kernel_rfl))

end Go.Proofs.Ytapicafncjajnaa.Den
