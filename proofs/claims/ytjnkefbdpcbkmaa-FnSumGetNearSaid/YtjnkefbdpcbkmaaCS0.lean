/- Readings of functions of the sums, as functions on plain data (0). -/
import Derived.Test.YtjnkefbdpcbkmaaK0
namespace Go.Proofs.Ytjnkefbdpcbkmaa.Den
open Go Go.RowKit
set_option linter.unusedVariables false
set_option linter.unusedSimpArgs false

/-! ### spec_l6In -/
def spec_l6In_T (fuel : Nat) : Tab := Tab.of [] []
abbrev spec_l6In_ps : List Pm := [{ cs := [(Kd.int IntKind.i64, false)], ag := false }, { cs := [(Kd.int IntKind.i64, false)], ag := false }, { cs := [(Kd.int IntKind.i64, false)], ag := false }]
abbrev spec_l6In_rs : List Pm := [{ cs := [(Kd.bool, false)], ag := false }]
def spec_l6In_ann : List Norm := []
noncomputable def spec_l6In_c : C := irOf Try.prog Try.f67 [] spec_l6In_ann []
theorem spec_l6In_l : lightC Try.prog [] Try.f67.ntmps spec_l6In_ann [] 0 (bodyOf Try.f67) = some (spec_l6In_c, 0) := by kernel_rfl
def spec_l6In_rv : List (Nat × Option (Nat × Bool)) := [(6, none)]
def spec_l6In_pre (fuel : Nat) (x0 : Int) (x1 : Int) (x2 : Int) : Option ((Bool × Unit) × Unit) :=
 cond (decide (x0 ≥ x1))
 (some (((decide (x0 ≤ x2), ()), ())))
 (some (((false, ()), ())))
def spec_l6In_fn (fuel : Nat) (x : ((Int × Unit) × ((Int × Unit) × ((Int × Unit) × Unit)))) : Option ((Bool × Unit) × Unit) := spec_l6In_pre fuel x.1.1 x.2.1.1 x.2.2.1.1
theorem spec_l6In_run (fuel : Nat) (x : PsT spec_l6In_ps) : run (spec_l6In_T fuel) 0 fuel spec_l6In_c (env0 (svPs spec_l6In_ps x) 0) [] (endF spec_l6In_rv spec_l6In_rs) = spec_l6In_fn fuel x := by kernel_rfl
def spec_l6In_tf (fuel : Nat) : TF := ⟨spec_l6In_ps, spec_l6In_rs, true, spec_l6In_fn fuel⟩
theorem spec_l6In_spec (fuel : Nat) : FnSpec Try.prog 67 (spec_l6In_tf fuel) :=
  fn_spec (T := spec_l6In_T fuel) (c := bodyOf Try.f67) (fn := Try.f67) (TabOK.of (entNil) (methNil)) mixed (by kernel_rfl) (by kernel_rfl) spec_l6In_l (by kernel_rfl) (Nat.le_of_ble_eq_true (by kernel_rfl)) (rv := spec_l6In_rv) (by kernel_rfl) (spec_l6In_run fuel)
theorem spec_l6In_ok (fuel : Nat) : EntryOK Try.prog 67 (spec_l6In_tf fuel).te := EntryOK.tf rfl (spec_l6In_spec fuel) (isFn (fn := Try.f67) (by kernel_rfl) (by kernel_rfl) (by kernel_rfl))

/-! ### spec_RankOk -/
def spec_RankOk_T (fuel : Nat) : Tab := Tab.of [(67, (spec_l6In_tf fuel).te)] []
abbrev spec_RankOk_ps : List Pm := [{ cs := [(Kd.list (Kd.pair (Kd.int IntKind.i64) (Kd.pair (Kd.int IntKind.i64) Kd.unit)), false), (Kd.int IntKind.i64, false)], ag := true }]
abbrev spec_RankOk_rs : List Pm := [{ cs := [(Kd.bool, false)], ag := false }]
def spec_RankOk_ann : List Norm := [{ live := [4, 1, 3], fix := [] }]
noncomputable def spec_RankOk_c : C := irOf Try.prog Try.f54 [] spec_RankOk_ann []
theorem spec_RankOk_l : lightC Try.prog [] Try.f54.ntmps spec_RankOk_ann [] 0 (bodyOf Try.f54) = some (spec_RankOk_c, 1) := by kernel_rfl
def spec_RankOk_rv : List (Nat × Option (Nat × Bool)) := [(2, none)]
abbrev spec_RankOk_V0 := (Int) × (Int) × (List (Int × Int × Unit)) × (Int)
def spec_RankOk_enc0 (v : spec_RankOk_V0) : Env × Heap := ([(4, SV.int IntKind.i64 v.1), (1, SV.ptr 0 0), (3, SV.int IntKind.i64 v.2.1)], [Blk.cells [SV.es (Kd.pair (Kd.int IntKind.i64) (Kd.pair (Kd.int IntKind.i64) Kd.unit)) v.2.2.1, SV.int IntKind.i64 v.2.2.2] 0 2])
def spec_RankOk_step0 (fuel : Nat) (g0 : spec_RankOk_V0 → Option ((Bool × Unit) × Unit)) (v : spec_RankOk_V0) : Option ((Bool × Unit) × Unit) :=
 cond (decide (v.1 < (zz (List.length v.2.2.1))))
 (tst (decide (0 ≤ v.1)) <|
  tst (decide (v.1 < (zz (List.length v.2.2.1)))) <|
  Option.bind (spec_l6In_fn fuel (((List.getD v.2.2.1 (Int.toNat v.1) (0, (0, ()))).fst, ()), ((1 : Int), ()), ((127 : Int), ()), ())) fun y_2 =>
  cond (!y_2.fst.fst)
   (some (((false, ()), ())))
   (Option.bind (spec_l6In_fn fuel (((List.getD v.2.2.1 (Int.toNat v.1) (0, (0, ()))).snd.fst, ()), ((1 : Int), ()), ((2000 : Int), ()), ())) fun y_4 =>
    cond (!y_4.fst.fst)
     (some (((false, ()), ())))
     (cond (decide (v.1 > (0 : Int)))
      (tst (decide (0 ≤ w64 (v.1 - (1 : Int)))) <|
       tst (decide (w64 (v.1 - (1 : Int)) < (zz (List.length v.2.2.1)))) <|
       cond (decide ((List.getD v.2.2.1 (Int.toNat (w64 (v.1 - (1 : Int)))) (0, (0, ()))).fst ≥ (List.getD v.2.2.1 (Int.toNat v.1) (0, (0, ()))).fst))
       (some (((false, ()), ())))
       (cond (decide ((List.getD v.2.2.1 (Int.toNat v.1) (0, (0, ()))).fst < (64 : Int)))
        (cond (decide ((List.getD v.2.2.1 (Int.toNat v.1) (0, (0, ()))).snd.fst > w64 (Int.tdiv v.2.2.2 (8 : Int))))
         (some (((false, ()), ())))
         (g0 (w64 (v.1 + (1 : Int)), w64 (v.2.1 + (List.getD v.2.2.1 (Int.toNat v.1) (0, (0, ()))).snd.fst), v.2.2.1, v.2.2.2)))
        (g0 (w64 (v.1 + (1 : Int)), w64 (v.2.1 + (List.getD v.2.2.1 (Int.toNat v.1) (0, (0, ()))).snd.fst), v.2.2.1, v.2.2.2))))
      (cond (decide ((List.getD v.2.2.1 (Int.toNat v.1) (0, (0, ()))).fst < (64 : Int)))
       (cond (decide ((List.getD v.2.2.1 (Int.toNat v.1) (0, (0, ()))).snd.fst > w64 (Int.tdiv v.2.2.2 (8 : Int))))
        (some (((false, ()), ())))
        (g0 (w64 (v.1 + (1 : Int)), w64 (v.2.1 + (List.getD v.2.2.1 (Int.toNat v.1) (0, (0, ()))).snd.fst), v.2.2.1, v.2.2.2)))
       (g0 (w64 (v.1 + (1 : Int)), w64 (v.2.1 + (List.getD v.2.2.1 (Int.toNat v.1) (0, (0, ()))).snd.fst), v.2.2.1, v.2.2.2))))))
 (some (((v.2.1 == v.2.2.2, ()), ())))
def spec_RankOk_st0 (fuel : Nat) (g0 : spec_RankOk_V0 → Option ((Bool × Unit) × Unit)) : spec_RankOk_V0 → Option ((Bool × Unit) × Unit) := spec_RankOk_step0 fuel g0
theorem spec_RankOk_lp0 (fuel : Nat) (G) : spec_RankOk_c.lp (spec_RankOk_T fuel) 0 fuel G (endF spec_RankOk_rv spec_RankOk_rs) 0 spec_RankOk_enc0 = iter (spec_RankOk_st0 fuel) fuel := C.lp_iter fun g v => by kernel_rfl
def spec_RankOk_pre (fuel : Nat) (X0 : spec_RankOk_V0 → Option ((Bool × Unit) × Unit)) (x0 : List (Int × Int × Unit)) (x1 : Int) : Option ((Bool × Unit) × Unit) :=
 Option.bind (spec_l6In_fn fuel ((x1, ()), ((0 : Int), ()), ((2000 : Int), ()), ())) fun y_1 =>
 cond (!y_1.fst.fst)
  (some (((false, ()), ())))
  (X0 ((0 : Int), (0 : Int), x0, x1))
def spec_RankOk_fn (fuel : Nat) (x : (((List (Int × (Int × Unit))) × (Int × Unit)) × Unit)) : Option ((Bool × Unit) × Unit) := spec_RankOk_pre fuel (iter (spec_RankOk_st0 fuel) fuel) x.1.1 x.1.2.1
theorem spec_RankOk_run (fuel : Nat) (x : PsT spec_RankOk_ps) : run (spec_RankOk_T fuel) 0 fuel spec_RankOk_c (env0 (svPs spec_RankOk_ps x) 0) [] (endF spec_RankOk_rv spec_RankOk_rs) = spec_RankOk_fn fuel x :=
  (show run (spec_RankOk_T fuel) 0 fuel spec_RankOk_c (env0 (svPs spec_RankOk_ps x) 0) [] (endF spec_RankOk_rv spec_RankOk_rs) = spec_RankOk_pre fuel (spec_RankOk_c.lp (spec_RankOk_T fuel) 0 fuel (fun _ _ _ => none) (endF spec_RankOk_rv spec_RankOk_rs) 0 spec_RankOk_enc0) x.1.1 x.1.2.1 by kernel_rfl).trans (by rw [spec_RankOk_lp0]; rfl)
def spec_RankOk_tf (fuel : Nat) : TF := ⟨spec_RankOk_ps, spec_RankOk_rs, true, spec_RankOk_fn fuel⟩
theorem spec_RankOk_spec (fuel : Nat) : FnSpec Try.prog 54 (spec_RankOk_tf fuel) :=
  fn_spec (T := spec_RankOk_T fuel) (c := bodyOf Try.f54) (fn := Try.f54) (TabOK.of (entCons (spec_l6In_ok fuel) entNil) (methNil)) mixed (by kernel_rfl) (by kernel_rfl) spec_RankOk_l (by kernel_rfl) (Nat.le_of_ble_eq_true (by kernel_rfl)) (rv := spec_RankOk_rv) (by kernel_rfl) (spec_RankOk_run fuel)
theorem spec_RankOk_ok (fuel : Nat) : EntryOK Try.prog 54 (spec_RankOk_tf fuel).te := EntryOK.tf rfl (spec_RankOk_spec fuel) (isFn (fn := Try.f54) (by kernel_rfl) (by kernel_rfl) (by kernel_rfl))

/-! ### impl_RankOk -/
def impl_RankOk_T (fuel : Nat) : Tab := Tab.of [] []
abbrev impl_RankOk_ps : List Pm := [{ cs := [(Kd.list (Kd.pair (Kd.int IntKind.i64) (Kd.pair (Kd.int IntKind.i64) Kd.unit)), false), (Kd.int IntKind.i64, false)], ag := true }]
abbrev impl_RankOk_rs : List Pm := [{ cs := [(Kd.bool, false)], ag := false }]
def impl_RankOk_ann : List Norm := [{ live := [18, 17, 16, 3, 1, 4], fix := [] }]
noncomputable def impl_RankOk_c : C := irOf Try.prog Try.f27 [] impl_RankOk_ann []
theorem impl_RankOk_l : lightC Try.prog [] Try.f27.ntmps impl_RankOk_ann [] 0 (bodyOf Try.f27) = some (impl_RankOk_c, 1) := by kernel_rfl
def impl_RankOk_rv : List (Nat × Option (Nat × Bool)) := [(2, none)]
abbrev impl_RankOk_V0 := (Int) × (Int) × (List (Int × Int × Unit)) × (Int) × (Int) × (List (Int × Int × Unit)) × (Int)
def impl_RankOk_enc0 (v : impl_RankOk_V0) : Env × Heap := ([(18, SV.int IntKind.i64 v.1), (17, SV.int IntKind.i64 v.2.1), (16, SV.es (Kd.pair (Kd.int IntKind.i64) (Kd.pair (Kd.int IntKind.i64) Kd.unit)) v.2.2.1), (3, SV.int IntKind.i64 v.2.2.2.1), (1, SV.ptr 0 0), (4, SV.int IntKind.i64 v.2.2.2.2.1)], [Blk.cells [SV.es (Kd.pair (Kd.int IntKind.i64) (Kd.pair (Kd.int IntKind.i64) Kd.unit)) v.2.2.2.2.2.1, SV.int IntKind.i64 v.2.2.2.2.2.2] 0 2])
def impl_RankOk_step0 (fuel : Nat) (g0 : impl_RankOk_V0 → Option ((Bool × Unit) × Unit)) (v : impl_RankOk_V0) : Option ((Bool × Unit) × Unit) :=
 cond (decide (v.1 < v.2.1))
 (tst (decide (0 ≤ v.1)) <|
  tst (decide (v.1 < (zz (List.length v.2.2.1)))) <|
  cond (decide ((List.getD v.2.2.1 (Int.toNat v.1) (0, (0, ()))).fst ≤ v.2.2.2.1))
  (some (((false, ()), ())))
  (cond (decide ((List.getD v.2.2.1 (Int.toNat v.1) (0, (0, ()))).fst ≥ (128 : Int)))
   (some (((false, ()), ())))
   (cond (decide ((List.getD v.2.2.1 (Int.toNat v.1) (0, (0, ()))).snd.fst < (1 : Int)))
    (some (((false, ()), ())))
    (cond (decide ((List.getD v.2.2.1 (Int.toNat v.1) (0, (0, ()))).snd.fst > (2000 : Int)))
     (some (((false, ()), ())))
     (cond (decide ((List.getD v.2.2.1 (Int.toNat v.1) (0, (0, ()))).fst < (64 : Int)))
      (cond (decide ((List.getD v.2.2.1 (Int.toNat v.1) (0, (0, ()))).snd.fst > w64 (Int.tdiv v.2.2.2.2.2.2 (8 : Int))))
       (some (((false, ()), ())))
       (g0 (w64 (v.1 + (1 : Int)), v.2.1, v.2.2.1, (List.getD v.2.2.1 (Int.toNat v.1) (0, (0, ()))).fst, w64 (v.2.2.2.2.1 + (List.getD v.2.2.1 (Int.toNat v.1) (0, (0, ()))).snd.fst), v.2.2.2.2.2.1, v.2.2.2.2.2.2)))
      (g0 (w64 (v.1 + (1 : Int)), v.2.1, v.2.2.1, (List.getD v.2.2.1 (Int.toNat v.1) (0, (0, ()))).fst, w64 (v.2.2.2.2.1 + (List.getD v.2.2.1 (Int.toNat v.1) (0, (0, ()))).snd.fst), v.2.2.2.2.2.1, v.2.2.2.2.2.2)))))))
 (some (((v.2.2.2.2.1 == v.2.2.2.2.2.2, ()), ())))
def impl_RankOk_st0 (fuel : Nat) (g0 : impl_RankOk_V0 → Option ((Bool × Unit) × Unit)) : impl_RankOk_V0 → Option ((Bool × Unit) × Unit) := impl_RankOk_step0 fuel g0
theorem impl_RankOk_lp0 (fuel : Nat) (G) : impl_RankOk_c.lp (impl_RankOk_T fuel) 0 fuel G (endF impl_RankOk_rv impl_RankOk_rs) 0 impl_RankOk_enc0 = iter (impl_RankOk_st0 fuel) fuel := C.lp_iter fun g v => by kernel_rfl
def impl_RankOk_pre (fuel : Nat) (X0 : impl_RankOk_V0 → Option ((Bool × Unit) × Unit)) (x0 : List (Int × Int × Unit)) (x1 : Int) : Option ((Bool × Unit) × Unit) :=
 cond (decide (x1 < (0 : Int)))
 (some (((false, ()), ())))
 (cond (decide (x1 > (2000 : Int)))
  (some (((false, ()), ())))
  (X0 ((0 : Int), (zz (List.length x0)), x0, (0 : Int), (0 : Int), x0, x1)))
def impl_RankOk_fn (fuel : Nat) (x : (((List (Int × (Int × Unit))) × (Int × Unit)) × Unit)) : Option ((Bool × Unit) × Unit) := impl_RankOk_pre fuel (iter (impl_RankOk_st0 fuel) fuel) x.1.1 x.1.2.1
theorem impl_RankOk_run (fuel : Nat) (x : PsT impl_RankOk_ps) : run (impl_RankOk_T fuel) 0 fuel impl_RankOk_c (env0 (svPs impl_RankOk_ps x) 0) [] (endF impl_RankOk_rv impl_RankOk_rs) = impl_RankOk_fn fuel x :=
  (show run (impl_RankOk_T fuel) 0 fuel impl_RankOk_c (env0 (svPs impl_RankOk_ps x) 0) [] (endF impl_RankOk_rv impl_RankOk_rs) = impl_RankOk_pre fuel (impl_RankOk_c.lp (impl_RankOk_T fuel) 0 fuel (fun _ _ _ => none) (endF impl_RankOk_rv impl_RankOk_rs) 0 impl_RankOk_enc0) x.1.1 x.1.2.1 by kernel_rfl).trans (by rw [impl_RankOk_lp0]; rfl)
def impl_RankOk_tf (fuel : Nat) : TF := ⟨impl_RankOk_ps, impl_RankOk_rs, true, impl_RankOk_fn fuel⟩
theorem impl_RankOk_spec (fuel : Nat) : FnSpec Try.prog 27 (impl_RankOk_tf fuel) :=
  fn_spec (T := impl_RankOk_T fuel) (c := bodyOf Try.f27) (fn := Try.f27) (TabOK.of (entNil) (methNil)) mixed (by kernel_rfl) (by kernel_rfl) impl_RankOk_l (by kernel_rfl) (Nat.le_of_ble_eq_true (by kernel_rfl)) (rv := impl_RankOk_rv) (by kernel_rfl) (impl_RankOk_run fuel)
theorem impl_RankOk_ok (fuel : Nat) : EntryOK Try.prog 27 (impl_RankOk_tf fuel).te := EntryOK.tf rfl (impl_RankOk_spec fuel) (isFn (fn := Try.f27) (by kernel_rfl) (by kernel_rfl) (by kernel_rfl))

/-! ### impl_isThing -/
def impl_isThing_T (fuel : Nat) : Tab := Tab.of [] []
abbrev impl_isThing_ps : List Pm := [{ cs := [(Kd.int IntKind.i64, false)], ag := false }]
abbrev impl_isThing_rs : List Pm := [{ cs := [(Kd.bool, false)], ag := false }]
def impl_isThing_ann : List Norm := []
noncomputable def impl_isThing_c : C := irOf Try.prog Try.f71 [] impl_isThing_ann []
theorem impl_isThing_l : lightC Try.prog [] Try.f71.ntmps impl_isThing_ann [] 0 (bodyOf Try.f71) = some (impl_isThing_c, 0) := by kernel_rfl
def impl_isThing_rv : List (Nat × Option (Nat × Bool)) := [(2, none)]
def impl_isThing_pre (fuel : Nat) (x0 : Int) : Option ((Bool × Unit) × Unit) :=
 cond (decide (x0 ≥ (0 : Int)))
 (some (((decide (x0 < (64 : Int)), ()), ())))
 (some (((false, ()), ())))
def impl_isThing_fn (fuel : Nat) (x : ((Int × Unit) × Unit)) : Option ((Bool × Unit) × Unit) := impl_isThing_pre fuel x.1.1
theorem impl_isThing_run (fuel : Nat) (x : PsT impl_isThing_ps) : run (impl_isThing_T fuel) 0 fuel impl_isThing_c (env0 (svPs impl_isThing_ps x) 0) [] (endF impl_isThing_rv impl_isThing_rs) = impl_isThing_fn fuel x := by kernel_rfl
def impl_isThing_tf (fuel : Nat) : TF := ⟨impl_isThing_ps, impl_isThing_rs, true, impl_isThing_fn fuel⟩
theorem impl_isThing_spec (fuel : Nat) : FnSpec Try.prog 71 (impl_isThing_tf fuel) :=
  fn_spec (T := impl_isThing_T fuel) (c := bodyOf Try.f71) (fn := Try.f71) (TabOK.of (entNil) (methNil)) mixed (by kernel_rfl) (by kernel_rfl) impl_isThing_l (by kernel_rfl) (Nat.le_of_ble_eq_true (by kernel_rfl)) (rv := impl_isThing_rv) (by kernel_rfl) (impl_isThing_run fuel)
theorem impl_isThing_ok (fuel : Nat) : EntryOK Try.prog 71 (impl_isThing_tf fuel).te := EntryOK.tf rfl (impl_isThing_spec fuel) (isFn (fn := Try.f71) (by kernel_rfl) (by kernel_rfl) (by kernel_rfl))

/-! ### laws_eqIntS -/
def laws_eqIntS_T (fuel : Nat) : Tab := Tab.of [] []
abbrev laws_eqIntS_ps : List Pm := [{ cs := [(Kd.list (Kd.int IntKind.i64), false)], ag := false }, { cs := [(Kd.list (Kd.int IntKind.i64), false)], ag := false }]
abbrev laws_eqIntS_rs : List Pm := [{ cs := [(Kd.bool, false)], ag := false }]
def laws_eqIntS_ann : List Norm := [{ live := [5, 0, 1], fix := [] }]
noncomputable def laws_eqIntS_c : C := irOf Try.prog Try.f76 [] laws_eqIntS_ann []
theorem laws_eqIntS_l : lightC Try.prog [] Try.f76.ntmps laws_eqIntS_ann [] 0 (bodyOf Try.f76) = some (laws_eqIntS_c, 1) := by kernel_rfl
def laws_eqIntS_rv : List (Nat × Option (Nat × Bool)) := [(4, none)]
abbrev laws_eqIntS_V0 := (Int) × (List Int) × (List Int)
def laws_eqIntS_enc0 (v : laws_eqIntS_V0) : Env × Heap := ([(5, SV.int IntKind.i64 v.1), (0, SV.es (Kd.int IntKind.i64) v.2.1), (1, SV.es (Kd.int IntKind.i64) v.2.2)], [])
def laws_eqIntS_step0 (fuel : Nat) (g0 : laws_eqIntS_V0 → Option ((Bool × Unit) × Unit)) (v : laws_eqIntS_V0) : Option ((Bool × Unit) × Unit) :=
 cond (decide (v.1 < (zz (List.length v.2.1))))
 (tst (decide (0 ≤ v.1)) <|
  tst (decide (v.1 < (zz (List.length v.2.1)))) <|
  tst (decide (0 ≤ v.1)) <|
  tst (decide (v.1 < (zz (List.length v.2.2)))) <|
  cond (List.getD v.2.1 (Int.toNat v.1) 0 != List.getD v.2.2 (Int.toNat v.1) 0)
  (some (((false, ()), ())))
  (g0 (w64 (v.1 + (1 : Int)), v.2.1, v.2.2)))
 (some (((true, ()), ())))
def laws_eqIntS_st0 (fuel : Nat) (g0 : laws_eqIntS_V0 → Option ((Bool × Unit) × Unit)) : laws_eqIntS_V0 → Option ((Bool × Unit) × Unit) := laws_eqIntS_step0 fuel g0
theorem laws_eqIntS_lp0 (fuel : Nat) (G) : laws_eqIntS_c.lp (laws_eqIntS_T fuel) 0 fuel G (endF laws_eqIntS_rv laws_eqIntS_rs) 0 laws_eqIntS_enc0 = iter (laws_eqIntS_st0 fuel) fuel := C.lp_iter fun g v => by kernel_rfl
def laws_eqIntS_pre (fuel : Nat) (X0 : laws_eqIntS_V0 → Option ((Bool × Unit) × Unit)) (x0 : List Int) (x1 : List Int) : Option ((Bool × Unit) × Unit) :=
 cond ((zz (List.length x0)) != (zz (List.length x1)))
 (some (((false, ()), ())))
 (X0 ((0 : Int), x0, x1))
def laws_eqIntS_fn (fuel : Nat) (x : (((List Int) × Unit) × (((List Int) × Unit) × Unit))) : Option ((Bool × Unit) × Unit) := laws_eqIntS_pre fuel (iter (laws_eqIntS_st0 fuel) fuel) x.1.1 x.2.1.1
theorem laws_eqIntS_run (fuel : Nat) (x : PsT laws_eqIntS_ps) : run (laws_eqIntS_T fuel) 0 fuel laws_eqIntS_c (env0 (svPs laws_eqIntS_ps x) 0) [] (endF laws_eqIntS_rv laws_eqIntS_rs) = laws_eqIntS_fn fuel x :=
  (show run (laws_eqIntS_T fuel) 0 fuel laws_eqIntS_c (env0 (svPs laws_eqIntS_ps x) 0) [] (endF laws_eqIntS_rv laws_eqIntS_rs) = laws_eqIntS_pre fuel (laws_eqIntS_c.lp (laws_eqIntS_T fuel) 0 fuel (fun _ _ _ => none) (endF laws_eqIntS_rv laws_eqIntS_rs) 0 laws_eqIntS_enc0) x.1.1 x.2.1.1 by kernel_rfl).trans (by rw [laws_eqIntS_lp0]; rfl)
def laws_eqIntS_tf (fuel : Nat) : TF := ⟨laws_eqIntS_ps, laws_eqIntS_rs, true, laws_eqIntS_fn fuel⟩
theorem laws_eqIntS_spec (fuel : Nat) : FnSpec Try.prog 76 (laws_eqIntS_tf fuel) :=
  fn_spec (T := laws_eqIntS_T fuel) (c := bodyOf Try.f76) (fn := Try.f76) (TabOK.of (entNil) (methNil)) mixed (by kernel_rfl) (by kernel_rfl) laws_eqIntS_l (by kernel_rfl) (Nat.le_of_ble_eq_true (by kernel_rfl)) (rv := laws_eqIntS_rv) (by kernel_rfl) (laws_eqIntS_run fuel)
theorem laws_eqIntS_ok (fuel : Nat) : EntryOK Try.prog 76 (laws_eqIntS_tf fuel).te := EntryOK.tf rfl (laws_eqIntS_spec fuel) (isFn (fn := Try.f76) (by kernel_rfl) (by kernel_rfl) (by kernel_rfl))

/-! ### laws_eqIntSS -/
def laws_eqIntSS_T (fuel : Nat) : Tab := Tab.of [(76, (laws_eqIntS_tf fuel).te)] []
abbrev laws_eqIntSS_ps : List Pm := [{ cs := [(Kd.list (Kd.list (Kd.int IntKind.i64)), false)], ag := false }, { cs := [(Kd.list (Kd.list (Kd.int IntKind.i64)), false)], ag := false }]
abbrev laws_eqIntSS_rs : List Pm := [{ cs := [(Kd.bool, false)], ag := false }]
def laws_eqIntSS_ann : List Norm := [{ live := [5, 0, 1], fix := [] }]
noncomputable def laws_eqIntSS_c : C := irOf Try.prog Try.f75 [] laws_eqIntSS_ann []
theorem laws_eqIntSS_l : lightC Try.prog [] Try.f75.ntmps laws_eqIntSS_ann [] 0 (bodyOf Try.f75) = some (laws_eqIntSS_c, 1) := by kernel_rfl
def laws_eqIntSS_rv : List (Nat × Option (Nat × Bool)) := [(4, none)]
abbrev laws_eqIntSS_V0 := (Int) × (List (List Int)) × (List (List Int))
def laws_eqIntSS_enc0 (v : laws_eqIntSS_V0) : Env × Heap := ([(5, SV.int IntKind.i64 v.1), (0, SV.es (Kd.list (Kd.int IntKind.i64)) v.2.1), (1, SV.es (Kd.list (Kd.int IntKind.i64)) v.2.2)], [])
def laws_eqIntSS_step0 (fuel : Nat) (g0 : laws_eqIntSS_V0 → Option ((Bool × Unit) × Unit)) (v : laws_eqIntSS_V0) : Option ((Bool × Unit) × Unit) :=
 cond (decide (v.1 < (zz (List.length v.2.1))))
 (tst (decide (0 ≤ v.1)) <|
  tst (decide (v.1 < (zz (List.length v.2.1)))) <|
  tst (decide (0 ≤ v.1)) <|
  tst (decide (v.1 < (zz (List.length v.2.2)))) <|
  Option.bind (laws_eqIntS_fn fuel ((List.getD v.2.1 (Int.toNat v.1) [], ()), (List.getD v.2.2 (Int.toNat v.1) [], ()), ())) fun y_2 =>
  cond (!y_2.fst.fst)
   (some (((false, ()), ())))
   (g0 (w64 (v.1 + (1 : Int)), v.2.1, v.2.2)))
 (some (((true, ()), ())))
def laws_eqIntSS_st0 (fuel : Nat) (g0 : laws_eqIntSS_V0 → Option ((Bool × Unit) × Unit)) : laws_eqIntSS_V0 → Option ((Bool × Unit) × Unit) := laws_eqIntSS_step0 fuel g0
theorem laws_eqIntSS_lp0 (fuel : Nat) (G) : laws_eqIntSS_c.lp (laws_eqIntSS_T fuel) 0 fuel G (endF laws_eqIntSS_rv laws_eqIntSS_rs) 0 laws_eqIntSS_enc0 = iter (laws_eqIntSS_st0 fuel) fuel := C.lp_iter fun g v => by kernel_rfl
def laws_eqIntSS_pre (fuel : Nat) (X0 : laws_eqIntSS_V0 → Option ((Bool × Unit) × Unit)) (x0 : List (List Int)) (x1 : List (List Int)) : Option ((Bool × Unit) × Unit) :=
 cond ((zz (List.length x0)) != (zz (List.length x1)))
 (some (((false, ()), ())))
 (X0 ((0 : Int), x0, x1))
def laws_eqIntSS_fn (fuel : Nat) (x : (((List (List Int)) × Unit) × (((List (List Int)) × Unit) × Unit))) : Option ((Bool × Unit) × Unit) := laws_eqIntSS_pre fuel (iter (laws_eqIntSS_st0 fuel) fuel) x.1.1 x.2.1.1
theorem laws_eqIntSS_run (fuel : Nat) (x : PsT laws_eqIntSS_ps) : run (laws_eqIntSS_T fuel) 0 fuel laws_eqIntSS_c (env0 (svPs laws_eqIntSS_ps x) 0) [] (endF laws_eqIntSS_rv laws_eqIntSS_rs) = laws_eqIntSS_fn fuel x :=
  (show run (laws_eqIntSS_T fuel) 0 fuel laws_eqIntSS_c (env0 (svPs laws_eqIntSS_ps x) 0) [] (endF laws_eqIntSS_rv laws_eqIntSS_rs) = laws_eqIntSS_pre fuel (laws_eqIntSS_c.lp (laws_eqIntSS_T fuel) 0 fuel (fun _ _ _ => none) (endF laws_eqIntSS_rv laws_eqIntSS_rs) 0 laws_eqIntSS_enc0) x.1.1 x.2.1.1 by kernel_rfl).trans (by rw [laws_eqIntSS_lp0]; rfl)
def laws_eqIntSS_tf (fuel : Nat) : TF := ⟨laws_eqIntSS_ps, laws_eqIntSS_rs, true, laws_eqIntSS_fn fuel⟩
theorem laws_eqIntSS_spec (fuel : Nat) : FnSpec Try.prog 75 (laws_eqIntSS_tf fuel) :=
  fn_spec (T := laws_eqIntSS_T fuel) (c := bodyOf Try.f75) (fn := Try.f75) (TabOK.of (entCons (laws_eqIntS_ok fuel) entNil) (methNil)) mixed (by kernel_rfl) (by kernel_rfl) laws_eqIntSS_l (by kernel_rfl) (Nat.le_of_ble_eq_true (by kernel_rfl)) (rv := laws_eqIntSS_rv) (by kernel_rfl) (laws_eqIntSS_run fuel)
theorem laws_eqIntSS_ok (fuel : Nat) : EntryOK Try.prog 75 (laws_eqIntSS_tf fuel).te := EntryOK.tf rfl (laws_eqIntSS_spec fuel) (isFn (fn := Try.f75) (by kernel_rfl) (by kernel_rfl) (by kernel_rfl))

/-! ### laws_eqRough -/
def laws_eqRough_T (fuel : Nat) : Tab := Tab.of [(75, (laws_eqIntSS_tf fuel).te)] []
abbrev laws_eqRough_ps : List Pm := [{ cs := [(Kd.list (Kd.list (Kd.int IntKind.i64)), false)], ag := true }, { cs := [(Kd.list (Kd.list (Kd.int IntKind.i64)), false)], ag := true }]
abbrev laws_eqRough_rs : List Pm := [{ cs := [(Kd.bool, false)], ag := false }]
def laws_eqRough_ann : List Norm := []
noncomputable def laws_eqRough_c : C := irOf Try.prog Try.f35 [] laws_eqRough_ann []
theorem laws_eqRough_l : lightC Try.prog [] Try.f35.ntmps laws_eqRough_ann [] 0 (bodyOf Try.f35) = some (laws_eqRough_c, 0) := by kernel_rfl
def laws_eqRough_rv : List (Nat × Option (Nat × Bool)) := [(4, none)]
def laws_eqRough_pre (fuel : Nat) (x0 : List (List Int)) (x1 : List (List Int)) : Option ((Bool × Unit) × Unit) :=
 Option.bind (laws_eqIntSS_fn fuel ((x0, ()), (x1, ()), ())) fun y_1 =>
 cond (!y_1.fst.fst)
  (some (((false, ()), ())))
  (some (((true, ()), ())))
def laws_eqRough_fn (fuel : Nat) (x : (((List (List Int)) × Unit) × (((List (List Int)) × Unit) × Unit))) : Option ((Bool × Unit) × Unit) := laws_eqRough_pre fuel x.1.1 x.2.1.1
theorem laws_eqRough_run (fuel : Nat) (x : PsT laws_eqRough_ps) : run (laws_eqRough_T fuel) 0 fuel laws_eqRough_c (env0 (svPs laws_eqRough_ps x) 0) [] (endF laws_eqRough_rv laws_eqRough_rs) = laws_eqRough_fn fuel x := by kernel_rfl
def laws_eqRough_tf (fuel : Nat) : TF := ⟨laws_eqRough_ps, laws_eqRough_rs, true, laws_eqRough_fn fuel⟩
theorem laws_eqRough_spec (fuel : Nat) : FnSpec Try.prog 35 (laws_eqRough_tf fuel) :=
  fn_spec (T := laws_eqRough_T fuel) (c := bodyOf Try.f35) (fn := Try.f35) (TabOK.of (entCons (laws_eqIntSS_ok fuel) entNil) (methNil)) mixed (by kernel_rfl) (by kernel_rfl) laws_eqRough_l (by kernel_rfl) (Nat.le_of_ble_eq_true (by kernel_rfl)) (rv := laws_eqRough_rv) (by kernel_rfl) (laws_eqRough_run fuel)
theorem laws_eqRough_ok (fuel : Nat) : EntryOK Try.prog 35 (laws_eqRough_tf fuel).te := EntryOK.tf rfl (laws_eqRough_spec fuel) (isFn (fn := Try.f35) (by kernel_rfl) (by kernel_rfl) (by kernel_rfl))

/-! ### laws_eqFew -/
def laws_eqFew_T (fuel : Nat) : Tab := Tab.of [(76, (laws_eqIntS_tf fuel).te)] []
abbrev laws_eqFew_ps : List Pm := [{ cs := [(Kd.list (Kd.int IntKind.i64), false)], ag := true }, { cs := [(Kd.list (Kd.int IntKind.i64), false)], ag := true }]
abbrev laws_eqFew_rs : List Pm := [{ cs := [(Kd.bool, false)], ag := false }]
def laws_eqFew_ann : List Norm := []
noncomputable def laws_eqFew_c : C := irOf Try.prog Try.f36 [] laws_eqFew_ann []
theorem laws_eqFew_l : lightC Try.prog [] Try.f36.ntmps laws_eqFew_ann [] 0 (bodyOf Try.f36) = some (laws_eqFew_c, 0) := by kernel_rfl
def laws_eqFew_rv : List (Nat × Option (Nat × Bool)) := [(4, none)]
def laws_eqFew_pre (fuel : Nat) (x0 : List Int) (x1 : List Int) : Option ((Bool × Unit) × Unit) :=
 Option.bind (laws_eqIntS_fn fuel ((x0, ()), (x1, ()), ())) fun y_1 =>
 cond (!y_1.fst.fst)
  (some (((false, ()), ())))
  (some (((true, ()), ())))
def laws_eqFew_fn (fuel : Nat) (x : (((List Int) × Unit) × (((List Int) × Unit) × Unit))) : Option ((Bool × Unit) × Unit) := laws_eqFew_pre fuel x.1.1 x.2.1.1
theorem laws_eqFew_run (fuel : Nat) (x : PsT laws_eqFew_ps) : run (laws_eqFew_T fuel) 0 fuel laws_eqFew_c (env0 (svPs laws_eqFew_ps x) 0) [] (endF laws_eqFew_rv laws_eqFew_rs) = laws_eqFew_fn fuel x := by kernel_rfl
def laws_eqFew_tf (fuel : Nat) : TF := ⟨laws_eqFew_ps, laws_eqFew_rs, true, laws_eqFew_fn fuel⟩
theorem laws_eqFew_spec (fuel : Nat) : FnSpec Try.prog 36 (laws_eqFew_tf fuel) :=
  fn_spec (T := laws_eqFew_T fuel) (c := bodyOf Try.f36) (fn := Try.f36) (TabOK.of (entCons (laws_eqIntS_ok fuel) entNil) (methNil)) mixed (by kernel_rfl) (by kernel_rfl) laws_eqFew_l (by kernel_rfl) (Nat.le_of_ble_eq_true (by kernel_rfl)) (rv := laws_eqFew_rv) (by kernel_rfl) (laws_eqFew_run fuel)
theorem laws_eqFew_ok (fuel : Nat) : EntryOK Try.prog 36 (laws_eqFew_tf fuel).te := EntryOK.tf rfl (laws_eqFew_spec fuel) (isFn (fn := Try.f36) (by kernel_rfl) (by kernel_rfl) (by kernel_rfl))

/-! ### laws_eqPair -/
def laws_eqPair_T (fuel : Nat) : Tab := Tab.of [] []
abbrev laws_eqPair_ps : List Pm := [{ cs := [(Kd.int IntKind.i64, false), (Kd.int IntKind.i64, false)], ag := true }, { cs := [(Kd.int IntKind.i64, false), (Kd.int IntKind.i64, false)], ag := true }]
abbrev laws_eqPair_rs : List Pm := [{ cs := [(Kd.bool, false)], ag := false }]
def laws_eqPair_ann : List Norm := []
noncomputable def laws_eqPair_c : C := irOf Try.prog Try.f106 [] laws_eqPair_ann []
theorem laws_eqPair_l : lightC Try.prog [] Try.f106.ntmps laws_eqPair_ann [] 0 (bodyOf Try.f106) = some (laws_eqPair_c, 0) := by kernel_rfl
def laws_eqPair_rv : List (Nat × Option (Nat × Bool)) := [(4, none)]
def laws_eqPair_pre (fuel : Nat) (x0 : Int) (x1 : Int) (x2 : Int) (x3 : Int) : Option ((Bool × Unit) × Unit) :=
 cond (x0 != x2)
 (some (((false, ()), ())))
 (cond (x1 != x3)
  (some (((false, ()), ())))
  (some (((true, ()), ()))))
def laws_eqPair_fn (fuel : Nat) (x : ((Int × (Int × Unit)) × ((Int × (Int × Unit)) × Unit))) : Option ((Bool × Unit) × Unit) := laws_eqPair_pre fuel x.1.1 x.1.2.1 x.2.1.1 x.2.1.2.1
theorem laws_eqPair_run (fuel : Nat) (x : PsT laws_eqPair_ps) : run (laws_eqPair_T fuel) 0 fuel laws_eqPair_c (env0 (svPs laws_eqPair_ps x) 0) [] (endF laws_eqPair_rv laws_eqPair_rs) = laws_eqPair_fn fuel x := by kernel_rfl
def laws_eqPair_tf (fuel : Nat) : TF := ⟨laws_eqPair_ps, laws_eqPair_rs, true, laws_eqPair_fn fuel⟩
theorem laws_eqPair_spec (fuel : Nat) : FnSpec Try.prog 106 (laws_eqPair_tf fuel) :=
  fn_spec (T := laws_eqPair_T fuel) (c := bodyOf Try.f106) (fn := Try.f106) (TabOK.of (entNil) (methNil)) mixed (by kernel_rfl) (by kernel_rfl) laws_eqPair_l (by kernel_rfl) (Nat.le_of_ble_eq_true (by kernel_rfl)) (rv := laws_eqPair_rv) (by kernel_rfl) (laws_eqPair_run fuel)
theorem laws_eqPair_ok (fuel : Nat) : EntryOK Try.prog 106 (laws_eqPair_tf fuel).te := EntryOK.tf rfl (laws_eqPair_spec fuel) (isFn (fn := Try.f106) (by kernel_rfl) (by kernel_rfl) (by kernel_rfl))

/-! ### laws_eqPairS -/
def laws_eqPairS_T (fuel : Nat) : Tab := Tab.of [(106, (laws_eqPair_tf fuel).te)] []
abbrev laws_eqPairS_ps : List Pm := [{ cs := [(Kd.list (Kd.pair (Kd.int IntKind.i64) (Kd.pair (Kd.int IntKind.i64) Kd.unit)), false)], ag := false }, { cs := [(Kd.list (Kd.pair (Kd.int IntKind.i64) (Kd.pair (Kd.int IntKind.i64) Kd.unit)), false)], ag := false }]
abbrev laws_eqPairS_rs : List Pm := [{ cs := [(Kd.bool, false)], ag := false }]
def laws_eqPairS_ann : List Norm := [{ live := [5, 0, 1], fix := [] }]
noncomputable def laws_eqPairS_c : C := irOf Try.prog Try.f77 [] laws_eqPairS_ann []
theorem laws_eqPairS_l : lightC Try.prog [] Try.f77.ntmps laws_eqPairS_ann [] 0 (bodyOf Try.f77) = some (laws_eqPairS_c, 1) := by kernel_rfl
def laws_eqPairS_rv : List (Nat × Option (Nat × Bool)) := [(4, none)]
abbrev laws_eqPairS_V0 := (Int) × (List (Int × Int × Unit)) × (List (Int × Int × Unit))
def laws_eqPairS_enc0 (v : laws_eqPairS_V0) : Env × Heap := ([(5, SV.int IntKind.i64 v.1), (0, SV.es (Kd.pair (Kd.int IntKind.i64) (Kd.pair (Kd.int IntKind.i64) Kd.unit)) v.2.1), (1, SV.es (Kd.pair (Kd.int IntKind.i64) (Kd.pair (Kd.int IntKind.i64) Kd.unit)) v.2.2)], [])
def laws_eqPairS_step0 (fuel : Nat) (g0 : laws_eqPairS_V0 → Option ((Bool × Unit) × Unit)) (v : laws_eqPairS_V0) : Option ((Bool × Unit) × Unit) :=
 cond (decide (v.1 < (zz (List.length v.2.1))))
 (tst (decide (0 ≤ v.1)) <|
  tst (decide (v.1 < (zz (List.length v.2.1)))) <|
  tst (decide (0 ≤ v.1)) <|
  tst (decide (v.1 < (zz (List.length v.2.2)))) <|
  Option.bind (laws_eqPair_fn fuel (((List.getD v.2.1 (Int.toNat v.1) (0, (0, ()))).fst, (List.getD v.2.1 (Int.toNat v.1) (0, (0, ()))).snd.fst, ()), ((List.getD v.2.2 (Int.toNat v.1) (0, (0, ()))).fst, (List.getD v.2.2 (Int.toNat v.1) (0, (0, ()))).snd.fst, ()), ())) fun y_2 =>
  cond (!y_2.fst.fst)
   (some (((false, ()), ())))
   (g0 (w64 (v.1 + (1 : Int)), v.2.1, v.2.2)))
 (some (((true, ()), ())))
def laws_eqPairS_st0 (fuel : Nat) (g0 : laws_eqPairS_V0 → Option ((Bool × Unit) × Unit)) : laws_eqPairS_V0 → Option ((Bool × Unit) × Unit) := laws_eqPairS_step0 fuel g0
theorem laws_eqPairS_lp0 (fuel : Nat) (G) : laws_eqPairS_c.lp (laws_eqPairS_T fuel) 0 fuel G (endF laws_eqPairS_rv laws_eqPairS_rs) 0 laws_eqPairS_enc0 = iter (laws_eqPairS_st0 fuel) fuel := C.lp_iter fun g v => by kernel_rfl
def laws_eqPairS_pre (fuel : Nat) (X0 : laws_eqPairS_V0 → Option ((Bool × Unit) × Unit)) (x0 : List (Int × Int × Unit)) (x1 : List (Int × Int × Unit)) : Option ((Bool × Unit) × Unit) :=
 cond ((zz (List.length x0)) != (zz (List.length x1)))
 (some (((false, ()), ())))
 (X0 ((0 : Int), x0, x1))
def laws_eqPairS_fn (fuel : Nat) (x : (((List (Int × (Int × Unit))) × Unit) × (((List (Int × (Int × Unit))) × Unit) × Unit))) : Option ((Bool × Unit) × Unit) := laws_eqPairS_pre fuel (iter (laws_eqPairS_st0 fuel) fuel) x.1.1 x.2.1.1
theorem laws_eqPairS_run (fuel : Nat) (x : PsT laws_eqPairS_ps) : run (laws_eqPairS_T fuel) 0 fuel laws_eqPairS_c (env0 (svPs laws_eqPairS_ps x) 0) [] (endF laws_eqPairS_rv laws_eqPairS_rs) = laws_eqPairS_fn fuel x :=
  (show run (laws_eqPairS_T fuel) 0 fuel laws_eqPairS_c (env0 (svPs laws_eqPairS_ps x) 0) [] (endF laws_eqPairS_rv laws_eqPairS_rs) = laws_eqPairS_pre fuel (laws_eqPairS_c.lp (laws_eqPairS_T fuel) 0 fuel (fun _ _ _ => none) (endF laws_eqPairS_rv laws_eqPairS_rs) 0 laws_eqPairS_enc0) x.1.1 x.2.1.1 by kernel_rfl).trans (by rw [laws_eqPairS_lp0]; rfl)
def laws_eqPairS_tf (fuel : Nat) : TF := ⟨laws_eqPairS_ps, laws_eqPairS_rs, true, laws_eqPairS_fn fuel⟩
theorem laws_eqPairS_spec (fuel : Nat) : FnSpec Try.prog 77 (laws_eqPairS_tf fuel) :=
  fn_spec (T := laws_eqPairS_T fuel) (c := bodyOf Try.f77) (fn := Try.f77) (TabOK.of (entCons (laws_eqPair_ok fuel) entNil) (methNil)) mixed (by kernel_rfl) (by kernel_rfl) laws_eqPairS_l (by kernel_rfl) (Nat.le_of_ble_eq_true (by kernel_rfl)) (rv := laws_eqPairS_rv) (by kernel_rfl) (laws_eqPairS_run fuel)
theorem laws_eqPairS_ok (fuel : Nat) : EntryOK Try.prog 77 (laws_eqPairS_tf fuel).te := EntryOK.tf rfl (laws_eqPairS_spec fuel) (isFn (fn := Try.f77) (by kernel_rfl) (by kernel_rfl) (by kernel_rfl))

/-! ### laws_eqTop -/
def laws_eqTop_T (fuel : Nat) : Tab := Tab.of [(77, (laws_eqPairS_tf fuel).te)] []
abbrev laws_eqTop_ps : List Pm := [{ cs := [(Kd.list (Kd.pair (Kd.int IntKind.i64) (Kd.pair (Kd.int IntKind.i64) Kd.unit)), false), (Kd.int IntKind.i64, false), (Kd.int IntKind.i64, false)], ag := true }, { cs := [(Kd.list (Kd.pair (Kd.int IntKind.i64) (Kd.pair (Kd.int IntKind.i64) Kd.unit)), false), (Kd.int IntKind.i64, false), (Kd.int IntKind.i64, false)], ag := true }]
abbrev laws_eqTop_rs : List Pm := [{ cs := [(Kd.bool, false)], ag := false }]
def laws_eqTop_ann : List Norm := []
noncomputable def laws_eqTop_c : C := irOf Try.prog Try.f37 [] laws_eqTop_ann []
theorem laws_eqTop_l : lightC Try.prog [] Try.f37.ntmps laws_eqTop_ann [] 0 (bodyOf Try.f37) = some (laws_eqTop_c, 0) := by kernel_rfl
def laws_eqTop_rv : List (Nat × Option (Nat × Bool)) := [(4, none)]
def laws_eqTop_pre (fuel : Nat) (x0 : List (Int × Int × Unit)) (x1 : Int) (x2 : Int) (x3 : List (Int × Int × Unit)) (x4 : Int) (x5 : Int) : Option ((Bool × Unit) × Unit) :=
 Option.bind (laws_eqPairS_fn fuel ((x0, ()), (x3, ()), ())) fun y_1 =>
 cond (!y_1.fst.fst)
  (some (((false, ()), ())))
  (cond (x1 != x4)
   (some (((false, ()), ())))
   (cond (x2 != x5)
    (some (((false, ()), ())))
    (some (((true, ()), ())))))
def laws_eqTop_fn (fuel : Nat) (x : (((List (Int × (Int × Unit))) × (Int × (Int × Unit))) × (((List (Int × (Int × Unit))) × (Int × (Int × Unit))) × Unit))) : Option ((Bool × Unit) × Unit) := laws_eqTop_pre fuel x.1.1 x.1.2.1 x.1.2.2.1 x.2.1.1 x.2.1.2.1 x.2.1.2.2.1
theorem laws_eqTop_run (fuel : Nat) (x : PsT laws_eqTop_ps) : run (laws_eqTop_T fuel) 0 fuel laws_eqTop_c (env0 (svPs laws_eqTop_ps x) 0) [] (endF laws_eqTop_rv laws_eqTop_rs) = laws_eqTop_fn fuel x := by kernel_rfl
def laws_eqTop_tf (fuel : Nat) : TF := ⟨laws_eqTop_ps, laws_eqTop_rs, true, laws_eqTop_fn fuel⟩
theorem laws_eqTop_spec (fuel : Nat) : FnSpec Try.prog 37 (laws_eqTop_tf fuel) :=
  fn_spec (T := laws_eqTop_T fuel) (c := bodyOf Try.f37) (fn := Try.f37) (TabOK.of (entCons (laws_eqPairS_ok fuel) entNil) (methNil)) mixed (by kernel_rfl) (by kernel_rfl) laws_eqTop_l (by kernel_rfl) (Nat.le_of_ble_eq_true (by kernel_rfl)) (rv := laws_eqTop_rv) (by kernel_rfl) (laws_eqTop_run fuel)
theorem laws_eqTop_ok (fuel : Nat) : EntryOK Try.prog 37 (laws_eqTop_tf fuel).te := EntryOK.tf rfl (laws_eqTop_spec fuel) (isFn (fn := Try.f37) (by kernel_rfl) (by kernel_rfl) (by kernel_rfl))

/-! ### laws_eqKnot -/
def laws_eqKnot_T (fuel : Nat) : Tab := Tab.of [] []
abbrev laws_eqKnot_ps : List Pm := [{ cs := [(Kd.int IntKind.i64, false), (Kd.int IntKind.i64, false)], ag := true }, { cs := [(Kd.int IntKind.i64, false), (Kd.int IntKind.i64, false)], ag := true }]
abbrev laws_eqKnot_rs : List Pm := [{ cs := [(Kd.bool, false)], ag := false }]
def laws_eqKnot_ann : List Norm := []
noncomputable def laws_eqKnot_c : C := irOf Try.prog Try.f107 [] laws_eqKnot_ann []
theorem laws_eqKnot_l : lightC Try.prog [] Try.f107.ntmps laws_eqKnot_ann [] 0 (bodyOf Try.f107) = some (laws_eqKnot_c, 0) := by kernel_rfl
def laws_eqKnot_rv : List (Nat × Option (Nat × Bool)) := [(4, none)]
def laws_eqKnot_pre (fuel : Nat) (x0 : Int) (x1 : Int) (x2 : Int) (x3 : Int) : Option ((Bool × Unit) × Unit) :=
 cond (x0 != x2)
 (some (((false, ()), ())))
 (cond (x1 != x3)
  (some (((false, ()), ())))
  (some (((true, ()), ()))))
def laws_eqKnot_fn (fuel : Nat) (x : ((Int × (Int × Unit)) × ((Int × (Int × Unit)) × Unit))) : Option ((Bool × Unit) × Unit) := laws_eqKnot_pre fuel x.1.1 x.1.2.1 x.2.1.1 x.2.1.2.1
theorem laws_eqKnot_run (fuel : Nat) (x : PsT laws_eqKnot_ps) : run (laws_eqKnot_T fuel) 0 fuel laws_eqKnot_c (env0 (svPs laws_eqKnot_ps x) 0) [] (endF laws_eqKnot_rv laws_eqKnot_rs) = laws_eqKnot_fn fuel x := by kernel_rfl
def laws_eqKnot_tf (fuel : Nat) : TF := ⟨laws_eqKnot_ps, laws_eqKnot_rs, true, laws_eqKnot_fn fuel⟩
theorem laws_eqKnot_spec (fuel : Nat) : FnSpec Try.prog 107 (laws_eqKnot_tf fuel) :=
  fn_spec (T := laws_eqKnot_T fuel) (c := bodyOf Try.f107) (fn := Try.f107) (TabOK.of (entNil) (methNil)) mixed (by kernel_rfl) (by kernel_rfl) laws_eqKnot_l (by kernel_rfl) (Nat.le_of_ble_eq_true (by kernel_rfl)) (rv := laws_eqKnot_rv) (by kernel_rfl) (laws_eqKnot_run fuel)
theorem laws_eqKnot_ok (fuel : Nat) : EntryOK Try.prog 107 (laws_eqKnot_tf fuel).te := EntryOK.tf rfl (laws_eqKnot_spec fuel) (isFn (fn := Try.f107) (by kernel_rfl) (by kernel_rfl) (by kernel_rfl))

/-! ### laws_eqKnotS -/
def laws_eqKnotS_T (fuel : Nat) : Tab := Tab.of [(107, (laws_eqKnot_tf fuel).te)] []
abbrev laws_eqKnotS_ps : List Pm := [{ cs := [(Kd.list (Kd.pair (Kd.int IntKind.i64) (Kd.pair (Kd.int IntKind.i64) Kd.unit)), false)], ag := false }, { cs := [(Kd.list (Kd.pair (Kd.int IntKind.i64) (Kd.pair (Kd.int IntKind.i64) Kd.unit)), false)], ag := false }]
abbrev laws_eqKnotS_rs : List Pm := [{ cs := [(Kd.bool, false)], ag := false }]
def laws_eqKnotS_ann : List Norm := [{ live := [5, 0, 1], fix := [] }]
noncomputable def laws_eqKnotS_c : C := irOf Try.prog Try.f78 [] laws_eqKnotS_ann []
theorem laws_eqKnotS_l : lightC Try.prog [] Try.f78.ntmps laws_eqKnotS_ann [] 0 (bodyOf Try.f78) = some (laws_eqKnotS_c, 1) := by kernel_rfl
def laws_eqKnotS_rv : List (Nat × Option (Nat × Bool)) := [(4, none)]
abbrev laws_eqKnotS_V0 := (Int) × (List (Int × Int × Unit)) × (List (Int × Int × Unit))
def laws_eqKnotS_enc0 (v : laws_eqKnotS_V0) : Env × Heap := ([(5, SV.int IntKind.i64 v.1), (0, SV.es (Kd.pair (Kd.int IntKind.i64) (Kd.pair (Kd.int IntKind.i64) Kd.unit)) v.2.1), (1, SV.es (Kd.pair (Kd.int IntKind.i64) (Kd.pair (Kd.int IntKind.i64) Kd.unit)) v.2.2)], [])
def laws_eqKnotS_step0 (fuel : Nat) (g0 : laws_eqKnotS_V0 → Option ((Bool × Unit) × Unit)) (v : laws_eqKnotS_V0) : Option ((Bool × Unit) × Unit) :=
 cond (decide (v.1 < (zz (List.length v.2.1))))
 (tst (decide (0 ≤ v.1)) <|
  tst (decide (v.1 < (zz (List.length v.2.1)))) <|
  tst (decide (0 ≤ v.1)) <|
  tst (decide (v.1 < (zz (List.length v.2.2)))) <|
  Option.bind (laws_eqKnot_fn fuel (((List.getD v.2.1 (Int.toNat v.1) (0, (0, ()))).fst, (List.getD v.2.1 (Int.toNat v.1) (0, (0, ()))).snd.fst, ()), ((List.getD v.2.2 (Int.toNat v.1) (0, (0, ()))).fst, (List.getD v.2.2 (Int.toNat v.1) (0, (0, ()))).snd.fst, ()), ())) fun y_2 =>
  cond (!y_2.fst.fst)
   (some (((false, ()), ())))
   (g0 (w64 (v.1 + (1 : Int)), v.2.1, v.2.2)))
 (some (((true, ()), ())))
def laws_eqKnotS_st0 (fuel : Nat) (g0 : laws_eqKnotS_V0 → Option ((Bool × Unit) × Unit)) : laws_eqKnotS_V0 → Option ((Bool × Unit) × Unit) := laws_eqKnotS_step0 fuel g0
theorem laws_eqKnotS_lp0 (fuel : Nat) (G) : laws_eqKnotS_c.lp (laws_eqKnotS_T fuel) 0 fuel G (endF laws_eqKnotS_rv laws_eqKnotS_rs) 0 laws_eqKnotS_enc0 = iter (laws_eqKnotS_st0 fuel) fuel := C.lp_iter fun g v => by kernel_rfl
def laws_eqKnotS_pre (fuel : Nat) (X0 : laws_eqKnotS_V0 → Option ((Bool × Unit) × Unit)) (x0 : List (Int × Int × Unit)) (x1 : List (Int × Int × Unit)) : Option ((Bool × Unit) × Unit) :=
 cond ((zz (List.length x0)) != (zz (List.length x1)))
 (some (((false, ()), ())))
 (X0 ((0 : Int), x0, x1))
def laws_eqKnotS_fn (fuel : Nat) (x : (((List (Int × (Int × Unit))) × Unit) × (((List (Int × (Int × Unit))) × Unit) × Unit))) : Option ((Bool × Unit) × Unit) := laws_eqKnotS_pre fuel (iter (laws_eqKnotS_st0 fuel) fuel) x.1.1 x.2.1.1
theorem laws_eqKnotS_run (fuel : Nat) (x : PsT laws_eqKnotS_ps) : run (laws_eqKnotS_T fuel) 0 fuel laws_eqKnotS_c (env0 (svPs laws_eqKnotS_ps x) 0) [] (endF laws_eqKnotS_rv laws_eqKnotS_rs) = laws_eqKnotS_fn fuel x :=
  (show run (laws_eqKnotS_T fuel) 0 fuel laws_eqKnotS_c (env0 (svPs laws_eqKnotS_ps x) 0) [] (endF laws_eqKnotS_rv laws_eqKnotS_rs) = laws_eqKnotS_pre fuel (laws_eqKnotS_c.lp (laws_eqKnotS_T fuel) 0 fuel (fun _ _ _ => none) (endF laws_eqKnotS_rv laws_eqKnotS_rs) 0 laws_eqKnotS_enc0) x.1.1 x.2.1.1 by kernel_rfl).trans (by rw [laws_eqKnotS_lp0]; rfl)
def laws_eqKnotS_tf (fuel : Nat) : TF := ⟨laws_eqKnotS_ps, laws_eqKnotS_rs, true, laws_eqKnotS_fn fuel⟩
theorem laws_eqKnotS_spec (fuel : Nat) : FnSpec Try.prog 78 (laws_eqKnotS_tf fuel) :=
  fn_spec (T := laws_eqKnotS_T fuel) (c := bodyOf Try.f78) (fn := Try.f78) (TabOK.of (entCons (laws_eqKnot_ok fuel) entNil) (methNil)) mixed (by kernel_rfl) (by kernel_rfl) laws_eqKnotS_l (by kernel_rfl) (Nat.le_of_ble_eq_true (by kernel_rfl)) (rv := laws_eqKnotS_rv) (by kernel_rfl) (laws_eqKnotS_run fuel)
theorem laws_eqKnotS_ok (fuel : Nat) : EntryOK Try.prog 78 (laws_eqKnotS_tf fuel).te := EntryOK.tf rfl (laws_eqKnotS_spec fuel) (isFn (fn := Try.f78) (by kernel_rfl) (by kernel_rfl) (by kernel_rfl))

/-! ### laws_eqRank -/
def laws_eqRank_T (fuel : Nat) : Tab := Tab.of [(78, (laws_eqKnotS_tf fuel).te)] []
abbrev laws_eqRank_ps : List Pm := [{ cs := [(Kd.list (Kd.pair (Kd.int IntKind.i64) (Kd.pair (Kd.int IntKind.i64) Kd.unit)), false), (Kd.int IntKind.i64, false)], ag := true }, { cs := [(Kd.list (Kd.pair (Kd.int IntKind.i64) (Kd.pair (Kd.int IntKind.i64) Kd.unit)), false), (Kd.int IntKind.i64, false)], ag := true }]
abbrev laws_eqRank_rs : List Pm := [{ cs := [(Kd.bool, false)], ag := false }]
def laws_eqRank_ann : List Norm := []
noncomputable def laws_eqRank_c : C := irOf Try.prog Try.f38 [] laws_eqRank_ann []
theorem laws_eqRank_l : lightC Try.prog [] Try.f38.ntmps laws_eqRank_ann [] 0 (bodyOf Try.f38) = some (laws_eqRank_c, 0) := by kernel_rfl
def laws_eqRank_rv : List (Nat × Option (Nat × Bool)) := [(4, none)]
def laws_eqRank_pre (fuel : Nat) (x0 : List (Int × Int × Unit)) (x1 : Int) (x2 : List (Int × Int × Unit)) (x3 : Int) : Option ((Bool × Unit) × Unit) :=
 Option.bind (laws_eqKnotS_fn fuel ((x0, ()), (x2, ()), ())) fun y_1 =>
 cond (!y_1.fst.fst)
  (some (((false, ()), ())))
  (cond (x1 != x3)
   (some (((false, ()), ())))
   (some (((true, ()), ()))))
def laws_eqRank_fn (fuel : Nat) (x : (((List (Int × (Int × Unit))) × (Int × Unit)) × (((List (Int × (Int × Unit))) × (Int × Unit)) × Unit))) : Option ((Bool × Unit) × Unit) := laws_eqRank_pre fuel x.1.1 x.1.2.1 x.2.1.1 x.2.1.2.1
theorem laws_eqRank_run (fuel : Nat) (x : PsT laws_eqRank_ps) : run (laws_eqRank_T fuel) 0 fuel laws_eqRank_c (env0 (svPs laws_eqRank_ps x) 0) [] (endF laws_eqRank_rv laws_eqRank_rs) = laws_eqRank_fn fuel x := by kernel_rfl
def laws_eqRank_tf (fuel : Nat) : TF := ⟨laws_eqRank_ps, laws_eqRank_rs, true, laws_eqRank_fn fuel⟩
theorem laws_eqRank_spec (fuel : Nat) : FnSpec Try.prog 38 (laws_eqRank_tf fuel) :=
  fn_spec (T := laws_eqRank_T fuel) (c := bodyOf Try.f38) (fn := Try.f38) (TabOK.of (entCons (laws_eqKnotS_ok fuel) entNil) (methNil)) mixed (by kernel_rfl) (by kernel_rfl) laws_eqRank_l (by kernel_rfl) (Nat.le_of_ble_eq_true (by kernel_rfl)) (rv := laws_eqRank_rv) (by kernel_rfl) (laws_eqRank_run fuel)
theorem laws_eqRank_ok (fuel : Nat) : EntryOK Try.prog 38 (laws_eqRank_tf fuel).te := EntryOK.tf rfl (laws_eqRank_spec fuel) (isFn (fn := Try.f38) (by kernel_rfl) (by kernel_rfl) (by kernel_rfl))

end Go.Proofs.Ytjnkefbdpcbkmaa.Den
