/- Readings of functions of the ranks, as functions on plain data (C4). -/
import Derived.Test.YtapicafncjajnaaC3
namespace Go.Proofs.Ytapicafncjajnaa.Den
open Go Go.RowKit
set_option linter.unusedVariables false
set_option linter.unusedSimpArgs false

/-! ### spec_DrawRankAt -/
def spec_DrawRankAt_T (fuel : Nat) : Tab := Tab.of [(34, (spec_l6Open_tf fuel).te), (35, (spec_l71Rank_tf fuel).te), (45, (spec_l6Rd_pick_tf fuel).te)] []
abbrev spec_DrawRankAt_ps : List Pm := [{ cs := [(Kd.list (Kd.int IntKind.u8), false)], ag := false }]
abbrev spec_DrawRankAt_rs : List Pm := [{ cs := [(Kd.list (Kd.pair (Kd.int IntKind.i64) (Kd.pair (Kd.int IntKind.i64) Kd.unit)), true), (Kd.int IntKind.i64, false)], ag := true }, { cs := [(Kd.int IntKind.i64, false)], ag := false }]
def spec_DrawRankAt_ann : List Norm := []
noncomputable def spec_DrawRankAt_c : C := irOf Try.prog Try.f23 [10] spec_DrawRankAt_ann []
theorem spec_DrawRankAt_l : lightC Try.prog [10] Try.f23.ntmps spec_DrawRankAt_ann [] 0 (bodyOf Try.f23) = some (spec_DrawRankAt_c, 0) := by kernel_rfl
def spec_DrawRankAt_rv : List (Nat × Option (Nat × Bool)) := [(2, some (2, true)), (3, none)]
def spec_DrawRankAt_pre (fuel : Nat) (x0 : List Int) : Option (((List (Int × (Int × Unit))) × (Int × Unit)) × ((Int × Unit) × Unit)) :=
 Option.bind (spec_l6Open_fn fuel ((x0, ()), ())) fun y_1 =>
 Option.bind (spec_l71Rank_fn fuel ((y_1.fst, y_1.snd.fst, ()), ())) fun y_2 =>
  Option.bind (spec_l6Rd_pick_fn fuel ((y_2.fst.fst, y_2.fst.snd.fst, ()), (w64 ((if (0 : Int) > y_2.snd.fst.snd.fst then (0 : Int) else y_2.snd.fst.snd.fst) + (2 : Int)), ()), ())) fun y_3 =>
   Option.bind (spec_l6Rd_pick_fn fuel ((y_3.fst.fst, y_3.fst.snd.fst, ()), ((12 : Int), ()), ())) fun y_4 =>
    some (((y_2.snd.fst.fst, y_2.snd.fst.snd.fst, ()), (w64 (y_3.snd.fst.fst - w64 (Int.tdiv y_4.snd.fst.fst (11 : Int))), ()), ()))
def spec_DrawRankAt_fn (fuel : Nat) (x : (((List Int) × Unit) × Unit)) : Option (((List (Int × (Int × Unit))) × (Int × Unit)) × ((Int × Unit) × Unit)) := spec_DrawRankAt_pre fuel x.1.1
theorem spec_DrawRankAt_run (fuel : Nat) (x : PsT spec_DrawRankAt_ps) : run (spec_DrawRankAt_T fuel) 0 fuel spec_DrawRankAt_c (env0 (svPs spec_DrawRankAt_ps x) 0) [] (endF spec_DrawRankAt_rv spec_DrawRankAt_rs) = spec_DrawRankAt_fn fuel x := by kernel_rfl
def spec_DrawRankAt_tf (fuel : Nat) : TF := ⟨spec_DrawRankAt_ps, spec_DrawRankAt_rs, true, spec_DrawRankAt_fn fuel⟩
theorem spec_DrawRankAt_spec (fuel : Nat) : FnSpec Try.prog 23 (spec_DrawRankAt_tf fuel) :=
  fn_spec (T := spec_DrawRankAt_T fuel) (c := bodyOf Try.f23) (fn := Try.f23) (TabOK.of (entCons (spec_l6Open_ok fuel) (entCons (spec_l71Rank_ok fuel) (entCons (spec_l6Rd_pick_ok fuel) entNil))) methNil) mixed (by kernel_rfl) (by kernel_rfl) spec_DrawRankAt_l (by kernel_rfl) (Nat.le_of_ble_eq_true (by kernel_rfl)) (rv := spec_DrawRankAt_rv) (by kernel_rfl) (spec_DrawRankAt_run fuel)
theorem spec_DrawRankAt_ok (fuel : Nat) : EntryOK Try.prog 23 (spec_DrawRankAt_tf fuel).te := EntryOK.tf rfl (spec_DrawRankAt_spec fuel) (isFn (fn := Try.f23) (by kernel_rfl) (by kernel_rfl) (by kernel_rfl))

/-! ### spec_RankAt -/
def spec_RankAt_T (fuel : Nat) : Tab := Tab.of [(11, (spec_RankBelow_tf fuel).te), (29, (spec_RankOk_tf fuel).te), (30, (spec_l6In_tf fuel).te)] []
abbrev spec_RankAt_ps : List Pm := [{ cs := [(Kd.list (Kd.pair (Kd.int IntKind.i64) (Kd.pair (Kd.int IntKind.i64) Kd.unit)), false), (Kd.int IntKind.i64, false)], ag := true }, { cs := [(Kd.int IntKind.i64, false)], ag := false }]
abbrev spec_RankAt_rs : List Pm := [{ cs := [(Kd.int IntKind.i64, false)], ag := false }, { cs := [(Kd.bool, false)], ag := false }]
def spec_RankAt_ann : List Norm := [{ live := [6, 2, 1], fix := [] }]
noncomputable def spec_RankAt_c : C := irOf Try.prog Try.f24 [] spec_RankAt_ann []
theorem spec_RankAt_l : lightC Try.prog [] Try.f24.ntmps spec_RankAt_ann [] 0 (bodyOf Try.f24) = some (spec_RankAt_c, 1) := by kernel_rfl
def spec_RankAt_rv : List (Nat × Option (Nat × Bool)) := [(4, none), (5, none)]
abbrev spec_RankAt_V0 := (Int) × (Int) × (List (Int × Int × Unit)) × (Int)
def spec_RankAt_enc0 (v : spec_RankAt_V0) : Env × Heap := ([(6, SV.int IntKind.i64 v.1), (2, SV.ptr 0 0), (1, SV.int IntKind.i64 v.2.1)], [Blk.cells [SV.es (Kd.pair (Kd.int IntKind.i64) (Kd.pair (Kd.int IntKind.i64) Kd.unit)) v.2.2.1, SV.int IntKind.i64 v.2.2.2] 0 2])
def spec_RankAt_step0 (fuel : Nat) (g0 : spec_RankAt_V0 → Option ((Int × Unit) × ((Bool × Unit) × Unit))) (v : spec_RankAt_V0) : Option ((Int × Unit) × ((Bool × Unit) × Unit)) :=
 cond (decide (v.1 < (63 : Int)))
 (Option.bind (spec_RankBelow_fn fuel ((v.2.2.1, v.2.2.2, ()), (v.1, ()), ())) fun y_2 =>
  cond (decide (y_2.fst.fst ≥ v.2.1))
   (some (((v.1, ()), (true, ()), ())))
   (g0 (w64 (v.1 + (1 : Int)), v.2.1, v.2.2.1, v.2.2.2)))
 (some ((((63 : Int), ()), (true, ()), ())))
def spec_RankAt_st0 (fuel : Nat) (g0 : spec_RankAt_V0 → Option ((Int × Unit) × ((Bool × Unit) × Unit))) : spec_RankAt_V0 → Option ((Int × Unit) × ((Bool × Unit) × Unit)) := spec_RankAt_step0 fuel g0
theorem spec_RankAt_lp0 (fuel : Nat) (G) : spec_RankAt_c.lp (spec_RankAt_T fuel) 0 fuel G (endF spec_RankAt_rv spec_RankAt_rs) 0 spec_RankAt_enc0 = iter (spec_RankAt_st0 fuel) fuel := C.lp_iter fun g v => by kernel_rfl
def spec_RankAt_pre (fuel : Nat) (X0 : spec_RankAt_V0 → Option ((Int × Unit) × ((Bool × Unit) × Unit))) (x0 : List (Int × Int × Unit)) (x1 : Int) (x2 : Int) : Option ((Int × Unit) × ((Bool × Unit) × Unit)) :=
 Option.bind (spec_RankOk_fn fuel ((x0, x1, ()), ())) fun y_1 =>
 cond (!y_1.fst.fst)
  (some ((((0 : Int), ()), (false, ()), ())))
  (Option.bind (spec_l6In_fn fuel ((x2, ()), ((1 : Int), ()), (x1, ()), ())) fun y_3 =>
   cond (!y_3.fst.fst)
    (some ((((0 : Int), ()), (false, ()), ())))
    (X0 ((0 : Int), x2, x0, x1)))
def spec_RankAt_fn (fuel : Nat) (x : (((List (Int × (Int × Unit))) × (Int × Unit)) × ((Int × Unit) × Unit))) : Option ((Int × Unit) × ((Bool × Unit) × Unit)) := spec_RankAt_pre fuel (iter (spec_RankAt_st0 fuel) fuel) x.1.1 x.1.2.1 x.2.1.1
theorem spec_RankAt_run (fuel : Nat) (x : PsT spec_RankAt_ps) : run (spec_RankAt_T fuel) 0 fuel spec_RankAt_c (env0 (svPs spec_RankAt_ps x) 0) [] (endF spec_RankAt_rv spec_RankAt_rs) = spec_RankAt_fn fuel x :=
  (show run (spec_RankAt_T fuel) 0 fuel spec_RankAt_c (env0 (svPs spec_RankAt_ps x) 0) [] (endF spec_RankAt_rv spec_RankAt_rs) = spec_RankAt_pre fuel (spec_RankAt_c.lp (spec_RankAt_T fuel) 0 fuel (fun _ _ _ => none) (endF spec_RankAt_rv spec_RankAt_rs) 0 spec_RankAt_enc0) x.1.1 x.1.2.1 x.2.1.1 by kernel_rfl).trans (by rw [spec_RankAt_lp0]; rfl)
def spec_RankAt_tf (fuel : Nat) : TF := ⟨spec_RankAt_ps, spec_RankAt_rs, true, spec_RankAt_fn fuel⟩
theorem spec_RankAt_spec (fuel : Nat) : FnSpec Try.prog 24 (spec_RankAt_tf fuel) :=
  fn_spec (T := spec_RankAt_T fuel) (c := bodyOf Try.f24) (fn := Try.f24) (TabOK.of (entCons (spec_RankBelow_ok fuel) (entCons (spec_RankOk_ok fuel) (entCons (spec_l6In_ok fuel) entNil))) methNil) mixed (by kernel_rfl) (by kernel_rfl) spec_RankAt_l (by kernel_rfl) (Nat.le_of_ble_eq_true (by kernel_rfl)) (rv := spec_RankAt_rv) (by kernel_rfl) (spec_RankAt_run fuel)
theorem spec_RankAt_ok (fuel : Nat) : EntryOK Try.prog 24 (spec_RankAt_tf fuel).te := EntryOK.tf rfl (spec_RankAt_spec fuel) (isFn (fn := Try.f24) (by kernel_rfl) (by kernel_rfl) (by kernel_rfl))

/-! ### impl_RankAt -/
def impl_RankAt_T (fuel : Nat) : Tab := Tab.of [(17, (impl_RankOk_tf fuel).te), (33, (impl_Rank_upTo_tf fuel).te)] []
abbrev impl_RankAt_ps : List Pm := [{ cs := [(Kd.list (Kd.pair (Kd.int IntKind.i64) (Kd.pair (Kd.int IntKind.i64) Kd.unit)), false), (Kd.int IntKind.i64, false)], ag := true }, { cs := [(Kd.int IntKind.i64, false)], ag := false }]
abbrev impl_RankAt_rs : List Pm := [{ cs := [(Kd.int IntKind.i64, false)], ag := false }, { cs := [(Kd.bool, false)], ag := false }]
def impl_RankAt_ann : List Norm := [{ live := [22, 2, 1], fix := [] }]
noncomputable def impl_RankAt_c : C := irOf Try.prog Try.f25 [] impl_RankAt_ann []
theorem impl_RankAt_l : lightC Try.prog [] Try.f25.ntmps impl_RankAt_ann [] 0 (bodyOf Try.f25) = some (impl_RankAt_c, 1) := by kernel_rfl
def impl_RankAt_rv : List (Nat × Option (Nat × Bool)) := [(4, none), (5, none)]
abbrev impl_RankAt_V0 := (Int) × (Int) × (List (Int × Int × Unit)) × (Int)
def impl_RankAt_enc0 (v : impl_RankAt_V0) : Env × Heap := ([(22, SV.int IntKind.i64 v.1), (2, SV.ptr 0 0), (1, SV.int IntKind.i64 v.2.1)], [Blk.cells [SV.es (Kd.pair (Kd.int IntKind.i64) (Kd.pair (Kd.int IntKind.i64) Kd.unit)) v.2.2.1, SV.int IntKind.i64 v.2.2.2] 0 2])
def impl_RankAt_step0 (fuel : Nat) (g0 : impl_RankAt_V0 → Option ((Int × Unit) × ((Bool × Unit) × Unit))) (v : impl_RankAt_V0) : Option ((Int × Unit) × ((Bool × Unit) × Unit)) :=
 cond (decide (v.1 < (64 : Int)))
 (Option.bind (impl_Rank_upTo_fn fuel ((v.2.2.1, v.2.2.2, ()), (v.1, ()), ())) fun y_2 =>
  cond (decide (y_2.fst.fst ≥ v.2.1))
   (some (((v.1, ()), (true, ()), ())))
   (g0 (w64 (v.1 + (1 : Int)), v.2.1, v.2.2.1, v.2.2.2)))
 (some ((((0 : Int), ()), (false, ()), ())))
def impl_RankAt_st0 (fuel : Nat) (g0 : impl_RankAt_V0 → Option ((Int × Unit) × ((Bool × Unit) × Unit))) : impl_RankAt_V0 → Option ((Int × Unit) × ((Bool × Unit) × Unit)) := impl_RankAt_step0 fuel g0
theorem impl_RankAt_lp0 (fuel : Nat) (G) : impl_RankAt_c.lp (impl_RankAt_T fuel) 0 fuel G (endF impl_RankAt_rv impl_RankAt_rs) 0 impl_RankAt_enc0 = iter (impl_RankAt_st0 fuel) fuel := C.lp_iter fun g v => by kernel_rfl
def impl_RankAt_pre (fuel : Nat) (X0 : impl_RankAt_V0 → Option ((Int × Unit) × ((Bool × Unit) × Unit))) (x0 : List (Int × Int × Unit)) (x1 : Int) (x2 : Int) : Option ((Int × Unit) × ((Bool × Unit) × Unit)) :=
 Option.bind (impl_RankOk_fn fuel ((x0, x1, ()), ())) fun y_1 =>
 cond (!y_1.fst.fst)
  (some ((((0 : Int), ()), (false, ()), ())))
  (cond (decide (x2 < (1 : Int)))
   (some ((((0 : Int), ()), (false, ()), ())))
   (cond (decide (x2 > x1))
    (some ((((0 : Int), ()), (false, ()), ())))
    (X0 ((0 : Int), x2, x0, x1))))
def impl_RankAt_fn (fuel : Nat) (x : (((List (Int × (Int × Unit))) × (Int × Unit)) × ((Int × Unit) × Unit))) : Option ((Int × Unit) × ((Bool × Unit) × Unit)) := impl_RankAt_pre fuel (iter (impl_RankAt_st0 fuel) fuel) x.1.1 x.1.2.1 x.2.1.1
theorem impl_RankAt_run (fuel : Nat) (x : PsT impl_RankAt_ps) : run (impl_RankAt_T fuel) 0 fuel impl_RankAt_c (env0 (svPs impl_RankAt_ps x) 0) [] (endF impl_RankAt_rv impl_RankAt_rs) = impl_RankAt_fn fuel x :=
  (show run (impl_RankAt_T fuel) 0 fuel impl_RankAt_c (env0 (svPs impl_RankAt_ps x) 0) [] (endF impl_RankAt_rv impl_RankAt_rs) = impl_RankAt_pre fuel (impl_RankAt_c.lp (impl_RankAt_T fuel) 0 fuel (fun _ _ _ => none) (endF impl_RankAt_rv impl_RankAt_rs) 0 impl_RankAt_enc0) x.1.1 x.1.2.1 x.2.1.1 by kernel_rfl).trans (by rw [impl_RankAt_lp0]; rfl)
def impl_RankAt_tf (fuel : Nat) : TF := ⟨impl_RankAt_ps, impl_RankAt_rs, true, impl_RankAt_fn fuel⟩
theorem impl_RankAt_spec (fuel : Nat) : FnSpec Try.prog 25 (impl_RankAt_tf fuel) :=
  fn_spec (T := impl_RankAt_T fuel) (c := bodyOf Try.f25) (fn := Try.f25) (TabOK.of (entCons (impl_RankOk_ok fuel) (entCons (impl_Rank_upTo_ok fuel) entNil)) methNil) mixed (by kernel_rfl) (by kernel_rfl) impl_RankAt_l (by kernel_rfl) (Nat.le_of_ble_eq_true (by kernel_rfl)) (rv := impl_RankAt_rv) (by kernel_rfl) (impl_RankAt_run fuel)
theorem impl_RankAt_ok (fuel : Nat) : EntryOK Try.prog 25 (impl_RankAt_tf fuel).te := EntryOK.tf rfl (impl_RankAt_spec fuel) (isFn (fn := Try.f25) (by kernel_rfl) (by kernel_rfl) (by kernel_rfl))

/-! ### laws_FnRankAt -/
def laws_FnRankAt_T (fuel : Nat) : Tab := Tab.of [(12, (impl_RankBelow_tf fuel).te), (23, (spec_DrawRankAt_tf fuel).te), (24, (spec_RankAt_tf fuel).te), (25, (impl_RankAt_tf fuel).te)] []
abbrev laws_FnRankAt_ps : List Pm := [{ cs := [(Kd.list (Kd.int IntKind.u8), false)], ag := false }]
abbrev laws_FnRankAt_rs : List Pm := [{ cs := [(Kd.bool, false)], ag := false }]
def laws_FnRankAt_ann : List Norm := []
noncomputable def laws_FnRankAt_c : C := irOf Try.prog Try.f6 [] laws_FnRankAt_ann []
theorem laws_FnRankAt_l : lightC Try.prog [] Try.f6.ntmps laws_FnRankAt_ann [] 0 (bodyOf Try.f6) = some (laws_FnRankAt_c, 0) := by kernel_rfl
def laws_FnRankAt_rv : List (Nat × Option (Nat × Bool)) := [(2, none)]
def laws_FnRankAt_pre (fuel : Nat) (x0 : List Int) : Option ((Bool × Unit) × Unit) :=
 cond (decide ((zz (List.length x0)) > (1048576 : Int)))
 (some (((true, ()), ())))
 (Option.bind (spec_DrawRankAt_fn fuel ((x0, ()), ())) fun y_2 =>
  Option.bind (spec_RankAt_fn fuel ((y_2.fst.fst, y_2.fst.snd.fst, ()), (y_2.snd.fst.fst, ()), ())) fun y_3 =>
   Option.bind (impl_RankAt_fn fuel ((y_2.fst.fst, y_2.fst.snd.fst, ()), (y_2.snd.fst.fst, ()), ())) fun y_4 =>
    cond (!y_4.snd.fst.fst == y_3.snd.fst.fst)
     (cond (y_4.snd.fst.fst == y_3.snd.fst.fst)
      (some (((y_4.fst.fst == y_3.fst.fst, ()), ())))
      (some (((false, ()), ()))))
     (cond (y_4.fst.fst != y_3.fst.fst)
      (cond (y_4.snd.fst.fst == y_3.snd.fst.fst)
       (some (((y_4.fst.fst == y_3.fst.fst, ()), ())))
       (some (((false, ()), ()))))
      (cond (!y_4.snd.fst.fst)
       (cond (y_4.snd.fst.fst == y_3.snd.fst.fst)
        (some (((y_4.fst.fst == y_3.fst.fst, ()), ())))
        (some (((false, ()), ()))))
       (Option.bind (impl_RankBelow_fn fuel ((y_2.fst.fst, y_2.fst.snd.fst, ()), (y_4.fst.fst, ()), ())) fun y_8 =>
        cond (y_4.fst.fst == (0 : Int))
         (some (((decide (y_8.fst.fst ≥ y_2.snd.fst.fst), ()), ())))
         (Option.bind (impl_RankBelow_fn fuel ((y_2.fst.fst, y_2.fst.snd.fst, ()), (w64 (y_4.fst.fst - (1 : Int)), ()), ())) fun y_10 =>
          cond (decide (y_8.fst.fst ≥ y_2.snd.fst.fst))
           (some (((decide (y_10.fst.fst < y_2.snd.fst.fst), ()), ())))
           (some (((false, ()), ()))))))))
def laws_FnRankAt_fn (fuel : Nat) (x : (((List Int) × Unit) × Unit)) : Option ((Bool × Unit) × Unit) := laws_FnRankAt_pre fuel x.1.1
theorem laws_FnRankAt_run (fuel : Nat) (x : PsT laws_FnRankAt_ps) : run (laws_FnRankAt_T fuel) 0 fuel laws_FnRankAt_c (env0 (svPs laws_FnRankAt_ps x) 0) [] (endF laws_FnRankAt_rv laws_FnRankAt_rs) = laws_FnRankAt_fn fuel x := by kernel_rfl
def laws_FnRankAt_tf (fuel : Nat) : TF := ⟨laws_FnRankAt_ps, laws_FnRankAt_rs, true, laws_FnRankAt_fn fuel⟩
theorem laws_FnRankAt_spec (fuel : Nat) : FnSpec Try.prog 6 (laws_FnRankAt_tf fuel) :=
  fn_spec (T := laws_FnRankAt_T fuel) (c := bodyOf Try.f6) (fn := Try.f6) (TabOK.of (entCons (impl_RankBelow_ok fuel) (entCons (spec_DrawRankAt_ok fuel) (entCons (spec_RankAt_ok fuel) (entCons (impl_RankAt_ok fuel) entNil)))) methNil) mixed (by kernel_rfl) (by kernel_rfl) laws_FnRankAt_l (by kernel_rfl) (Nat.le_of_ble_eq_true (by kernel_rfl)) (rv := laws_FnRankAt_rv) (by kernel_rfl) (laws_FnRankAt_run fuel)
theorem laws_FnRankAt_ok (fuel : Nat) : EntryOK Try.prog 6 (laws_FnRankAt_tf fuel).te := EntryOK.tf rfl (laws_FnRankAt_spec fuel) (isFn (fn := Try.f6) (by kernel_rfl) (by kernel_rfl) (by kernel_rfl))

/-! ### impl_RankAdd -/
def impl_RankAdd_T (fuel : Nat) : Tab := Tab.of [(17, (impl_RankOk_tf fuel).te), (32, (impl_isThing_tf fuel).te), (39, (impl_rankSum_tf fuel).te)] []
abbrev impl_RankAdd_ps : List Pm := [{ cs := [(Kd.list (Kd.pair (Kd.int IntKind.i64) (Kd.pair (Kd.int IntKind.i64) Kd.unit)), false), (Kd.int IntKind.i64, false)], ag := true }, { cs := [(Kd.int IntKind.i64, false)], ag := false }]
abbrev impl_RankAdd_rs : List Pm := [{ cs := [(Kd.list (Kd.pair (Kd.int IntKind.i64) (Kd.pair (Kd.int IntKind.i64) Kd.unit)), true), (Kd.int IntKind.i64, false)], ag := true }, { cs := [(Kd.bool, false)], ag := false }]
def impl_RankAdd_ann : List Norm := []
noncomputable def impl_RankAdd_c : C := irOf Try.prog Try.f27 [] impl_RankAdd_ann []
theorem impl_RankAdd_l : lightC Try.prog [] Try.f27.ntmps impl_RankAdd_ann [] 0 (bodyOf Try.f27) = some (impl_RankAdd_c, 0) := by kernel_rfl
def impl_RankAdd_rv : List (Nat × Option (Nat × Bool)) := [(4, some (2, true)), (5, none)]
def impl_RankAdd_pre (fuel : Nat) (x0 : List (Int × Int × Unit)) (x1 : Int) (x2 : Int) : Option (((List (Int × (Int × Unit))) × (Int × Unit)) × ((Bool × Unit) × Unit)) :=
 Option.bind (impl_RankOk_fn fuel ((x0, x1, ()), ())) fun y_1 =>
 cond (!y_1.fst.fst)
  (some ((([], (0 : Int), ()), (false, ()), ())))
  (Option.bind (impl_isThing_fn fuel ((x2, ()), ())) fun y_3 =>
   cond (!y_3.fst.fst)
    (some ((([], (0 : Int), ()), (false, ()), ())))
    (cond (x1 == (2000 : Int))
     (some ((([], (0 : Int), ()), (false, ()), ())))
     (Option.bind (impl_rankSum_fn fuel ((x0, x1, ()), ([(w64 ((64 : Int) + x2), (1 : Int), ())], (1 : Int), ()), ())) fun y_6 =>
      some (((y_6.fst.fst, y_6.fst.snd.fst, ()), (true, ()), ())))))
def impl_RankAdd_fn (fuel : Nat) (x : (((List (Int × (Int × Unit))) × (Int × Unit)) × ((Int × Unit) × Unit))) : Option (((List (Int × (Int × Unit))) × (Int × Unit)) × ((Bool × Unit) × Unit)) := impl_RankAdd_pre fuel x.1.1 x.1.2.1 x.2.1.1
theorem impl_RankAdd_run (fuel : Nat) (x : PsT impl_RankAdd_ps) : run (impl_RankAdd_T fuel) 0 fuel impl_RankAdd_c (env0 (svPs impl_RankAdd_ps x) 0) [] (endF impl_RankAdd_rv impl_RankAdd_rs) = impl_RankAdd_fn fuel x := by kernel_rfl
def impl_RankAdd_tf (fuel : Nat) : TF := ⟨impl_RankAdd_ps, impl_RankAdd_rs, true, impl_RankAdd_fn fuel⟩
theorem impl_RankAdd_spec (fuel : Nat) : FnSpec Try.prog 27 (impl_RankAdd_tf fuel) :=
  fn_spec (T := impl_RankAdd_T fuel) (c := bodyOf Try.f27) (fn := Try.f27) (TabOK.of (entCons (impl_RankOk_ok fuel) (entCons (impl_isThing_ok fuel) (entCons (impl_rankSum_ok fuel) entNil))) methNil) mixed (by kernel_rfl) (by kernel_rfl) impl_RankAdd_l (by kernel_rfl) (Nat.le_of_ble_eq_true (by kernel_rfl)) (rv := impl_RankAdd_rv) (by kernel_rfl) (impl_RankAdd_run fuel)
theorem impl_RankAdd_ok (fuel : Nat) : EntryOK Try.prog 27 (impl_RankAdd_tf fuel).te := EntryOK.tf rfl (impl_RankAdd_spec fuel) (isFn (fn := Try.f27) (by kernel_rfl) (by kernel_rfl) (by kernel_rfl))

/-! ### laws_FnRankAdd -/
def laws_FnRankAdd_T (fuel : Nat) : Tab := Tab.of [(12, (impl_RankBelow_tf fuel).te), (16, (laws_lkRank_tf fuel).te), (17, (impl_RankOk_tf fuel).te), (26, (spec_RankAdd_tf fuel).te), (27, (impl_RankAdd_tf fuel).te), (28, (spec_DrawRankAdd_tf fuel).te)] []
abbrev laws_FnRankAdd_ps : List Pm := [{ cs := [(Kd.list (Kd.int IntKind.u8), false)], ag := false }]
abbrev laws_FnRankAdd_rs : List Pm := [{ cs := [(Kd.bool, false)], ag := false }]
def laws_FnRankAdd_ann : List Norm := [{ live := [9, 3, 7, 4], fix := [] }]
noncomputable def laws_FnRankAdd_c : C := irOf Try.prog Try.f8 [] laws_FnRankAdd_ann []
theorem laws_FnRankAdd_l : lightC Try.prog [] Try.f8.ntmps laws_FnRankAdd_ann [] 0 (bodyOf Try.f8) = some (laws_FnRankAdd_c, 1) := by kernel_rfl
def laws_FnRankAdd_rv : List (Nat × Option (Nat × Bool)) := [(2, none)]
abbrev laws_FnRankAdd_V0 := (Int) × (Int) × (Int) × (Int) × (List (Int × Int × Unit)) × (List (Int × Int × Unit))
def laws_FnRankAdd_enc0 (v : laws_FnRankAdd_V0) : Env × Heap := ([(9, SV.int IntKind.i64 v.1), (3, SV.ptr 0 0), (7, SV.ptr 1 0), (4, SV.int IntKind.i64 v.2.1)], [Blk.cells [SV.own 2, SV.int IntKind.i64 v.2.2.1] 0 2, Blk.cells [SV.own 3, SV.int IntKind.i64 v.2.2.2.1] 0 2, Blk.arr (Kd.pair (Kd.int IntKind.i64) (Kd.pair (Kd.int IntKind.i64) Kd.unit)) v.2.2.2.2.1 0, Blk.arr (Kd.pair (Kd.int IntKind.i64) (Kd.pair (Kd.int IntKind.i64) Kd.unit)) v.2.2.2.2.2 0])
def laws_FnRankAdd_step0 (fuel : Nat) (g0 : laws_FnRankAdd_V0 → Option ((Bool × Unit) × Unit)) (v : laws_FnRankAdd_V0) : Option ((Bool × Unit) × Unit) :=
 cond (decide (v.1 < (64 : Int)))
 (Option.bind (impl_RankBelow_fn fuel ((v.2.2.2.2.1, v.2.2.1, ()), (v.1, ()), ())) fun y_2 =>
  Option.bind (impl_RankBelow_fn fuel ((v.2.2.2.2.2, v.2.2.2.1, ()), (v.1, ()), ())) fun y_3 =>
   cond (decide (v.1 ≥ v.2.1))
    (cond (decide (y_3.fst.fst > w64 (y_2.fst.fst + (1 : Int))))
     (some (((false, ()), ())))
     (cond (decide (y_3.snd.fst.fst < w64 (y_2.snd.fst.fst + (1 : Int))))
      (some (((false, ()), ())))
      (g0 (w64 (v.1 + (1 : Int)), v.2.1, v.2.2.1, v.2.2.2.1, v.2.2.2.2.1, v.2.2.2.2.2))))
    (cond (decide (y_3.fst.fst > w64 (y_2.fst.fst + (0 : Int))))
     (some (((false, ()), ())))
     (cond (decide (y_3.snd.fst.fst < w64 (y_2.snd.fst.fst + (0 : Int))))
      (some (((false, ()), ())))
      (g0 (w64 (v.1 + (1 : Int)), v.2.1, v.2.2.1, v.2.2.2.1, v.2.2.2.2.1, v.2.2.2.2.2)))))
 (Option.bind (impl_RankOk_fn fuel ((v.2.2.2.2.2, v.2.2.2.1, ()), ())) fun y_2 =>
  cond (y_2.fst.fst)
   (some (((v.2.2.2.1 == w64 (v.2.2.1 + (1 : Int)), ()), ())))
   (some (((false, ()), ()))))
def laws_FnRankAdd_st0 (fuel : Nat) (g0 : laws_FnRankAdd_V0 → Option ((Bool × Unit) × Unit)) : laws_FnRankAdd_V0 → Option ((Bool × Unit) × Unit) := laws_FnRankAdd_step0 fuel g0
theorem laws_FnRankAdd_lp0 (fuel : Nat) (G) : laws_FnRankAdd_c.lp (laws_FnRankAdd_T fuel) 0 fuel G (endF laws_FnRankAdd_rv laws_FnRankAdd_rs) 0 laws_FnRankAdd_enc0 = iter (laws_FnRankAdd_st0 fuel) fuel := C.lp_iter fun g v => by kernel_rfl
def laws_FnRankAdd_pre (fuel : Nat) (X0 : laws_FnRankAdd_V0 → Option ((Bool × Unit) × Unit)) (x0 : List Int) : Option ((Bool × Unit) × Unit) :=
 cond (decide ((zz (List.length x0)) > (1048576 : Int)))
 (some (((true, ()), ())))
 (Option.bind (spec_DrawRankAdd_fn fuel ((x0, ()), ())) fun y_2 =>
  Option.bind (spec_RankAdd_fn fuel ((y_2.fst.fst, y_2.fst.snd.fst, ()), (y_2.snd.fst.fst, ()), ())) fun y_3 =>
   Option.bind (impl_RankAdd_fn fuel ((y_2.fst.fst, y_2.fst.snd.fst, ()), (y_2.snd.fst.fst, ()), ())) fun y_4 =>
    cond (!y_4.snd.fst.fst == y_3.snd.fst.fst)
     (cond (y_4.snd.fst.fst == y_3.snd.fst.fst)
      (Option.bind (laws_lkRank_fn fuel ((y_4.fst.fst, y_4.fst.snd.fst, ()), (y_3.fst.fst, y_3.fst.snd.fst, ()), ())) fun y_7 =>
       some (((y_7.fst.fst, ()), ())))
      (some (((false, ()), ()))))
     (Option.bind (laws_lkRank_fn fuel ((y_4.fst.fst, y_4.fst.snd.fst, ()), (y_3.fst.fst, y_3.fst.snd.fst, ()), ())) fun y_6 =>
      cond (!y_6.fst.fst)
       (cond (y_4.snd.fst.fst == y_3.snd.fst.fst)
        (Option.bind (laws_lkRank_fn fuel ((y_4.fst.fst, y_4.fst.snd.fst, ()), (y_3.fst.fst, y_3.fst.snd.fst, ()), ())) fun y_9 =>
         some (((y_9.fst.fst, ()), ())))
        (some (((false, ()), ()))))
       (cond (!y_4.snd.fst.fst)
        (cond (y_4.snd.fst.fst == y_3.snd.fst.fst)
         (Option.bind (laws_lkRank_fn fuel ((y_4.fst.fst, y_4.fst.snd.fst, ()), (y_3.fst.fst, y_3.fst.snd.fst, ()), ())) fun y_10 =>
          some (((y_10.fst.fst, ()), ())))
         (some (((false, ()), ()))))
        (X0 ((0 : Int), y_2.snd.fst.fst, y_2.fst.snd.fst, y_4.fst.snd.fst, y_2.fst.fst, y_4.fst.fst)))))
def laws_FnRankAdd_fn (fuel : Nat) (x : (((List Int) × Unit) × Unit)) : Option ((Bool × Unit) × Unit) := laws_FnRankAdd_pre fuel (iter (laws_FnRankAdd_st0 fuel) fuel) x.1.1
theorem laws_FnRankAdd_run (fuel : Nat) (x : PsT laws_FnRankAdd_ps) : run (laws_FnRankAdd_T fuel) 0 fuel laws_FnRankAdd_c (env0 (svPs laws_FnRankAdd_ps x) 0) [] (endF laws_FnRankAdd_rv laws_FnRankAdd_rs) = laws_FnRankAdd_fn fuel x :=
  (show run (laws_FnRankAdd_T fuel) 0 fuel laws_FnRankAdd_c (env0 (svPs laws_FnRankAdd_ps x) 0) [] (endF laws_FnRankAdd_rv laws_FnRankAdd_rs) = laws_FnRankAdd_pre fuel (laws_FnRankAdd_c.lp (laws_FnRankAdd_T fuel) 0 fuel (fun _ _ _ => none) (endF laws_FnRankAdd_rv laws_FnRankAdd_rs) 0 laws_FnRankAdd_enc0) x.1.1 by kernel_rfl).trans (by rw [laws_FnRankAdd_lp0]; rfl)
def laws_FnRankAdd_tf (fuel : Nat) : TF := ⟨laws_FnRankAdd_ps, laws_FnRankAdd_rs, true, laws_FnRankAdd_fn fuel⟩
theorem laws_FnRankAdd_spec (fuel : Nat) : FnSpec Try.prog 8 (laws_FnRankAdd_tf fuel) :=
  fn_spec (T := laws_FnRankAdd_T fuel) (c := bodyOf Try.f8) (fn := Try.f8) (TabOK.of (entCons (impl_RankBelow_ok fuel) (entCons (laws_lkRank_ok fuel) (entCons (impl_RankOk_ok fuel) (entCons (spec_RankAdd_ok fuel) (entCons (impl_RankAdd_ok fuel) (entCons (spec_DrawRankAdd_ok fuel) entNil)))))) methNil) mixed (by kernel_rfl) (by kernel_rfl) laws_FnRankAdd_l (by kernel_rfl) (Nat.le_of_ble_eq_true (by kernel_rfl)) (rv := laws_FnRankAdd_rv) (by kernel_rfl) (laws_FnRankAdd_run fuel)
theorem laws_FnRankAdd_ok (fuel : Nat) : EntryOK Try.prog 8 (laws_FnRankAdd_tf fuel).te := EntryOK.tf rfl (laws_FnRankAdd_spec fuel) (isFn (fn := Try.f8) (by kernel_rfl) (by kernel_rfl) (by kernel_rfl))

/-! ### laws_FnRankJoinBelow -/
def laws_FnRankJoinBelow_T (fuel : Nat) : Tab := Tab.of [(12, (impl_RankBelow_tf fuel).te), (13, (spec_DrawRankJoin_tf fuel).te), (14, (spec_RankJoin_tf fuel).te), (15, (impl_RankJoin_tf fuel).te), (16, (laws_lkRank_tf fuel).te)] []
abbrev laws_FnRankJoinBelow_ps : List Pm := [{ cs := [(Kd.list (Kd.int IntKind.u8), false)], ag := false }]
abbrev laws_FnRankJoinBelow_rs : List Pm := [{ cs := [(Kd.bool, false)], ag := false }]
def laws_FnRankJoinBelow_ann : List Norm := [{ live := [9, 3, 4, 7], fix := [] }]
noncomputable def laws_FnRankJoinBelow_c : C := irOf Try.prog Try.f9 [] laws_FnRankJoinBelow_ann []
theorem laws_FnRankJoinBelow_l : lightC Try.prog [] Try.f9.ntmps laws_FnRankJoinBelow_ann [] 0 (bodyOf Try.f9) = some (laws_FnRankJoinBelow_c, 1) := by kernel_rfl
def laws_FnRankJoinBelow_rv : List (Nat × Option (Nat × Bool)) := [(2, none)]
abbrev laws_FnRankJoinBelow_V0 := (Int) × (Int) × (Int) × (Int) × (List (Int × Int × Unit)) × (List (Int × Int × Unit)) × (List (Int × Int × Unit))
def laws_FnRankJoinBelow_enc0 (v : laws_FnRankJoinBelow_V0) : Env × Heap := ([(9, SV.int IntKind.i64 v.1), (3, SV.ptr 0 0), (4, SV.ptr 1 0), (7, SV.ptr 2 0)], [Blk.cells [SV.own 3, SV.int IntKind.i64 v.2.1] 0 2, Blk.cells [SV.own 4, SV.int IntKind.i64 v.2.2.1] 0 2, Blk.cells [SV.own 5, SV.int IntKind.i64 v.2.2.2.1] 0 2, Blk.arr (Kd.pair (Kd.int IntKind.i64) (Kd.pair (Kd.int IntKind.i64) Kd.unit)) v.2.2.2.2.1 0, Blk.arr (Kd.pair (Kd.int IntKind.i64) (Kd.pair (Kd.int IntKind.i64) Kd.unit)) v.2.2.2.2.2.1 0, Blk.arr (Kd.pair (Kd.int IntKind.i64) (Kd.pair (Kd.int IntKind.i64) Kd.unit)) v.2.2.2.2.2.2 0])
def laws_FnRankJoinBelow_step0 (fuel : Nat) (g0 : laws_FnRankJoinBelow_V0 → Option ((Bool × Unit) × Unit)) (v : laws_FnRankJoinBelow_V0) : Option ((Bool × Unit) × Unit) :=
 cond (decide (v.1 < (64 : Int)))
 (Option.bind (impl_RankBelow_fn fuel ((v.2.2.2.2.1, v.2.1, ()), (v.1, ()), ())) fun y_2 =>
  Option.bind (impl_RankBelow_fn fuel ((v.2.2.2.2.2.1, v.2.2.1, ()), (v.1, ()), ())) fun y_3 =>
   Option.bind (impl_RankBelow_fn fuel ((v.2.2.2.2.2.2, v.2.2.2.1, ()), (v.1, ()), ())) fun y_4 =>
    cond (decide (y_4.fst.fst > w64 (y_2.fst.fst + y_3.fst.fst)))
     (some (((false, ()), ())))
     (cond (decide (y_4.snd.fst.fst < w64 (y_2.snd.fst.fst + y_3.snd.fst.fst)))
      (some (((false, ()), ())))
      (g0 (w64 (v.1 + (1 : Int)), v.2.1, v.2.2.1, v.2.2.2.1, v.2.2.2.2.1, v.2.2.2.2.2.1, v.2.2.2.2.2.2))))
 (some (((true, ()), ())))
def laws_FnRankJoinBelow_st0 (fuel : Nat) (g0 : laws_FnRankJoinBelow_V0 → Option ((Bool × Unit) × Unit)) : laws_FnRankJoinBelow_V0 → Option ((Bool × Unit) × Unit) := laws_FnRankJoinBelow_step0 fuel g0
theorem laws_FnRankJoinBelow_lp0 (fuel : Nat) (G) : laws_FnRankJoinBelow_c.lp (laws_FnRankJoinBelow_T fuel) 0 fuel G (endF laws_FnRankJoinBelow_rv laws_FnRankJoinBelow_rs) 0 laws_FnRankJoinBelow_enc0 = iter (laws_FnRankJoinBelow_st0 fuel) fuel := C.lp_iter fun g v => by kernel_rfl
def laws_FnRankJoinBelow_pre (fuel : Nat) (X0 : laws_FnRankJoinBelow_V0 → Option ((Bool × Unit) × Unit)) (x0 : List Int) : Option ((Bool × Unit) × Unit) :=
 cond (decide ((zz (List.length x0)) > (1048576 : Int)))
 (some (((true, ()), ())))
 (Option.bind (spec_DrawRankJoin_fn fuel ((x0, ()), ())) fun y_2 =>
  Option.bind (spec_RankJoin_fn fuel ((y_2.fst.fst, y_2.fst.snd.fst, ()), (y_2.snd.fst.fst, y_2.snd.fst.snd.fst, ()), ())) fun y_3 =>
   Option.bind (impl_RankJoin_fn fuel ((y_2.fst.fst, y_2.fst.snd.fst, ()), (y_2.snd.fst.fst, y_2.snd.fst.snd.fst, ()), ())) fun y_4 =>
    cond (!y_4.snd.fst.fst == y_3.snd.fst.fst)
     (cond (y_4.snd.fst.fst == y_3.snd.fst.fst)
      (Option.bind (laws_lkRank_fn fuel ((y_4.fst.fst, y_4.fst.snd.fst, ()), (y_3.fst.fst, y_3.fst.snd.fst, ()), ())) fun y_7 =>
       some (((y_7.fst.fst, ()), ())))
      (some (((false, ()), ()))))
     (Option.bind (laws_lkRank_fn fuel ((y_4.fst.fst, y_4.fst.snd.fst, ()), (y_3.fst.fst, y_3.fst.snd.fst, ()), ())) fun y_6 =>
      cond (!y_6.fst.fst)
       (cond (y_4.snd.fst.fst == y_3.snd.fst.fst)
        (Option.bind (laws_lkRank_fn fuel ((y_4.fst.fst, y_4.fst.snd.fst, ()), (y_3.fst.fst, y_3.fst.snd.fst, ()), ())) fun y_9 =>
         some (((y_9.fst.fst, ()), ())))
        (some (((false, ()), ()))))
       (cond (!y_4.snd.fst.fst)
        (cond (y_4.snd.fst.fst == y_3.snd.fst.fst)
         (Option.bind (laws_lkRank_fn fuel ((y_4.fst.fst, y_4.fst.snd.fst, ()), (y_3.fst.fst, y_3.fst.snd.fst, ()), ())) fun y_10 =>
          some (((y_10.fst.fst, ()), ())))
         (some (((false, ()), ()))))
        (X0 ((0 : Int), y_2.fst.snd.fst, y_2.snd.fst.snd.fst, y_4.fst.snd.fst, y_2.fst.fst, y_2.snd.fst.fst, y_4.fst.fst)))))
def laws_FnRankJoinBelow_fn (fuel : Nat) (x : (((List Int) × Unit) × Unit)) : Option ((Bool × Unit) × Unit) := laws_FnRankJoinBelow_pre fuel (iter (laws_FnRankJoinBelow_st0 fuel) fuel) x.1.1
theorem laws_FnRankJoinBelow_run (fuel : Nat) (x : PsT laws_FnRankJoinBelow_ps) : run (laws_FnRankJoinBelow_T fuel) 0 fuel laws_FnRankJoinBelow_c (env0 (svPs laws_FnRankJoinBelow_ps x) 0) [] (endF laws_FnRankJoinBelow_rv laws_FnRankJoinBelow_rs) = laws_FnRankJoinBelow_fn fuel x :=
  (show run (laws_FnRankJoinBelow_T fuel) 0 fuel laws_FnRankJoinBelow_c (env0 (svPs laws_FnRankJoinBelow_ps x) 0) [] (endF laws_FnRankJoinBelow_rv laws_FnRankJoinBelow_rs) = laws_FnRankJoinBelow_pre fuel (laws_FnRankJoinBelow_c.lp (laws_FnRankJoinBelow_T fuel) 0 fuel (fun _ _ _ => none) (endF laws_FnRankJoinBelow_rv laws_FnRankJoinBelow_rs) 0 laws_FnRankJoinBelow_enc0) x.1.1 by kernel_rfl).trans (by rw [laws_FnRankJoinBelow_lp0]; rfl)
def laws_FnRankJoinBelow_tf (fuel : Nat) : TF := ⟨laws_FnRankJoinBelow_ps, laws_FnRankJoinBelow_rs, true, laws_FnRankJoinBelow_fn fuel⟩
theorem laws_FnRankJoinBelow_spec (fuel : Nat) : FnSpec Try.prog 9 (laws_FnRankJoinBelow_tf fuel) :=
  fn_spec (T := laws_FnRankJoinBelow_T fuel) (c := bodyOf Try.f9) (fn := Try.f9) (TabOK.of (entCons (impl_RankBelow_ok fuel) (entCons (spec_DrawRankJoin_ok fuel) (entCons (spec_RankJoin_ok fuel) (entCons (impl_RankJoin_ok fuel) (entCons (laws_lkRank_ok fuel) entNil))))) methNil) mixed (by kernel_rfl) (by kernel_rfl) laws_FnRankJoinBelow_l (by kernel_rfl) (Nat.le_of_ble_eq_true (by kernel_rfl)) (rv := laws_FnRankJoinBelow_rv) (by kernel_rfl) (laws_FnRankJoinBelow_run fuel)
theorem laws_FnRankJoinBelow_ok (fuel : Nat) : EntryOK Try.prog 9 (laws_FnRankJoinBelow_tf fuel).te := EntryOK.tf rfl (laws_FnRankJoinBelow_spec fuel) (isFn (fn := Try.f9) (by kernel_rfl) (by kernel_rfl) (by kernel_rfl))

end Go.Proofs.Ytapicafncjajnaa.Den
