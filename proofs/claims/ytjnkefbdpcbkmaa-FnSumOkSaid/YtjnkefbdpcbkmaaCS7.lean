/- Readings of functions of the sums, as functions on plain data (7). -/
import Derived.Test.YtjnkefbdpcbkmaaCS6
namespace Go.Proofs.Ytjnkefbdpcbkmaa.Den
open Go Go.RowKit
set_option linter.unusedVariables false
set_option linter.unusedSimpArgs false

/-! ### spec_l6Open -/
def spec_l6Open_T (fuel : Nat) : Tab := Tab.of [] []
abbrev spec_l6Open_ps : List Pm := [{ cs := [(Kd.list (Kd.int IntKind.u8), false)], ag := false }]
abbrev spec_l6Open_cs : List (Kd × Bool) := [(Kd.list (Kd.int IntKind.u8), false), (Kd.int IntKind.i64, false)]
def spec_l6Open_ann : List Norm := []
noncomputable def spec_l6Open_c : C := irOf Try.prog Try.f62 [] spec_l6Open_ann []
theorem spec_l6Open_l : lightC Try.prog [] Try.f62.ntmps spec_l6Open_ann [] 0 (bodyOf Try.f62) = some (spec_l6Open_c, 0) := by kernel_rfl
def spec_l6Open_rv : List (Nat × Option (Nat × Bool)) := [(2, none)]
def spec_l6Open_pre (fuel : Nat) (x0 : List Int) : Option ((List Int) × (Int × Unit)) :=
 cond (decide ((zz (List.length x0)) > (2000 : Int)))
 (tst (decide ((2000 : Int) ≤ (zz (List.length x0)))) <|
  some ((List.drop 0 (List.take (Int.toNat (2000 : Int)) x0), (0 : Int), ())))
 (some ((x0, (0 : Int), ())))
def spec_l6Open_fn (fuel : Nat) (x : (((List Int) × Unit) × Unit)) : Option ((List Int) × (Int × Unit)) := spec_l6Open_pre fuel x.1.1
theorem spec_l6Open_run (fuel : Nat) (x : PsT spec_l6Open_ps) : run (spec_l6Open_T fuel) 0 fuel spec_l6Open_c (env0 (svPs spec_l6Open_ps x) 0) [] (endP spec_l6Open_rv spec_l6Open_cs 127) = spec_l6Open_fn fuel x := by kernel_rfl
def spec_l6Open_tf (fuel : Nat) : TFP := ⟨spec_l6Open_ps, spec_l6Open_cs, 127, spec_l6Open_fn fuel⟩
theorem spec_l6Open_spec (fuel : Nat) : FnSpecP Try.prog 62 (spec_l6Open_tf fuel) :=
  fn_specP (T := spec_l6Open_T fuel) (c := bodyOf Try.f62) (fn := Try.f62) (TabOK.of (entNil) (methNil)) mixed (by kernel_rfl) (by kernel_rfl) spec_l6Open_l (by kernel_rfl) (Nat.le_of_ble_eq_true (by kernel_rfl)) (rv := spec_l6Open_rv) (by kernel_rfl) (spec_l6Open_run fuel)
theorem spec_l6Open_ok (fuel : Nat) : EntryOK Try.prog 62 (spec_l6Open_tf fuel).te := EntryOK.tfp (spec_l6Open_spec fuel) (isFn (fn := Try.f62) (by kernel_rfl) (by kernel_rfl) (by kernel_rfl))

/-! ### spec_DrawSumAll -/
def spec_DrawSumAll_T (fuel : Nat) : Tab := Tab.of [(61, (spec_l71Sum_tf fuel).te), (62, (spec_l6Open_tf fuel).te)] []
abbrev spec_DrawSumAll_ps : List Pm := [{ cs := [(Kd.list (Kd.int IntKind.u8), false)], ag := false }]
abbrev spec_DrawSumAll_rs : List Pm := [{ cs := [(Kd.list (Kd.list (Kd.int IntKind.i64)), false), (Kd.list (Kd.int IntKind.i64), true), (Kd.list (Kd.pair (Kd.int IntKind.i64) (Kd.pair (Kd.int IntKind.i64) Kd.unit)), true), (Kd.int IntKind.i64, false), (Kd.int IntKind.i64, false), (Kd.list (Kd.pair (Kd.int IntKind.i64) (Kd.pair (Kd.int IntKind.i64) Kd.unit)), true), (Kd.int IntKind.i64, false)], ag := true }]
def spec_DrawSumAll_ann : List Norm := []
noncomputable def spec_DrawSumAll_c : C := irOf Try.prog Try.f21 [] spec_DrawSumAll_ann []
theorem spec_DrawSumAll_l : lightC Try.prog [] Try.f21.ntmps spec_DrawSumAll_ann [] 0 (bodyOf Try.f21) = some (spec_DrawSumAll_c, 0) := by kernel_rfl
def spec_DrawSumAll_rv : List (Nat × Option (Nat × Bool)) := [(2, some (7, true))]
def spec_DrawSumAll_pre (fuel : Nat) (x0 : List Int) : Option (((List (List Int)) × ((List Int) × ((List (Int × (Int × Unit))) × (Int × (Int × ((List (Int × (Int × Unit))) × (Int × Unit))))))) × Unit) :=
 Option.bind (spec_l6Open_fn fuel ((x0, ()), ())) fun y_1 =>
 Option.bind (spec_l71Sum_fn fuel ((y_1.fst, y_1.snd.fst, ()), ())) fun y_2 =>
  some (((y_2.snd.fst.fst, y_2.snd.fst.snd.fst, y_2.snd.fst.snd.snd.fst, y_2.snd.fst.snd.snd.snd.fst, y_2.snd.fst.snd.snd.snd.snd.fst, y_2.snd.fst.snd.snd.snd.snd.snd.fst, y_2.snd.fst.snd.snd.snd.snd.snd.snd.fst, ()), ()))
def spec_DrawSumAll_fn (fuel : Nat) (x : (((List Int) × Unit) × Unit)) : Option (((List (List Int)) × ((List Int) × ((List (Int × (Int × Unit))) × (Int × (Int × ((List (Int × (Int × Unit))) × (Int × Unit))))))) × Unit) := spec_DrawSumAll_pre fuel x.1.1
theorem spec_DrawSumAll_run (fuel : Nat) (x : PsT spec_DrawSumAll_ps) : run (spec_DrawSumAll_T fuel) 0 fuel spec_DrawSumAll_c (env0 (svPs spec_DrawSumAll_ps x) 0) [] (endF spec_DrawSumAll_rv spec_DrawSumAll_rs) = spec_DrawSumAll_fn fuel x := by kernel_rfl
def spec_DrawSumAll_tf (fuel : Nat) : TF := ⟨spec_DrawSumAll_ps, spec_DrawSumAll_rs, false, spec_DrawSumAll_fn fuel⟩
theorem spec_DrawSumAll_spec (fuel : Nat) : FnSpec Try.prog 21 (spec_DrawSumAll_tf fuel) :=
  fn_spec (T := spec_DrawSumAll_T fuel) (c := bodyOf Try.f21) (fn := Try.f21) (TabOK.of (entCons (spec_l71Sum_ok fuel) (entCons (spec_l6Open_ok fuel) entNil)) (methNil)) mixed (by kernel_rfl) (by kernel_rfl) spec_DrawSumAll_l (by kernel_rfl) (Nat.le_of_ble_eq_true (by kernel_rfl)) (rv := spec_DrawSumAll_rv) (by kernel_rfl) (spec_DrawSumAll_run fuel)
theorem spec_DrawSumAll_ok (fuel : Nat) : EntryOK Try.prog 21 (spec_DrawSumAll_tf fuel).te := EntryOK.tf rfl (spec_DrawSumAll_spec fuel) (isFn (fn := Try.f21) (by kernel_rfl) (by kernel_rfl) (by kernel_rfl))

/-! ### laws_FnSumAll -/
def laws_FnSumAll_T (fuel : Nat) : Tab := Tab.of [(11, (impl_SumNew_tf fuel).te), (18, (impl_SumOk_tf fuel).te), (19, (spec_SumAll_tf fuel).te), (20, (impl_SumAll_tf fuel).te), (21, (spec_DrawSumAll_tf fuel).te), (22, (impl_RoughAll_tf fuel).te)] []
abbrev laws_FnSumAll_ps : List Pm := [{ cs := [(Kd.list (Kd.int IntKind.u8), false)], ag := false }]
abbrev laws_FnSumAll_rs : List Pm := [{ cs := [(Kd.bool, false)], ag := false }]
def laws_FnSumAll_ann : List Norm := []
noncomputable def laws_FnSumAll_c : C := irOf Try.prog Try.f6 [] laws_FnSumAll_ann []
theorem laws_FnSumAll_l : lightC Try.prog [] Try.f6.ntmps laws_FnSumAll_ann [] 0 (bodyOf Try.f6) = some (laws_FnSumAll_c, 0) := by kernel_rfl
def laws_FnSumAll_rv : List (Nat × Option (Nat × Bool)) := [(2, none)]
def laws_FnSumAll_pre (fuel : Nat) (x0 : List Int) : Option ((Bool × Unit) × Unit) :=
 cond (decide ((zz (List.length x0)) > (1048576 : Int)))
 (some (((true, ()), ())))
 (Option.bind (spec_DrawSumAll_fn fuel ((x0, ()), ())) fun y_2 =>
  Option.bind (impl_SumAll_fn fuel ((y_2.fst.fst, y_2.fst.snd.fst, y_2.fst.snd.snd.fst, y_2.fst.snd.snd.snd.fst, y_2.fst.snd.snd.snd.snd.fst, y_2.fst.snd.snd.snd.snd.snd.fst, y_2.fst.snd.snd.snd.snd.snd.snd.fst, ()), ())) fun y_3 =>
   Option.bind (spec_SumAll_fn fuel ((y_2.fst.fst, y_2.fst.snd.fst, y_2.fst.snd.snd.fst, y_2.fst.snd.snd.snd.fst, y_2.fst.snd.snd.snd.snd.fst, y_2.fst.snd.snd.snd.snd.snd.fst, y_2.fst.snd.snd.snd.snd.snd.snd.fst, ()), ())) fun y_4 =>
    cond (y_3.fst.fst == y_4.fst.fst)
     (Option.bind (impl_SumOk_fn fuel ((y_2.fst.fst, y_2.fst.snd.fst, y_2.fst.snd.snd.fst, y_2.fst.snd.snd.snd.fst, y_2.fst.snd.snd.snd.snd.fst, y_2.fst.snd.snd.snd.snd.snd.fst, y_2.fst.snd.snd.snd.snd.snd.snd.fst, ()), ())) fun y_6 =>
      cond (decide (y_3.fst.fst ≥ (0 : Int)) == y_6.fst.fst)
       (cond (decide (y_3.fst.fst < (0 : Int)))
        (Option.bind (impl_SumNew_fn fuel ()) fun y_9 =>
         Option.bind (impl_SumAll_fn fuel ((y_9.fst.fst, y_9.fst.snd.fst, y_9.fst.snd.snd.fst, y_9.fst.snd.snd.snd.fst, y_9.fst.snd.snd.snd.snd.fst, y_9.fst.snd.snd.snd.snd.snd.fst, y_9.fst.snd.snd.snd.snd.snd.snd.fst, ()), ())) fun y_10 =>
          some (((y_10.fst.fst == (0 : Int), ()), ())))
        (Option.bind (impl_RoughAll_fn fuel ((y_2.fst.fst, ()), ())) fun y_9 =>
         cond (y_3.fst.fst == y_9.fst.fst)
          (Option.bind (impl_SumNew_fn fuel ()) fun y_11 =>
           Option.bind (impl_SumAll_fn fuel ((y_11.fst.fst, y_11.fst.snd.fst, y_11.fst.snd.snd.fst, y_11.fst.snd.snd.snd.fst, y_11.fst.snd.snd.snd.snd.fst, y_11.fst.snd.snd.snd.snd.snd.fst, y_11.fst.snd.snd.snd.snd.snd.snd.fst, ()), ())) fun y_12 =>
            some (((y_12.fst.fst == (0 : Int), ()), ())))
          (some (((false, ()), ())))))
       (some (((false, ()), ()))))
     (some (((false, ()), ()))))
def laws_FnSumAll_fn (fuel : Nat) (x : (((List Int) × Unit) × Unit)) : Option ((Bool × Unit) × Unit) := laws_FnSumAll_pre fuel x.1.1
theorem laws_FnSumAll_run (fuel : Nat) (x : PsT laws_FnSumAll_ps) : run (laws_FnSumAll_T fuel) 0 fuel laws_FnSumAll_c (env0 (svPs laws_FnSumAll_ps x) 0) [] (endF laws_FnSumAll_rv laws_FnSumAll_rs) = laws_FnSumAll_fn fuel x := by kernel_rfl
def laws_FnSumAll_tf (fuel : Nat) : TF := ⟨laws_FnSumAll_ps, laws_FnSumAll_rs, true, laws_FnSumAll_fn fuel⟩
theorem laws_FnSumAll_spec (fuel : Nat) : FnSpec Try.prog 6 (laws_FnSumAll_tf fuel) :=
  fn_spec (T := laws_FnSumAll_T fuel) (c := bodyOf Try.f6) (fn := Try.f6) (TabOK.of (entCons (impl_SumNew_ok fuel) (entCons (impl_SumOk_ok fuel) (entCons (spec_SumAll_ok fuel) (entCons (impl_SumAll_ok fuel) (entCons (spec_DrawSumAll_ok fuel) (entCons (impl_RoughAll_ok fuel) entNil)))))) (methNil)) mixed (by kernel_rfl) (by kernel_rfl) laws_FnSumAll_l (by kernel_rfl) (Nat.le_of_ble_eq_true (by kernel_rfl)) (rv := laws_FnSumAll_rv) (by kernel_rfl) (laws_FnSumAll_run fuel)
theorem laws_FnSumAll_ok (fuel : Nat) : EntryOK Try.prog 6 (laws_FnSumAll_tf fuel).te := EntryOK.tf rfl (laws_FnSumAll_spec fuel) (isFn (fn := Try.f6) (by kernel_rfl) (by kernel_rfl) (by kernel_rfl))

/-! ### spec_l71Rank -/
def spec_l71Rank_T (fuel : Nat) : Tab := Tab.of [(64, (spec_l6Rd_pick_tf fuel).te), (98, (spec_l71Things_tf fuel).te), (100, (spec_RankAdd_tf fuel).te)] []
abbrev spec_l71Rank_ps : List Pm := []
abbrev spec_l71Rank_rs : List Pm := [{ cs := [(Kd.list (Kd.pair (Kd.int IntKind.i64) (Kd.pair (Kd.int IntKind.i64) Kd.unit)), true), (Kd.int IntKind.i64, false)], ag := true }]
abbrev spec_l71Rank_rf : Rf := Rf.cells [(Kd.list (Kd.int IntKind.u8), false), (Kd.int IntKind.i64, false)] 127
def spec_l71Rank_ann : List Norm := [{ live := [5, 4, 3, 0, 2], fix := [(3, some 0, Kd.pair (Kd.int IntKind.i64) (Kd.pair (Kd.int IntKind.i64) Kd.unit), true)] }]
noncomputable def spec_l71Rank_c : C := irOf Try.prog Try.f65 [35, 36, 59] spec_l71Rank_ann []
theorem spec_l71Rank_l : lightC Try.prog [35, 36, 59] Try.f65.ntmps spec_l71Rank_ann [] 0 (bodyOf Try.f65) = some (spec_l71Rank_c, 1) := by kernel_rfl
def spec_l71Rank_rv : List (Nat × Option (Nat × Bool)) := [(2, some (2, true))]
abbrev spec_l71Rank_V0 := (Int) × (List Int) × (List Int) × (Int) × (Int) × (Int) × (List (Int × Int × Unit))
def spec_l71Rank_enc0 (v : spec_l71Rank_V0) : Env × Heap := ([(5, SV.int IntKind.i64 v.1), (4, SV.es (Kd.int IntKind.i64) v.2.1), (3, SV.ptr 1 0), (0, SV.ptr 0 0), (2, SV.ptr 2 0)], [Blk.cells [SV.es (Kd.int IntKind.u8) v.2.2.1, SV.int IntKind.i64 v.2.2.2.1] 0 2, Blk.cells [SV.own 3, SV.int IntKind.i64 v.2.2.2.2.1] 0 2, Blk.cells [SV.nils, SV.int IntKind.i64 v.2.2.2.2.2.1] 0 2, Blk.arr (Kd.pair (Kd.int IntKind.i64) (Kd.pair (Kd.int IntKind.i64) Kd.unit)) v.2.2.2.2.2.2 0])
def spec_l71Rank_step0 (fuel : Nat) (g0 : spec_l71Rank_V0 → Option (((List Int) × (Int × Unit)) × (((List (Int × (Int × Unit))) × (Int × Unit)) × Unit))) (v : spec_l71Rank_V0) : Option (((List Int) × (Int × Unit)) × (((List (Int × (Int × Unit))) × (Int × Unit)) × Unit)) :=
 cond (decide (v.1 < (zz (List.length v.2.1))))
 (tst (decide (0 ≤ v.1)) <|
  tst (decide (v.1 < (zz (List.length v.2.1)))) <|
  Option.bind (spec_RankAdd_fn fuel ((v.2.2.2.2.2.2, v.2.2.2.2.1, ()), (List.getD v.2.1 (Int.toNat v.1) 0, ()), ())) fun y_2 =>
  g0 (w64 (v.1 + (1 : Int)), v.2.1, v.2.2.1, v.2.2.2.1, y_2.fst.snd.fst, v.2.2.2.2.2.1, y_2.fst.fst))
 (Option.bind (spec_l6Rd_pick_fn fuel ((v.2.2.1, v.2.2.2.1, ()), ((24 : Int), ()), ())) fun y_2 =>
  cond (y_2.snd.fst.fst == (0 : Int))
   (some (((y_2.fst.fst, y_2.fst.snd.fst, ()), (v.2.2.2.2.2.2, w64 (v.2.2.2.2.1 + (1 : Int)), ()), ())))
   (cond (y_2.snd.fst.fst == (1 : Int))
    (Option.bind (spec_l6Rd_pick_fn fuel ((y_2.fst.fst, y_2.fst.snd.fst, ()), ((3 : Int), ()), ())) fun y_5 =>
     tst (decide (0 ≤ y_5.snd.fst.fst)) <|
      tst (decide (y_5.snd.fst.fst < (zz 3))) <|
      tst (decide (List.length v.2.2.2.2.2.2 + 1 < LIM)) <|
      some (((y_5.fst.fst, y_5.fst.snd.fst, ()), (v.2.2.2.2.2.2 ++ [(List.getD [(127 : Int), (128 : Int), (5 : Int)] (Int.toNat y_5.snd.fst.fst) 0, (1 : Int), ())], w64 (v.2.2.2.2.1 + (1 : Int)), ()), ())))
    (cond (y_2.snd.fst.fst == (2 : Int))
     (Option.bind (spec_l6Rd_pick_fn fuel ((y_2.fst.fst, y_2.fst.snd.fst, ()), ((3 : Int), ()), ())) fun y_6 =>
      Option.bind (spec_l6Rd_pick_fn fuel ((y_6.fst.fst, y_6.fst.snd.fst, ()), ((9 : Int), ()), ())) fun y_7 =>
       tst (decide (1 + List.length v.2.2.2.2.2.2 < LIM)) <|
        some (((y_7.fst.fst, y_7.fst.snd.fst, ()), ([(y_6.snd.fst.fst, w64 ((1 : Int) + y_7.snd.fst.fst), ())] ++ v.2.2.2.2.2.2, v.2.2.2.2.1, ()), ())))
     (some (((y_2.fst.fst, y_2.fst.snd.fst, ()), (v.2.2.2.2.2.2, v.2.2.2.2.1, ()), ()))))))
def spec_l71Rank_st0 (fuel : Nat) (g0 : spec_l71Rank_V0 → Option (((List Int) × (Int × Unit)) × (((List (Int × (Int × Unit))) × (Int × Unit)) × Unit))) : spec_l71Rank_V0 → Option (((List Int) × (Int × Unit)) × (((List (Int × (Int × Unit))) × (Int × Unit)) × Unit)) := spec_l71Rank_step0 fuel g0
theorem spec_l71Rank_lp0 (fuel : Nat) (G) : spec_l71Rank_c.lp (spec_l71Rank_T fuel) 1 fuel G (endU spec_l71Rank_rv spec_l71Rank_rf spec_l71Rank_rs) 0 spec_l71Rank_enc0 = iter (spec_l71Rank_st0 fuel) fuel := C.lp_iter fun g v => by kernel_rfl
def spec_l71Rank_pre (fuel : Nat) (X0 : spec_l71Rank_V0 → Option (((List Int) × (Int × Unit)) × (((List (Int × (Int × Unit))) × (Int × Unit)) × Unit))) (d0 : List Int) (d1 : Int) : Option (((List Int) × (Int × Unit)) × (((List (Int × (Int × Unit))) × (Int × Unit)) × Unit)) :=
 Option.bind (spec_l71Things_fn fuel ((d0, d1, ()), ((40 : Int), ()), ())) fun y_1 =>
 X0 ((0 : Int), y_1.snd.fst.fst, y_1.fst.fst, y_1.fst.snd.fst, (0 : Int), (0 : Int), [])
def spec_l71Rank_fn (fuel : Nat) (z : ((List Int) × (Int × Unit)) × Unit) : Option (((List Int) × (Int × Unit)) × (((List (Int × (Int × Unit))) × (Int × Unit)) × Unit)) := spec_l71Rank_pre fuel (iter (spec_l71Rank_st0 fuel) fuel) z.1.1 z.1.2.1
theorem spec_l71Rank_run (fuel : Nat) (c : Rf.T spec_l71Rank_rf) (x : PsT spec_l71Rank_ps) : run (spec_l71Rank_T fuel) 1 fuel spec_l71Rank_c ((0, .ptr 0 0) :: env0 (svPs spec_l71Rank_ps x) 1) [spec_l71Rank_rf.blk c] (endU spec_l71Rank_rv spec_l71Rank_rf spec_l71Rank_rs) = spec_l71Rank_fn fuel (c, x) :=
  (show run (spec_l71Rank_T fuel) 1 fuel spec_l71Rank_c ((0, .ptr 0 0) :: env0 (svPs spec_l71Rank_ps x) 1) [spec_l71Rank_rf.blk c] (endU spec_l71Rank_rv spec_l71Rank_rf spec_l71Rank_rs) = spec_l71Rank_pre fuel (spec_l71Rank_c.lp (spec_l71Rank_T fuel) 1 fuel (fun _ _ _ => none) (endU spec_l71Rank_rv spec_l71Rank_rf spec_l71Rank_rs) 0 spec_l71Rank_enc0) c.1 c.2.1 by kernel_rfl).trans (by rw [spec_l71Rank_lp0]; rfl)
def spec_l71Rank_tf (fuel : Nat) : TFU := ⟨spec_l71Rank_rf, spec_l71Rank_ps, spec_l71Rank_rs, spec_l71Rank_fn fuel⟩
theorem spec_l71Rank_spec (fuel : Nat) : FnSpecU Try.prog 65 (spec_l71Rank_tf fuel) :=
  fn_specU (T := spec_l71Rank_T fuel) (c := bodyOf Try.f65) (fn := Try.f65) (TabOK.of (entCons (spec_l6Rd_pick_ok fuel) (entCons (spec_l71Things_ok fuel) (entCons (spec_RankAdd_ok fuel) entNil))) (methNil)) mixed (by kernel_rfl) (by kernel_rfl) spec_l71Rank_l (by kernel_rfl) (Nat.le_of_ble_eq_true (by kernel_rfl)) (rv := spec_l71Rank_rv) (by kernel_rfl) (spec_l71Rank_run fuel)
theorem spec_l71Rank_ok (fuel : Nat) : EntryOK Try.prog 65 (spec_l71Rank_tf fuel).te := EntryOK.tfu (spec_l71Rank_spec fuel) (isFn (fn := Try.f65) (by kernel_rfl) (by kernel_rfl) (by kernel_rfl))

/-! ### spec_l71Few -/
def spec_l71Few_T (fuel : Nat) : Tab := Tab.of [(64, (spec_l6Rd_pick_tf fuel).te), (101, (spec_FewAdd_tf fuel).te)] []
abbrev spec_l71Few_ps : List Pm := []
abbrev spec_l71Few_rs : List Pm := [{ cs := [(Kd.list (Kd.int IntKind.i64), true)], ag := true }]
abbrev spec_l71Few_rf : Rf := Rf.cells [(Kd.list (Kd.int IntKind.u8), false), (Kd.int IntKind.i64, false)] 127
def spec_l71Few_ann : List Norm := [{ live := [4, 3, 0, 2], fix := [(3, some 0, Kd.int IntKind.i64, true)] }]
noncomputable def spec_l71Few_c : C := irOf Try.prog Try.f66 [13] spec_l71Few_ann []
theorem spec_l71Few_l : lightC Try.prog [13] Try.f66.ntmps spec_l71Few_ann [] 0 (bodyOf Try.f66) = some (spec_l71Few_c, 1) := by kernel_rfl
def spec_l71Few_rv : List (Nat × Option (Nat × Bool)) := [(2, some (1, true))]
abbrev spec_l71Few_V0 := (Int) × (List Int) × (Int) × (List Int)
def spec_l71Few_enc0 (v : spec_l71Few_V0) : Env × Heap := ([(4, SV.int IntKind.i64 v.1), (3, SV.ptr 1 0), (0, SV.ptr 0 0), (2, SV.ptr 2 0)], [Blk.cells [SV.es (Kd.int IntKind.u8) v.2.1, SV.int IntKind.i64 v.2.2.1] 0 2, Blk.cells [SV.own 3] 0 1, Blk.cells [SV.nils] 0 1, Blk.arr (Kd.int IntKind.i64) v.2.2.2 0])
def spec_l71Few_step0 (fuel : Nat) (g0 : spec_l71Few_V0 → Option (((List Int) × (Int × Unit)) × (((List Int) × Unit) × Unit))) (v : spec_l71Few_V0) : Option (((List Int) × (Int × Unit)) × (((List Int) × Unit) × Unit)) :=
 cond (decide (v.1 > (0 : Int)))
 (Option.bind (spec_l6Rd_pick_fn fuel ((v.2.1, v.2.2.1, ()), ((64 : Int), ()), ())) fun y_2 =>
  Option.bind (spec_FewAdd_fn fuel ((v.2.2.2, ()), (y_2.snd.fst.fst, ()), ())) fun y_3 =>
   g0 (w64 (v.1 - (1 : Int)), y_2.fst.fst, y_2.fst.snd.fst, y_3.fst.fst))
 (Option.bind (spec_l6Rd_pick_fn fuel ((v.2.1, v.2.2.1, ()), ((24 : Int), ()), ())) fun y_2 =>
  cond (y_2.snd.fst.fst == (0 : Int))
   (tst (decide (List.length v.2.2.2 + 1 < LIM)) <|
    some (((y_2.fst.fst, y_2.fst.snd.fst, ()), (v.2.2.2 ++ [(0 : Int)], ()), ())))
   (cond (y_2.snd.fst.fst == (1 : Int))
    (tst (decide (List.length v.2.2.2 + 1 < LIM)) <|
     some (((y_2.fst.fst, y_2.fst.snd.fst, ()), (v.2.2.2 ++ [(64 : Int)], ()), ())))
    (some (((y_2.fst.fst, y_2.fst.snd.fst, ()), (v.2.2.2, ()), ())))))
def spec_l71Few_st0 (fuel : Nat) (g0 : spec_l71Few_V0 → Option (((List Int) × (Int × Unit)) × (((List Int) × Unit) × Unit))) : spec_l71Few_V0 → Option (((List Int) × (Int × Unit)) × (((List Int) × Unit) × Unit)) := spec_l71Few_step0 fuel g0
theorem spec_l71Few_lp0 (fuel : Nat) (G) : spec_l71Few_c.lp (spec_l71Few_T fuel) 1 fuel G (endU spec_l71Few_rv spec_l71Few_rf spec_l71Few_rs) 0 spec_l71Few_enc0 = iter (spec_l71Few_st0 fuel) fuel := C.lp_iter fun g v => by kernel_rfl
def spec_l71Few_pre (fuel : Nat) (X0 : spec_l71Few_V0 → Option (((List Int) × (Int × Unit)) × (((List Int) × Unit) × Unit))) (d0 : List Int) (d1 : Int) : Option (((List Int) × (Int × Unit)) × (((List Int) × Unit) × Unit)) :=
 Option.bind (spec_l6Rd_pick_fn fuel ((d0, d1, ()), ((10 : Int), ()), ())) fun y_1 =>
 X0 (y_1.snd.fst.fst, y_1.fst.fst, y_1.fst.snd.fst, [])
def spec_l71Few_fn (fuel : Nat) (z : ((List Int) × (Int × Unit)) × Unit) : Option (((List Int) × (Int × Unit)) × (((List Int) × Unit) × Unit)) := spec_l71Few_pre fuel (iter (spec_l71Few_st0 fuel) fuel) z.1.1 z.1.2.1
theorem spec_l71Few_run (fuel : Nat) (c : Rf.T spec_l71Few_rf) (x : PsT spec_l71Few_ps) : run (spec_l71Few_T fuel) 1 fuel spec_l71Few_c ((0, .ptr 0 0) :: env0 (svPs spec_l71Few_ps x) 1) [spec_l71Few_rf.blk c] (endU spec_l71Few_rv spec_l71Few_rf spec_l71Few_rs) = spec_l71Few_fn fuel (c, x) :=
  (show run (spec_l71Few_T fuel) 1 fuel spec_l71Few_c ((0, .ptr 0 0) :: env0 (svPs spec_l71Few_ps x) 1) [spec_l71Few_rf.blk c] (endU spec_l71Few_rv spec_l71Few_rf spec_l71Few_rs) = spec_l71Few_pre fuel (spec_l71Few_c.lp (spec_l71Few_T fuel) 1 fuel (fun _ _ _ => none) (endU spec_l71Few_rv spec_l71Few_rf spec_l71Few_rs) 0 spec_l71Few_enc0) c.1 c.2.1 by kernel_rfl).trans (by rw [spec_l71Few_lp0]; rfl)
def spec_l71Few_tf (fuel : Nat) : TFU := ⟨spec_l71Few_rf, spec_l71Few_ps, spec_l71Few_rs, spec_l71Few_fn fuel⟩
theorem spec_l71Few_spec (fuel : Nat) : FnSpecU Try.prog 66 (spec_l71Few_tf fuel) :=
  fn_specU (T := spec_l71Few_T fuel) (c := bodyOf Try.f66) (fn := Try.f66) (TabOK.of (entCons (spec_l6Rd_pick_ok fuel) (entCons (spec_FewAdd_ok fuel) entNil)) (methNil)) mixed (by kernel_rfl) (by kernel_rfl) spec_l71Few_l (by kernel_rfl) (Nat.le_of_ble_eq_true (by kernel_rfl)) (rv := spec_l71Few_rv) (by kernel_rfl) (spec_l71Few_run fuel)
theorem spec_l71Few_ok (fuel : Nat) : EntryOK Try.prog 66 (spec_l71Few_tf fuel).te := EntryOK.tfu (spec_l71Few_spec fuel) (isFn (fn := Try.f66) (by kernel_rfl) (by kernel_rfl) (by kernel_rfl))

/-! ### spec_DrawSumOk -/
def spec_DrawSumOk_T (fuel : Nat) : Tab := Tab.of [(61, (spec_l71Sum_tf fuel).te), (62, (spec_l6Open_tf fuel).te), (64, (spec_l6Rd_pick_tf fuel).te), (65, (spec_l71Rank_tf fuel).te), (66, (spec_l71Few_tf fuel).te)] []
abbrev spec_DrawSumOk_ps : List Pm := [{ cs := [(Kd.list (Kd.int IntKind.u8), false)], ag := false }]
abbrev spec_DrawSumOk_rs : List Pm := [{ cs := [(Kd.list (Kd.list (Kd.int IntKind.i64)), false), (Kd.list (Kd.int IntKind.i64), true), (Kd.list (Kd.pair (Kd.int IntKind.i64) (Kd.pair (Kd.int IntKind.i64) Kd.unit)), true), (Kd.int IntKind.i64, false), (Kd.int IntKind.i64, false), (Kd.list (Kd.pair (Kd.int IntKind.i64) (Kd.pair (Kd.int IntKind.i64) Kd.unit)), true), (Kd.int IntKind.i64, false)], ag := true }]
def spec_DrawSumOk_ann : List Norm := []
noncomputable def spec_DrawSumOk_c : C := irOf Try.prog Try.f23 [] spec_DrawSumOk_ann []
theorem spec_DrawSumOk_l : lightC Try.prog [] Try.f23.ntmps spec_DrawSumOk_ann [] 0 (bodyOf Try.f23) = some (spec_DrawSumOk_c, 0) := by kernel_rfl
def spec_DrawSumOk_rv : List (Nat × Option (Nat × Bool)) := [(2, some (7, true))]
def spec_DrawSumOk_pre (fuel : Nat) (x0 : List Int) : Option (((List (List Int)) × ((List Int) × ((List (Int × (Int × Unit))) × (Int × (Int × ((List (Int × (Int × Unit))) × (Int × Unit))))))) × Unit) :=
 Option.bind (spec_l6Open_fn fuel ((x0, ()), ())) fun y_1 =>
 Option.bind (spec_l71Sum_fn fuel ((y_1.fst, y_1.snd.fst, ()), ())) fun y_2 =>
  Option.bind (spec_l6Rd_pick_fn fuel ((y_2.fst.fst, y_2.fst.snd.fst, ()), ((4 : Int), ()), ())) fun y_3 =>
   cond (y_3.snd.fst.fst == (0 : Int))
    (Option.bind (spec_l71Rank_fn fuel ((y_3.fst.fst, y_3.fst.snd.fst, ()), ())) fun y_5 =>
     some (((y_2.snd.fst.fst, y_2.snd.fst.snd.fst, y_2.snd.fst.snd.snd.fst, y_2.snd.fst.snd.snd.snd.fst, y_2.snd.fst.snd.snd.snd.snd.fst, y_5.snd.fst.fst, y_5.snd.fst.snd.fst, ()), ())))
    (cond (y_3.snd.fst.fst == (1 : Int))
     (Option.bind (spec_l71Few_fn fuel ((y_3.fst.fst, y_3.fst.snd.fst, ()), ())) fun y_6 =>
      some (((y_2.snd.fst.fst, y_6.snd.fst.fst, y_2.snd.fst.snd.snd.fst, y_2.snd.fst.snd.snd.snd.fst, y_2.snd.fst.snd.snd.snd.snd.fst, y_2.snd.fst.snd.snd.snd.snd.snd.fst, y_2.snd.fst.snd.snd.snd.snd.snd.snd.fst, ()), ())))
     (some (((y_2.snd.fst.fst, y_2.snd.fst.snd.fst, y_2.snd.fst.snd.snd.fst, y_2.snd.fst.snd.snd.snd.fst, y_2.snd.fst.snd.snd.snd.snd.fst, y_2.snd.fst.snd.snd.snd.snd.snd.fst, y_2.snd.fst.snd.snd.snd.snd.snd.snd.fst, ()), ()))))
def spec_DrawSumOk_fn (fuel : Nat) (x : (((List Int) × Unit) × Unit)) : Option (((List (List Int)) × ((List Int) × ((List (Int × (Int × Unit))) × (Int × (Int × ((List (Int × (Int × Unit))) × (Int × Unit))))))) × Unit) := spec_DrawSumOk_pre fuel x.1.1
theorem spec_DrawSumOk_run (fuel : Nat) (x : PsT spec_DrawSumOk_ps) : run (spec_DrawSumOk_T fuel) 0 fuel spec_DrawSumOk_c (env0 (svPs spec_DrawSumOk_ps x) 0) [] (endF spec_DrawSumOk_rv spec_DrawSumOk_rs) = spec_DrawSumOk_fn fuel x := by kernel_rfl
def spec_DrawSumOk_tf (fuel : Nat) : TF := ⟨spec_DrawSumOk_ps, spec_DrawSumOk_rs, false, spec_DrawSumOk_fn fuel⟩
theorem spec_DrawSumOk_spec (fuel : Nat) : FnSpec Try.prog 23 (spec_DrawSumOk_tf fuel) :=
  fn_spec (T := spec_DrawSumOk_T fuel) (c := bodyOf Try.f23) (fn := Try.f23) (TabOK.of (entCons (spec_l71Sum_ok fuel) (entCons (spec_l6Open_ok fuel) (entCons (spec_l6Rd_pick_ok fuel) (entCons (spec_l71Rank_ok fuel) (entCons (spec_l71Few_ok fuel) entNil))))) (methNil)) mixed (by kernel_rfl) (by kernel_rfl) spec_DrawSumOk_l (by kernel_rfl) (Nat.le_of_ble_eq_true (by kernel_rfl)) (rv := spec_DrawSumOk_rv) (by kernel_rfl) (spec_DrawSumOk_run fuel)
theorem spec_DrawSumOk_ok (fuel : Nat) : EntryOK Try.prog 23 (spec_DrawSumOk_tf fuel).te := EntryOK.tf rfl (spec_DrawSumOk_spec fuel) (isFn (fn := Try.f23) (by kernel_rfl) (by kernel_rfl) (by kernel_rfl))

/-! ### laws_FnSumOk -/
def laws_FnSumOk_T (fuel : Nat) : Tab := Tab.of [(16, (spec_SumOk_tf fuel).te), (18, (impl_SumOk_tf fuel).te), (22, (impl_RoughAll_tf fuel).te), (23, (spec_DrawSumOk_tf fuel).te), (24, (impl_RoughOk_tf fuel).te), (25, (impl_FewOk_tf fuel).te), (26, (impl_TopOk_tf fuel).te), (27, (impl_RankOk_tf fuel).te)] []
abbrev laws_FnSumOk_ps : List Pm := [{ cs := [(Kd.list (Kd.int IntKind.u8), false)], ag := false }]
abbrev laws_FnSumOk_rs : List Pm := [{ cs := [(Kd.bool, false)], ag := false }]
def laws_FnSumOk_ann : List Norm := []
noncomputable def laws_FnSumOk_c : C := irOf Try.prog Try.f7 [] laws_FnSumOk_ann []
theorem laws_FnSumOk_l : lightC Try.prog [] Try.f7.ntmps laws_FnSumOk_ann [] 0 (bodyOf Try.f7) = some (laws_FnSumOk_c, 0) := by kernel_rfl
def laws_FnSumOk_rv : List (Nat × Option (Nat × Bool)) := [(2, none)]
def laws_FnSumOk_pre (fuel : Nat) (x0 : List Int) : Option ((Bool × Unit) × Unit) :=
 cond (decide ((zz (List.length x0)) > (1048576 : Int)))
 (some (((true, ()), ())))
 (Option.bind (spec_DrawSumOk_fn fuel ((x0, ()), ())) fun y_2 =>
  Option.bind (impl_SumOk_fn fuel ((y_2.fst.fst, y_2.fst.snd.fst, y_2.fst.snd.snd.fst, y_2.fst.snd.snd.snd.fst, y_2.fst.snd.snd.snd.snd.fst, y_2.fst.snd.snd.snd.snd.snd.fst, y_2.fst.snd.snd.snd.snd.snd.snd.fst, ()), ())) fun y_3 =>
   Option.bind (spec_SumOk_fn fuel ((y_2.fst.fst, y_2.fst.snd.fst, y_2.fst.snd.snd.fst, y_2.fst.snd.snd.snd.fst, y_2.fst.snd.snd.snd.snd.fst, y_2.fst.snd.snd.snd.snd.snd.fst, y_2.fst.snd.snd.snd.snd.snd.snd.fst, ()), ())) fun y_4 =>
    cond (!y_3.fst.fst == y_4.fst.fst)
     (Option.bind (spec_SumOk_fn fuel ((y_2.fst.fst, y_2.fst.snd.fst, y_2.fst.snd.snd.fst, y_2.fst.snd.snd.snd.fst, y_2.fst.snd.snd.snd.snd.fst, y_2.fst.snd.snd.snd.snd.snd.fst, y_2.fst.snd.snd.snd.snd.snd.snd.fst, ()), ())) fun y_6 =>
      some (((y_3.fst.fst == y_6.fst.fst, ()), ())))
     (cond (!y_3.fst.fst)
      (Option.bind (spec_SumOk_fn fuel ((y_2.fst.fst, y_2.fst.snd.fst, y_2.fst.snd.snd.fst, y_2.fst.snd.snd.snd.fst, y_2.fst.snd.snd.snd.snd.fst, y_2.fst.snd.snd.snd.snd.snd.fst, y_2.fst.snd.snd.snd.snd.snd.snd.fst, ()), ())) fun y_7 =>
       some (((y_3.fst.fst == y_7.fst.fst, ()), ())))
      (Option.bind (impl_RoughOk_fn fuel ((y_2.fst.fst, ()), ())) fun y_7 =>
       cond (y_7.fst.fst)
        (Option.bind (impl_FewOk_fn fuel ((y_2.fst.snd.fst, ()), ())) fun y_9 =>
         cond (y_9.fst.fst)
          (Option.bind (impl_TopOk_fn fuel ((y_2.fst.snd.snd.fst, y_2.fst.snd.snd.snd.fst, y_2.fst.snd.snd.snd.snd.fst, ()), ())) fun y_11 =>
           cond (y_11.fst.fst)
            (Option.bind (impl_RankOk_fn fuel ((y_2.fst.snd.snd.snd.snd.snd.fst, y_2.fst.snd.snd.snd.snd.snd.snd.fst, ()), ())) fun y_13 =>
             cond (y_13.fst.fst)
              (Option.bind (impl_RoughAll_fn fuel ((y_2.fst.fst, ()), ())) fun y_15 =>
               cond (y_15.fst.fst == y_2.fst.snd.snd.snd.snd.fst)
                (some (((y_2.fst.snd.snd.snd.snd.snd.snd.fst == y_2.fst.snd.snd.snd.snd.fst, ()), ())))
                (some (((false, ()), ()))))
              (some (((false, ()), ()))))
            (some (((false, ()), ()))))
          (some (((false, ()), ()))))
        (some (((false, ()), ()))))))
def laws_FnSumOk_fn (fuel : Nat) (x : (((List Int) × Unit) × Unit)) : Option ((Bool × Unit) × Unit) := laws_FnSumOk_pre fuel x.1.1
theorem laws_FnSumOk_run (fuel : Nat) (x : PsT laws_FnSumOk_ps) : run (laws_FnSumOk_T fuel) 0 fuel laws_FnSumOk_c (env0 (svPs laws_FnSumOk_ps x) 0) [] (endF laws_FnSumOk_rv laws_FnSumOk_rs) = laws_FnSumOk_fn fuel x := by kernel_rfl
def laws_FnSumOk_tf (fuel : Nat) : TF := ⟨laws_FnSumOk_ps, laws_FnSumOk_rs, true, laws_FnSumOk_fn fuel⟩
theorem laws_FnSumOk_spec (fuel : Nat) : FnSpec Try.prog 7 (laws_FnSumOk_tf fuel) :=
  fn_spec (T := laws_FnSumOk_T fuel) (c := bodyOf Try.f7) (fn := Try.f7) (TabOK.of (entCons (spec_SumOk_ok fuel) (entCons (impl_SumOk_ok fuel) (entCons (impl_RoughAll_ok fuel) (entCons (spec_DrawSumOk_ok fuel) (entCons (impl_RoughOk_ok fuel) (entCons (impl_FewOk_ok fuel) (entCons (impl_TopOk_ok fuel) (entCons (impl_RankOk_ok fuel) entNil)))))))) (methNil)) mixed (by kernel_rfl) (by kernel_rfl) laws_FnSumOk_l (by kernel_rfl) (Nat.le_of_ble_eq_true (by kernel_rfl)) (rv := laws_FnSumOk_rv) (by kernel_rfl) (laws_FnSumOk_run fuel)
theorem laws_FnSumOk_ok (fuel : Nat) : EntryOK Try.prog 7 (laws_FnSumOk_tf fuel).te := EntryOK.tf rfl (laws_FnSumOk_spec fuel) (isFn (fn := Try.f7) (by kernel_rfl) (by kernel_rfl) (by kernel_rfl))

/-! ### spec_DrawSumAdd -/
def spec_DrawSumAdd_T (fuel : Nat) : Tab := Tab.of [(61, (spec_l71Sum_tf fuel).te), (62, (spec_l6Open_tf fuel).te), (105, (spec_l71Thing_tf fuel).te)] []
abbrev spec_DrawSumAdd_ps : List Pm := [{ cs := [(Kd.list (Kd.int IntKind.u8), false)], ag := false }]
abbrev spec_DrawSumAdd_rs : List Pm := [{ cs := [(Kd.list (Kd.list (Kd.int IntKind.i64)), false), (Kd.list (Kd.int IntKind.i64), true), (Kd.list (Kd.pair (Kd.int IntKind.i64) (Kd.pair (Kd.int IntKind.i64) Kd.unit)), true), (Kd.int IntKind.i64, false), (Kd.int IntKind.i64, false), (Kd.list (Kd.pair (Kd.int IntKind.i64) (Kd.pair (Kd.int IntKind.i64) Kd.unit)), true), (Kd.int IntKind.i64, false)], ag := true }, { cs := [(Kd.int IntKind.i64, false)], ag := false }]
def spec_DrawSumAdd_ann : List Norm := []
noncomputable def spec_DrawSumAdd_c : C := irOf Try.prog Try.f73 [] spec_DrawSumAdd_ann []
theorem spec_DrawSumAdd_l : lightC Try.prog [] Try.f73.ntmps spec_DrawSumAdd_ann [] 0 (bodyOf Try.f73) = some (spec_DrawSumAdd_c, 0) := by kernel_rfl
def spec_DrawSumAdd_rv : List (Nat × Option (Nat × Bool)) := [(2, some (7, true)), (3, none)]
def spec_DrawSumAdd_pre (fuel : Nat) (x0 : List Int) : Option (((List (List Int)) × ((List Int) × ((List (Int × (Int × Unit))) × (Int × (Int × ((List (Int × (Int × Unit))) × (Int × Unit))))))) × ((Int × Unit) × Unit)) :=
 Option.bind (spec_l6Open_fn fuel ((x0, ()), ())) fun y_1 =>
 Option.bind (spec_l71Sum_fn fuel ((y_1.fst, y_1.snd.fst, ()), ())) fun y_2 =>
  Option.bind (spec_l71Thing_fn fuel ((y_2.fst.fst, y_2.fst.snd.fst, ()), ())) fun y_3 =>
   some (((y_2.snd.fst.fst, y_2.snd.fst.snd.fst, y_2.snd.fst.snd.snd.fst, y_2.snd.fst.snd.snd.snd.fst, y_2.snd.fst.snd.snd.snd.snd.fst, y_2.snd.fst.snd.snd.snd.snd.snd.fst, y_2.snd.fst.snd.snd.snd.snd.snd.snd.fst, ()), (y_3.snd.fst.fst, ()), ()))
def spec_DrawSumAdd_fn (fuel : Nat) (x : (((List Int) × Unit) × Unit)) : Option (((List (List Int)) × ((List Int) × ((List (Int × (Int × Unit))) × (Int × (Int × ((List (Int × (Int × Unit))) × (Int × Unit))))))) × ((Int × Unit) × Unit)) := spec_DrawSumAdd_pre fuel x.1.1
theorem spec_DrawSumAdd_run (fuel : Nat) (x : PsT spec_DrawSumAdd_ps) : run (spec_DrawSumAdd_T fuel) 0 fuel spec_DrawSumAdd_c (env0 (svPs spec_DrawSumAdd_ps x) 0) [] (endF spec_DrawSumAdd_rv spec_DrawSumAdd_rs) = spec_DrawSumAdd_fn fuel x := by kernel_rfl
def spec_DrawSumAdd_tf (fuel : Nat) : TF := ⟨spec_DrawSumAdd_ps, spec_DrawSumAdd_rs, false, spec_DrawSumAdd_fn fuel⟩
theorem spec_DrawSumAdd_spec (fuel : Nat) : FnSpec Try.prog 73 (spec_DrawSumAdd_tf fuel) :=
  fn_spec (T := spec_DrawSumAdd_T fuel) (c := bodyOf Try.f73) (fn := Try.f73) (TabOK.of (entCons (spec_l71Sum_ok fuel) (entCons (spec_l6Open_ok fuel) (entCons (spec_l71Thing_ok fuel) entNil))) (methNil)) mixed (by kernel_rfl) (by kernel_rfl) spec_DrawSumAdd_l (by kernel_rfl) (Nat.le_of_ble_eq_true (by kernel_rfl)) (rv := spec_DrawSumAdd_rv) (by kernel_rfl) (spec_DrawSumAdd_run fuel)
theorem spec_DrawSumAdd_ok (fuel : Nat) : EntryOK Try.prog 73 (spec_DrawSumAdd_tf fuel).te := EntryOK.tf rfl (spec_DrawSumAdd_spec fuel) (isFn (fn := Try.f73) (by kernel_rfl) (by kernel_rfl) (by kernel_rfl))

/-! ### spec_DrawSumGet -/
def spec_DrawSumGet_T (fuel : Nat) : Tab := Tab.of [(73, (spec_DrawSumAdd_tf fuel).te)] []
abbrev spec_DrawSumGet_ps : List Pm := [{ cs := [(Kd.list (Kd.int IntKind.u8), false)], ag := false }]
abbrev spec_DrawSumGet_rs : List Pm := [{ cs := [(Kd.list (Kd.list (Kd.int IntKind.i64)), false), (Kd.list (Kd.int IntKind.i64), true), (Kd.list (Kd.pair (Kd.int IntKind.i64) (Kd.pair (Kd.int IntKind.i64) Kd.unit)), true), (Kd.int IntKind.i64, false), (Kd.int IntKind.i64, false), (Kd.list (Kd.pair (Kd.int IntKind.i64) (Kd.pair (Kd.int IntKind.i64) Kd.unit)), true), (Kd.int IntKind.i64, false)], ag := true }, { cs := [(Kd.int IntKind.i64, false)], ag := false }]
def spec_DrawSumGet_ann : List Norm := []
noncomputable def spec_DrawSumGet_c : C := irOf Try.prog Try.f30 [] spec_DrawSumGet_ann []
theorem spec_DrawSumGet_l : lightC Try.prog [] Try.f30.ntmps spec_DrawSumGet_ann [] 0 (bodyOf Try.f30) = some (spec_DrawSumGet_c, 0) := by kernel_rfl
def spec_DrawSumGet_rv : List (Nat × Option (Nat × Bool)) := [(2, some (7, true)), (3, none)]
def spec_DrawSumGet_pre (fuel : Nat) (x0 : List Int) : Option (((List (List Int)) × ((List Int) × ((List (Int × (Int × Unit))) × (Int × (Int × ((List (Int × (Int × Unit))) × (Int × Unit))))))) × ((Int × Unit) × Unit)) :=
 Option.bind (spec_DrawSumAdd_fn fuel ((x0, ()), ())) fun y_1 =>
 some (((y_1.fst.fst, y_1.fst.snd.fst, y_1.fst.snd.snd.fst, y_1.fst.snd.snd.snd.fst, y_1.fst.snd.snd.snd.snd.fst, y_1.fst.snd.snd.snd.snd.snd.fst, y_1.fst.snd.snd.snd.snd.snd.snd.fst, ()), (y_1.snd.fst.fst, ()), ()))
def spec_DrawSumGet_fn (fuel : Nat) (x : (((List Int) × Unit) × Unit)) : Option (((List (List Int)) × ((List Int) × ((List (Int × (Int × Unit))) × (Int × (Int × ((List (Int × (Int × Unit))) × (Int × Unit))))))) × ((Int × Unit) × Unit)) := spec_DrawSumGet_pre fuel x.1.1
theorem spec_DrawSumGet_run (fuel : Nat) (x : PsT spec_DrawSumGet_ps) : run (spec_DrawSumGet_T fuel) 0 fuel spec_DrawSumGet_c (env0 (svPs spec_DrawSumGet_ps x) 0) [] (endF spec_DrawSumGet_rv spec_DrawSumGet_rs) = spec_DrawSumGet_fn fuel x := by kernel_rfl
def spec_DrawSumGet_tf (fuel : Nat) : TF := ⟨spec_DrawSumGet_ps, spec_DrawSumGet_rs, false, spec_DrawSumGet_fn fuel⟩
theorem spec_DrawSumGet_spec (fuel : Nat) : FnSpec Try.prog 30 (spec_DrawSumGet_tf fuel) :=
  fn_spec (T := spec_DrawSumGet_T fuel) (c := bodyOf Try.f30) (fn := Try.f30) (TabOK.of (entCons (spec_DrawSumAdd_ok fuel) entNil) (methNil)) mixed (by kernel_rfl) (by kernel_rfl) spec_DrawSumGet_l (by kernel_rfl) (Nat.le_of_ble_eq_true (by kernel_rfl)) (rv := spec_DrawSumGet_rv) (by kernel_rfl) (spec_DrawSumGet_run fuel)
theorem spec_DrawSumGet_ok (fuel : Nat) : EntryOK Try.prog 30 (spec_DrawSumGet_tf fuel).te := EntryOK.tf rfl (spec_DrawSumGet_spec fuel) (isFn (fn := Try.f30) (by kernel_rfl) (by kernel_rfl) (by kernel_rfl))

/-! ### laws_FnSumGetNear -/
def laws_FnSumGetNear_T (fuel : Nat) : Tab := Tab.of [(28, (spec_SumGet_tf fuel).te), (29, (impl_SumGet_tf fuel).te), (30, (spec_DrawSumGet_tf fuel).te), (31, (impl_TopGet_tf fuel).te), (32, (impl_FewHas_tf fuel).te)] []
abbrev laws_FnSumGetNear_ps : List Pm := [{ cs := [(Kd.list (Kd.int IntKind.u8), false)], ag := false }]
abbrev laws_FnSumGetNear_rs : List Pm := [{ cs := [(Kd.bool, false)], ag := false }]
def laws_FnSumGetNear_ann : List Norm := []
noncomputable def laws_FnSumGetNear_c : C := irOf Try.prog Try.f9 [] laws_FnSumGetNear_ann []
theorem laws_FnSumGetNear_l : lightC Try.prog [] Try.f9.ntmps laws_FnSumGetNear_ann [] 0 (bodyOf Try.f9) = some (laws_FnSumGetNear_c, 0) := by kernel_rfl
def laws_FnSumGetNear_rv : List (Nat × Option (Nat × Bool)) := [(2, none)]
def laws_FnSumGetNear_pre (fuel : Nat) (x0 : List Int) : Option ((Bool × Unit) × Unit) :=
 cond (decide ((zz (List.length x0)) > (1048576 : Int)))
 (some (((true, ()), ())))
 (Option.bind (spec_DrawSumGet_fn fuel ((x0, ()), ())) fun y_2 =>
  Option.bind (spec_SumGet_fn fuel ((y_2.fst.fst, y_2.fst.snd.fst, y_2.fst.snd.snd.fst, y_2.fst.snd.snd.snd.fst, y_2.fst.snd.snd.snd.snd.fst, y_2.fst.snd.snd.snd.snd.snd.fst, y_2.fst.snd.snd.snd.snd.snd.snd.fst, ()), (y_2.snd.fst.fst, ()), ())) fun y_3 =>
   Option.bind (impl_SumGet_fn fuel ((y_2.fst.fst, y_2.fst.snd.fst, y_2.fst.snd.snd.fst, y_2.fst.snd.snd.snd.fst, y_2.fst.snd.snd.snd.snd.fst, y_2.fst.snd.snd.snd.snd.snd.fst, y_2.fst.snd.snd.snd.snd.snd.snd.fst, ()), (y_2.snd.fst.fst, ()), ())) fun y_4 =>
    cond (y_4.fst.fst != y_3.fst.fst)
     (cond (y_4.fst.fst == y_3.fst.fst)
      (some (((y_4.snd.fst.fst == y_3.snd.fst.fst, ()), ())))
      (some (((false, ()), ()))))
     (cond (y_4.snd.fst.fst != y_3.snd.fst.fst)
      (cond (y_4.fst.fst == y_3.fst.fst)
       (some (((y_4.snd.fst.fst == y_3.snd.fst.fst, ()), ())))
       (some (((false, ()), ()))))
      (cond (decide (y_4.fst.fst < (0 : Int)))
       (cond (y_4.fst.fst == y_3.fst.fst)
        (some (((y_4.snd.fst.fst == y_3.snd.fst.fst, ()), ())))
        (some (((false, ()), ()))))
       (Option.bind (impl_TopGet_fn fuel ((y_2.fst.snd.snd.fst, y_2.fst.snd.snd.snd.fst, y_2.fst.snd.snd.snd.snd.fst, ()), (y_2.snd.fst.fst, ()), ())) fun y_8 =>
        Option.bind (impl_FewHas_fn fuel ((y_2.fst.snd.fst, ()), (y_2.snd.fst.fst, ()), ())) fun y_9 =>
         cond (y_9.snd.fst.fst)
          (cond (!y_9.fst.fst)
           (cond (decide (y_4.snd.fst.fst ≤ y_8.snd.fst.fst))
            (cond (!y_9.snd.fst.fst)
             (some (((true, ()), ())))
             (cond (y_9.fst.fst)
              (some (((true, ()), ())))
              (some (((y_4.snd.fst.fst == (0 : Int), ()), ())))))
            (some (((false, ()), ()))))
           (cond (decide (y_4.fst.fst ≥ y_8.fst.fst))
            (cond (decide (y_4.snd.fst.fst ≤ y_8.snd.fst.fst))
             (cond (!y_9.snd.fst.fst)
              (some (((true, ()), ())))
              (cond (y_9.fst.fst)
               (some (((true, ()), ())))
               (some (((y_4.snd.fst.fst == (0 : Int), ()), ())))))
             (some (((false, ()), ()))))
            (some (((false, ()), ())))))
          (cond (decide (y_4.fst.fst ≥ y_8.fst.fst))
           (cond (decide (y_4.snd.fst.fst ≤ y_8.snd.fst.fst))
            (cond (!y_9.snd.fst.fst)
             (some (((true, ()), ())))
             (cond (y_9.fst.fst)
              (some (((true, ()), ())))
              (some (((y_4.snd.fst.fst == (0 : Int), ()), ())))))
            (some (((false, ()), ()))))
           (some (((false, ()), ()))))))))
def laws_FnSumGetNear_fn (fuel : Nat) (x : (((List Int) × Unit) × Unit)) : Option ((Bool × Unit) × Unit) := laws_FnSumGetNear_pre fuel x.1.1
theorem laws_FnSumGetNear_run (fuel : Nat) (x : PsT laws_FnSumGetNear_ps) : run (laws_FnSumGetNear_T fuel) 0 fuel laws_FnSumGetNear_c (env0 (svPs laws_FnSumGetNear_ps x) 0) [] (endF laws_FnSumGetNear_rv laws_FnSumGetNear_rs) = laws_FnSumGetNear_fn fuel x := by kernel_rfl
def laws_FnSumGetNear_tf (fuel : Nat) : TF := ⟨laws_FnSumGetNear_ps, laws_FnSumGetNear_rs, true, laws_FnSumGetNear_fn fuel⟩
theorem laws_FnSumGetNear_spec (fuel : Nat) : FnSpec Try.prog 9 (laws_FnSumGetNear_tf fuel) :=
  fn_spec (T := laws_FnSumGetNear_T fuel) (c := bodyOf Try.f9) (fn := Try.f9) (TabOK.of (entCons (spec_SumGet_ok fuel) (entCons (impl_SumGet_ok fuel) (entCons (spec_DrawSumGet_ok fuel) (entCons (impl_TopGet_ok fuel) (entCons (impl_FewHas_ok fuel) entNil))))) (methNil)) mixed (by kernel_rfl) (by kernel_rfl) laws_FnSumGetNear_l (by kernel_rfl) (Nat.le_of_ble_eq_true (by kernel_rfl)) (rv := laws_FnSumGetNear_rv) (by kernel_rfl) (laws_FnSumGetNear_run fuel)
theorem laws_FnSumGetNear_ok (fuel : Nat) : EntryOK Try.prog 9 (laws_FnSumGetNear_tf fuel).te := EntryOK.tf rfl (laws_FnSumGetNear_spec fuel) (isFn (fn := Try.f9) (by kernel_rfl) (by kernel_rfl) (by kernel_rfl))

end Go.Proofs.Ytjnkefbdpcbkmaa.Den
