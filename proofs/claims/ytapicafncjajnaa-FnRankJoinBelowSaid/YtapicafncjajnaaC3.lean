/- Readings of functions of the ranks, as functions on plain data (C3). -/
import Derived.Test.YtapicafncjajnaaC2
namespace Go.Proofs.Ytapicafncjajnaa.Den
open Go Go.RowKit
set_option linter.unusedVariables false
set_option linter.unusedSimpArgs false

/-! ### spec_DrawRankJoin -/
def spec_DrawRankJoin_T (fuel : Nat) : Tab := Tab.of [(34, (spec_l6Open_tf fuel).te), (35, (spec_l71Rank_tf fuel).te)] []
abbrev spec_DrawRankJoin_ps : List Pm := [{ cs := [(Kd.list (Kd.int IntKind.u8), false)], ag := false }]
abbrev spec_DrawRankJoin_rs : List Pm := [{ cs := [(Kd.list (Kd.pair (Kd.int IntKind.i64) (Kd.pair (Kd.int IntKind.i64) Kd.unit)), true), (Kd.int IntKind.i64, false)], ag := true }, { cs := [(Kd.list (Kd.pair (Kd.int IntKind.i64) (Kd.pair (Kd.int IntKind.i64) Kd.unit)), true), (Kd.int IntKind.i64, false)], ag := true }]
def spec_DrawRankJoin_ann : List Norm := []
noncomputable def spec_DrawRankJoin_c : C := irOf Try.prog Try.f13 [] spec_DrawRankJoin_ann []
theorem spec_DrawRankJoin_l : lightC Try.prog [] Try.f13.ntmps spec_DrawRankJoin_ann [] 0 (bodyOf Try.f13) = some (spec_DrawRankJoin_c, 0) := by kernel_rfl
def spec_DrawRankJoin_rv : List (Nat × Option (Nat × Bool)) := [(2, some (2, true)), (3, some (2, true))]
def spec_DrawRankJoin_pre (fuel : Nat) (x0 : List Int) : Option (((List (Int × (Int × Unit))) × (Int × Unit)) × (((List (Int × (Int × Unit))) × (Int × Unit)) × Unit)) :=
 Option.bind (spec_l6Open_fn fuel ((x0, ()), ())) fun y_1 =>
 Option.bind (spec_l71Rank_fn fuel ((y_1.fst, y_1.snd.fst, ()), ())) fun y_2 =>
  Option.bind (spec_l71Rank_fn fuel ((y_2.fst.fst, y_2.fst.snd.fst, ()), ())) fun y_3 =>
   some (((y_2.snd.fst.fst, y_2.snd.fst.snd.fst, ()), (y_3.snd.fst.fst, y_3.snd.fst.snd.fst, ()), ()))
def spec_DrawRankJoin_fn (fuel : Nat) (x : (((List Int) × Unit) × Unit)) : Option (((List (Int × (Int × Unit))) × (Int × Unit)) × (((List (Int × (Int × Unit))) × (Int × Unit)) × Unit)) := spec_DrawRankJoin_pre fuel x.1.1
theorem spec_DrawRankJoin_run (fuel : Nat) (x : PsT spec_DrawRankJoin_ps) : run (spec_DrawRankJoin_T fuel) 0 fuel spec_DrawRankJoin_c (env0 (svPs spec_DrawRankJoin_ps x) 0) [] (endF spec_DrawRankJoin_rv spec_DrawRankJoin_rs) = spec_DrawRankJoin_fn fuel x := by kernel_rfl
def spec_DrawRankJoin_tf (fuel : Nat) : TF := ⟨spec_DrawRankJoin_ps, spec_DrawRankJoin_rs, true, spec_DrawRankJoin_fn fuel⟩
theorem spec_DrawRankJoin_spec (fuel : Nat) : FnSpec Try.prog 13 (spec_DrawRankJoin_tf fuel) :=
  fn_spec (T := spec_DrawRankJoin_T fuel) (c := bodyOf Try.f13) (fn := Try.f13) (TabOK.of (entCons (spec_l6Open_ok fuel) (entCons (spec_l71Rank_ok fuel) entNil)) methNil) mixed (by kernel_rfl) (by kernel_rfl) spec_DrawRankJoin_l (by kernel_rfl) (Nat.le_of_ble_eq_true (by kernel_rfl)) (rv := spec_DrawRankJoin_rv) (by kernel_rfl) (spec_DrawRankJoin_run fuel)
theorem spec_DrawRankJoin_ok (fuel : Nat) : EntryOK Try.prog 13 (spec_DrawRankJoin_tf fuel).te := EntryOK.tf rfl (spec_DrawRankJoin_spec fuel) (isFn (fn := Try.f13) (by kernel_rfl) (by kernel_rfl) (by kernel_rfl))

/-! ### spec_RankJoin -/
def spec_RankJoin_T (fuel : Nat) : Tab := Tab.of [(29, (spec_RankOk_tf fuel).te), (36, (spec_l4Nums_tf fuel).te), (37, (spec_l4List_tf fuel).te), (38, (spec_l4Squeeze_tf fuel).te)] []
abbrev spec_RankJoin_ps : List Pm := [{ cs := [(Kd.list (Kd.pair (Kd.int IntKind.i64) (Kd.pair (Kd.int IntKind.i64) Kd.unit)), false), (Kd.int IntKind.i64, false)], ag := true }, { cs := [(Kd.list (Kd.pair (Kd.int IntKind.i64) (Kd.pair (Kd.int IntKind.i64) Kd.unit)), false), (Kd.int IntKind.i64, false)], ag := true }]
abbrev spec_RankJoin_rs : List Pm := [{ cs := [(Kd.list (Kd.pair (Kd.int IntKind.i64) (Kd.pair (Kd.int IntKind.i64) Kd.unit)), true), (Kd.int IntKind.i64, false)], ag := true }, { cs := [(Kd.bool, false)], ag := false }]
def spec_RankJoin_ann : List Norm := []
noncomputable def spec_RankJoin_c : C := irOf Try.prog Try.f14 [27, 41, 43] spec_RankJoin_ann []
theorem spec_RankJoin_l : lightC Try.prog [27, 41, 43] Try.f14.ntmps spec_RankJoin_ann [] 0 (bodyOf Try.f14) = some (spec_RankJoin_c, 0) := by kernel_rfl
def spec_RankJoin_rv : List (Nat × Option (Nat × Bool)) := [(4, some (2, true)), (5, none)]
def spec_RankJoin_pre (fuel : Nat) (x0 : List (Int × Int × Unit)) (x1 : Int) (x2 : List (Int × Int × Unit)) (x3 : Int) : Option (((List (Int × (Int × Unit))) × (Int × Unit)) × ((Bool × Unit) × Unit)) :=
 Option.bind (spec_RankOk_fn fuel ((x0, x1, ()), ())) fun y_1 =>
 cond (!y_1.fst.fst)
  (some ((([], (0 : Int), ()), (false, ()), ())))
  (Option.bind (spec_RankOk_fn fuel ((x2, x3, ()), ())) fun y_3 =>
   cond (!y_3.fst.fst)
    (some ((([], (0 : Int), ()), (false, ()), ())))
    (cond (decide (w64 (x1 + x3) > (2000 : Int)))
     (some ((([], (0 : Int), ()), (false, ()), ())))
     (tst (decide (0 + List.length x0 < LIM)) <|
      tst (decide (List.length ([] ++ x0) + List.length x2 < LIM)) <|
      Option.bind (spec_l4Nums_fn fuel (([] ++ x0 ++ x2, ()), ())) fun y_6 =>
      Option.bind (spec_l4Squeeze_fn fuel (y_6.fst.fst, (), (w64 (x1 + x3), ()), ())) fun y_7 =>
       Option.bind (spec_l4List_fn fuel ((y_7.fst, ()), ())) fun y_8 =>
        some (((y_8.fst.fst, w64 (x1 + x3), ()), (true, ()), ())))))
def spec_RankJoin_fn (fuel : Nat) (x : (((List (Int × (Int × Unit))) × (Int × Unit)) × (((List (Int × (Int × Unit))) × (Int × Unit)) × Unit))) : Option (((List (Int × (Int × Unit))) × (Int × Unit)) × ((Bool × Unit) × Unit)) := spec_RankJoin_pre fuel x.1.1 x.1.2.1 x.2.1.1 x.2.1.2.1
theorem spec_RankJoin_run (fuel : Nat) (x : PsT spec_RankJoin_ps) : run (spec_RankJoin_T fuel) 0 fuel spec_RankJoin_c (env0 (svPs spec_RankJoin_ps x) 0) [] (endF spec_RankJoin_rv spec_RankJoin_rs) = spec_RankJoin_fn fuel x := by kernel_rfl
def spec_RankJoin_tf (fuel : Nat) : TF := ⟨spec_RankJoin_ps, spec_RankJoin_rs, true, spec_RankJoin_fn fuel⟩
theorem spec_RankJoin_spec (fuel : Nat) : FnSpec Try.prog 14 (spec_RankJoin_tf fuel) :=
  fn_spec (T := spec_RankJoin_T fuel) (c := bodyOf Try.f14) (fn := Try.f14) (TabOK.of (entCons (spec_RankOk_ok fuel) (entCons (spec_l4Nums_ok fuel) (entCons (spec_l4List_ok fuel) (entCons (spec_l4Squeeze_ok fuel) entNil)))) methNil) mixed (by kernel_rfl) (by kernel_rfl) spec_RankJoin_l (by kernel_rfl) (Nat.le_of_ble_eq_true (by kernel_rfl)) (rv := spec_RankJoin_rv) (by kernel_rfl) (spec_RankJoin_run fuel)
theorem spec_RankJoin_ok (fuel : Nat) : EntryOK Try.prog 14 (spec_RankJoin_tf fuel).te := EntryOK.tf rfl (spec_RankJoin_spec fuel) (isFn (fn := Try.f14) (by kernel_rfl) (by kernel_rfl) (by kernel_rfl))

/-! ### impl_knotNums_addKnots -/
def impl_knotNums_addKnots_T (fuel : Nat) : Tab := Tab.of [] []
abbrev impl_knotNums_addKnots_ps : List Pm := [{ cs := [(Kd.list (Kd.pair (Kd.int IntKind.i64) (Kd.pair (Kd.int IntKind.i64) Kd.unit)), false)], ag := false }]
abbrev impl_knotNums_addKnots_rs : List Pm := []
abbrev impl_knotNums_addKnots_rf : Rf := Rf.arr (Kd.int IntKind.i64) 72
def impl_knotNums_addKnots_ann : List Norm := [{ live := [8, 7, 6, 0], fix := [] }]
noncomputable def impl_knotNums_addKnots_c : C := irOf Try.prog Try.f49 [] impl_knotNums_addKnots_ann []
theorem impl_knotNums_addKnots_l : lightC Try.prog [] Try.f49.ntmps impl_knotNums_addKnots_ann [] 0 (bodyOf Try.f49) = some (impl_knotNums_addKnots_c, 1) := by kernel_rfl
def impl_knotNums_addKnots_rv : List (Nat × Option (Nat × Bool)) := []
abbrev impl_knotNums_addKnots_V0 := (Int) × (Int) × (List (Int × Int × Unit)) × (List Int)
def impl_knotNums_addKnots_enc0 (v : impl_knotNums_addKnots_V0) : Env × Heap := ([(8, SV.int IntKind.i64 v.1), (7, SV.int IntKind.i64 v.2.1), (6, SV.es (Kd.pair (Kd.int IntKind.i64) (Kd.pair (Kd.int IntKind.i64) Kd.unit)) v.2.2.1), (0, SV.ptr 0 0)], [Blk.arr (Kd.int IntKind.i64) v.2.2.2 0])
def impl_knotNums_addKnots_step0 (fuel : Nat) (g0 : impl_knotNums_addKnots_V0 → Option ((List Int) × Unit)) (v : impl_knotNums_addKnots_V0) : Option ((List Int) × Unit) :=
 cond (decide (v.1 < v.2.1))
 (tst (decide (0 ≤ v.1)) <|
  tst (decide (v.1 < (zz (List.length v.2.2.1)))) <|
  tst (decide (0 ≤ (List.getD v.2.2.1 (Int.toNat v.1) (0, (0, ()))).fst)) <|
  tst (decide ((List.getD v.2.2.1 (Int.toNat v.1) (0, (0, ()))).fst < (zz 128))) <|
  tst (decide (Int.toNat (List.getD v.2.2.1 (Int.toNat v.1) (0, (0, ()))).fst < List.length v.2.2.2)) <|
  tst (decide (0 ≤ (List.getD v.2.2.1 (Int.toNat v.1) (0, (0, ()))).fst)) <|
  tst (decide ((List.getD v.2.2.1 (Int.toNat v.1) (0, (0, ()))).fst < (zz 128))) <|
  tst (decide (Int.toNat (List.getD v.2.2.1 (Int.toNat v.1) (0, (0, ()))).fst < List.length v.2.2.2)) <|
  g0 (w64 (v.1 + (1 : Int)), v.2.1, v.2.2.1, List.set v.2.2.2 (Int.toNat (List.getD v.2.2.1 (Int.toNat v.1) (0, (0, ()))).fst) (w64 (List.getD v.2.2.2 (Int.toNat (List.getD v.2.2.1 (Int.toNat v.1) (0, (0, ()))).fst) 0 + (List.getD v.2.2.1 (Int.toNat v.1) (0, (0, ()))).snd.fst))))
 (some ((v.2.2.2, ())))
def impl_knotNums_addKnots_st0 (fuel : Nat) (g0 : impl_knotNums_addKnots_V0 → Option ((List Int) × Unit)) : impl_knotNums_addKnots_V0 → Option ((List Int) × Unit) := impl_knotNums_addKnots_step0 fuel g0
theorem impl_knotNums_addKnots_lp0 (fuel : Nat) (G) : impl_knotNums_addKnots_c.lp (impl_knotNums_addKnots_T fuel) 1 fuel G (endU impl_knotNums_addKnots_rv impl_knotNums_addKnots_rf impl_knotNums_addKnots_rs) 0 impl_knotNums_addKnots_enc0 = iter (impl_knotNums_addKnots_st0 fuel) fuel := C.lp_iter fun g v => by kernel_rfl
def impl_knotNums_addKnots_pre (fuel : Nat) (X0 : impl_knotNums_addKnots_V0 → Option ((List Int) × Unit)) (d0 : List Int) (x0 : List (Int × Int × Unit)) : Option ((List Int) × Unit) :=
 X0 ((0 : Int), (zz (List.length x0)), x0, d0)
def impl_knotNums_addKnots_fn (fuel : Nat) (z : (List Int) × (((List (Int × (Int × Unit))) × Unit) × Unit)) : Option ((List Int) × Unit) := impl_knotNums_addKnots_pre fuel (iter (impl_knotNums_addKnots_st0 fuel) fuel) z.1 z.2.1.1
theorem impl_knotNums_addKnots_run (fuel : Nat) (c : Rf.T impl_knotNums_addKnots_rf) (x : PsT impl_knotNums_addKnots_ps) : run (impl_knotNums_addKnots_T fuel) 1 fuel impl_knotNums_addKnots_c ((0, .ptr 0 0) :: env0 (svPs impl_knotNums_addKnots_ps x) 1) [impl_knotNums_addKnots_rf.blk c] (endU impl_knotNums_addKnots_rv impl_knotNums_addKnots_rf impl_knotNums_addKnots_rs) = impl_knotNums_addKnots_fn fuel (c, x) :=
  (show run (impl_knotNums_addKnots_T fuel) 1 fuel impl_knotNums_addKnots_c ((0, .ptr 0 0) :: env0 (svPs impl_knotNums_addKnots_ps x) 1) [impl_knotNums_addKnots_rf.blk c] (endU impl_knotNums_addKnots_rv impl_knotNums_addKnots_rf impl_knotNums_addKnots_rs) = impl_knotNums_addKnots_pre fuel (impl_knotNums_addKnots_c.lp (impl_knotNums_addKnots_T fuel) 1 fuel (fun _ _ _ => none) (endU impl_knotNums_addKnots_rv impl_knotNums_addKnots_rf impl_knotNums_addKnots_rs) 0 impl_knotNums_addKnots_enc0) c x.1.1 by kernel_rfl).trans (by rw [impl_knotNums_addKnots_lp0]; rfl)
def impl_knotNums_addKnots_tf (fuel : Nat) : TFU := ⟨impl_knotNums_addKnots_rf, impl_knotNums_addKnots_ps, impl_knotNums_addKnots_rs, impl_knotNums_addKnots_fn fuel⟩
theorem impl_knotNums_addKnots_spec (fuel : Nat) : FnSpecU Try.prog 49 (impl_knotNums_addKnots_tf fuel) :=
  fn_specU (T := impl_knotNums_addKnots_T fuel) (c := bodyOf Try.f49) (fn := Try.f49) (TabOK.of (entNil) methNil) mixed (by kernel_rfl) (by kernel_rfl) impl_knotNums_addKnots_l (by kernel_rfl) (Nat.le_of_ble_eq_true (by kernel_rfl)) (rv := impl_knotNums_addKnots_rv) (by kernel_rfl) (impl_knotNums_addKnots_run fuel)
theorem impl_knotNums_addKnots_ok (fuel : Nat) : EntryOK Try.prog 49 (impl_knotNums_addKnots_tf fuel).te := EntryOK.tfu (impl_knotNums_addKnots_spec fuel) (isFn (fn := Try.f49) (by kernel_rfl) (by kernel_rfl) (by kernel_rfl))

/-! ### impl_knotNums_squeeze -/
def impl_knotNums_squeeze_T (fuel : Nat) : Tab := Tab.of [] []
abbrev impl_knotNums_squeeze_ps : List Pm := [{ cs := [(Kd.int IntKind.i64, false)], ag := false }]
abbrev impl_knotNums_squeeze_rs : List Pm := []
abbrev impl_knotNums_squeeze_rf : Rf := Rf.arr (Kd.int IntKind.i64) 72
def impl_knotNums_squeeze_ann : List Norm := [{ live := [5, 4, 0, 1], fix := [] }, { live := [4, 0, 1], fix := [(4, none, Kd.int IntKind.i64, true)] }]
noncomputable def impl_knotNums_squeeze_c : C := irOf Try.prog Try.f50 [] impl_knotNums_squeeze_ann []
theorem impl_knotNums_squeeze_l : lightC Try.prog [] Try.f50.ntmps impl_knotNums_squeeze_ann [] 0 (bodyOf Try.f50) = some (impl_knotNums_squeeze_c, 2) := by kernel_rfl
def impl_knotNums_squeeze_rv : List (Nat × Option (Nat × Bool)) := []
abbrev impl_knotNums_squeeze_V0 := (Int) × (Int) × (List Int) × (List Int)
abbrev impl_knotNums_squeeze_V1 := (Int) × (List Int) × (List Int)
def impl_knotNums_squeeze_enc0 (v : impl_knotNums_squeeze_V0) : Env × Heap := ([(5, SV.int IntKind.i64 v.1), (4, SV.own 1), (0, SV.ptr 0 0), (1, SV.int IntKind.i64 v.2.1)], [Blk.arr (Kd.int IntKind.i64) v.2.2.1 0, Blk.arr (Kd.int IntKind.i64) v.2.2.2 0])
def impl_knotNums_squeeze_enc1 (v : impl_knotNums_squeeze_V1) : Env × Heap := ([(4, SV.own 1), (0, SV.ptr 0 0), (1, SV.int IntKind.i64 v.1)], [Blk.arr (Kd.int IntKind.i64) v.2.1 0, Blk.arr (Kd.int IntKind.i64) v.2.2 0])
def impl_knotNums_squeeze_step1 (fuel : Nat) (g1 : impl_knotNums_squeeze_V1 → Option ((List Int) × Unit)) (v : impl_knotNums_squeeze_V1) : Option ((List Int) × Unit) :=
 cond (decide ((zz (List.length v.2.2)) > (0 : Int)))
 (tst (decide ((0 : Int) < (zz (List.length v.2.2)))) <|
  tst (decide (Int.toNat (0 : Int) < List.length v.2.2)) <|
  tst (decide ((1 : Int) ≤ (zz (List.length v.2.2)))) <|
  tst (decide (0 ≤ w64 (List.getD v.2.2 (Int.toNat (0 : Int)) 0 * 2 ^ min (Int.toNat (1 : Int)) (IntKind.bits IntKind.i64)))) <|
  tst (decide (w64 (List.getD v.2.2 (Int.toNat (0 : Int)) 0 * 2 ^ min (Int.toNat (1 : Int)) (IntKind.bits IntKind.i64)) < (zz 128))) <|
  tst (decide (Int.toNat (w64 (List.getD v.2.2 (Int.toNat (0 : Int)) 0 * 2 ^ min (Int.toNat (1 : Int)) (IntKind.bits IntKind.i64))) < List.length v.2.1)) <|
  tst (decide (0 ≤ w64 (zz (BitVec.toNat (BitVec.ofInt (IntKind.bits IntKind.i64) (w64 (List.getD v.2.2 (Int.toNat (0 : Int)) 0 * 2 ^ min (Int.toNat (1 : Int)) (IntKind.bits IntKind.i64))) ||| BitVec.ofInt (IntKind.bits IntKind.i64) (1 : Int)))))) <|
  tst (decide (w64 (zz (BitVec.toNat (BitVec.ofInt (IntKind.bits IntKind.i64) (w64 (List.getD v.2.2 (Int.toNat (0 : Int)) 0 * 2 ^ min (Int.toNat (1 : Int)) (IntKind.bits IntKind.i64))) ||| BitVec.ofInt (IntKind.bits IntKind.i64) (1 : Int)))) < (zz 128))) <|
  tst (decide (Int.toNat (w64 (zz (BitVec.toNat (BitVec.ofInt (IntKind.bits IntKind.i64) (w64 (List.getD v.2.2 (Int.toNat (0 : Int)) 0 * 2 ^ min (Int.toNat (1 : Int)) (IntKind.bits IntKind.i64))) ||| BitVec.ofInt (IntKind.bits IntKind.i64) (1 : Int))))) < List.length v.2.1)) <|
  cond (decide (w64 (List.getD v.2.1 (Int.toNat (w64 (List.getD v.2.2 (Int.toNat (0 : Int)) 0 * 2 ^ min (Int.toNat (1 : Int)) (IntKind.bits IntKind.i64)))) 0 + List.getD v.2.1 (Int.toNat (w64 (zz (BitVec.toNat (BitVec.ofInt (IntKind.bits IntKind.i64) (w64 (List.getD v.2.2 (Int.toNat (0 : Int)) 0 * 2 ^ min (Int.toNat (1 : Int)) (IntKind.bits IntKind.i64))) ||| BitVec.ofInt (IntKind.bits IntKind.i64) (1 : Int)))))) 0) > (0 : Int)))
  (tst (decide (0 ≤ List.getD v.2.2 (Int.toNat (0 : Int)) 0)) <|
   tst (decide (List.getD v.2.2 (Int.toNat (0 : Int)) 0 < (zz 128))) <|
   tst (decide (Int.toNat (List.getD v.2.2 (Int.toNat (0 : Int)) 0) < List.length v.2.1)) <|
   cond (decide (w64 (w64 (List.getD v.2.1 (Int.toNat (w64 (List.getD v.2.2 (Int.toNat (0 : Int)) 0 * 2 ^ min (Int.toNat (1 : Int)) (IntKind.bits IntKind.i64)))) 0 + List.getD v.2.1 (Int.toNat (w64 (zz (BitVec.toNat (BitVec.ofInt (IntKind.bits IntKind.i64) (w64 (List.getD v.2.2 (Int.toNat (0 : Int)) 0 * 2 ^ min (Int.toNat (1 : Int)) (IntKind.bits IntKind.i64))) ||| BitVec.ofInt (IntKind.bits IntKind.i64) (1 : Int)))))) 0) + List.getD v.2.1 (Int.toNat (List.getD v.2.2 (Int.toNat (0 : Int)) 0)) 0) ≤ w64 (Int.tdiv v.1 (8 : Int))))
   (tst (decide (0 ≤ List.getD v.2.2 (Int.toNat (0 : Int)) 0)) <|
    tst (decide (List.getD v.2.2 (Int.toNat (0 : Int)) 0 < (zz 128))) <|
    tst (decide (Int.toNat (List.getD v.2.2 (Int.toNat (0 : Int)) 0) < List.length v.2.1)) <|
    tst (decide (0 ≤ List.getD v.2.2 (Int.toNat (0 : Int)) 0)) <|
    tst (decide (List.getD v.2.2 (Int.toNat (0 : Int)) 0 < (zz 128))) <|
    tst (decide (Int.toNat (List.getD v.2.2 (Int.toNat (0 : Int)) 0) < List.length v.2.1)) <|
    tst (decide (0 ≤ w64 (List.getD v.2.2 (Int.toNat (0 : Int)) 0 * 2 ^ min (Int.toNat (1 : Int)) (IntKind.bits IntKind.i64)))) <|
    tst (decide (w64 (List.getD v.2.2 (Int.toNat (0 : Int)) 0 * 2 ^ min (Int.toNat (1 : Int)) (IntKind.bits IntKind.i64)) < (zz 128))) <|
    tst (decide (Int.toNat (w64 (List.getD v.2.2 (Int.toNat (0 : Int)) 0 * 2 ^ min (Int.toNat (1 : Int)) (IntKind.bits IntKind.i64))) < List.length (List.set v.2.1 (Int.toNat (List.getD v.2.2 (Int.toNat (0 : Int)) 0)) (w64 (List.getD v.2.1 (Int.toNat (List.getD v.2.2 (Int.toNat (0 : Int)) 0)) 0 + w64 (List.getD v.2.1 (Int.toNat (w64 (List.getD v.2.2 (Int.toNat (0 : Int)) 0 * 2 ^ min (Int.toNat (1 : Int)) (IntKind.bits IntKind.i64)))) 0 + List.getD v.2.1 (Int.toNat (w64 (zz (BitVec.toNat (BitVec.ofInt (IntKind.bits IntKind.i64) (w64 (List.getD v.2.2 (Int.toNat (0 : Int)) 0 * 2 ^ min (Int.toNat (1 : Int)) (IntKind.bits IntKind.i64))) ||| BitVec.ofInt (IntKind.bits IntKind.i64) (1 : Int)))))) 0)))))) <|
    tst (decide (0 ≤ w64 (zz (BitVec.toNat (BitVec.ofInt (IntKind.bits IntKind.i64) (w64 (List.getD v.2.2 (Int.toNat (0 : Int)) 0 * 2 ^ min (Int.toNat (1 : Int)) (IntKind.bits IntKind.i64))) ||| BitVec.ofInt (IntKind.bits IntKind.i64) (1 : Int)))))) <|
    tst (decide (w64 (zz (BitVec.toNat (BitVec.ofInt (IntKind.bits IntKind.i64) (w64 (List.getD v.2.2 (Int.toNat (0 : Int)) 0 * 2 ^ min (Int.toNat (1 : Int)) (IntKind.bits IntKind.i64))) ||| BitVec.ofInt (IntKind.bits IntKind.i64) (1 : Int)))) < (zz 128))) <|
    tst (decide (Int.toNat (w64 (zz (BitVec.toNat (BitVec.ofInt (IntKind.bits IntKind.i64) (w64 (List.getD v.2.2 (Int.toNat (0 : Int)) 0 * 2 ^ min (Int.toNat (1 : Int)) (IntKind.bits IntKind.i64))) ||| BitVec.ofInt (IntKind.bits IntKind.i64) (1 : Int))))) < List.length (List.set (List.set v.2.1 (Int.toNat (List.getD v.2.2 (Int.toNat (0 : Int)) 0)) (w64 (List.getD v.2.1 (Int.toNat (List.getD v.2.2 (Int.toNat (0 : Int)) 0)) 0 + w64 (List.getD v.2.1 (Int.toNat (w64 (List.getD v.2.2 (Int.toNat (0 : Int)) 0 * 2 ^ min (Int.toNat (1 : Int)) (IntKind.bits IntKind.i64)))) 0 + List.getD v.2.1 (Int.toNat (w64 (zz (BitVec.toNat (BitVec.ofInt (IntKind.bits IntKind.i64) (w64 (List.getD v.2.2 (Int.toNat (0 : Int)) 0 * 2 ^ min (Int.toNat (1 : Int)) (IntKind.bits IntKind.i64))) ||| BitVec.ofInt (IntKind.bits IntKind.i64) (1 : Int)))))) 0)))) (Int.toNat (w64 (List.getD v.2.2 (Int.toNat (0 : Int)) 0 * 2 ^ min (Int.toNat (1 : Int)) (IntKind.bits IntKind.i64)))) (0 : Int)))) <|
    cond (w64 (zz (BitVec.toNat (BitVec.ofInt (IntKind.bits IntKind.i64) (List.getD v.2.2 (Int.toNat (0 : Int)) 0) &&& BitVec.ofInt (IntKind.bits IntKind.i64) (1 : Int)))) == (0 : Int))
    (tst (decide (List.length (List.take (List.length v.2.2 - Int.toNat (1 : Int)) (List.drop (Int.toNat (1 : Int)) v.2.2)) + List.length [Int.fdiv (List.getD v.2.2 (Int.toNat (0 : Int)) 0) (2 ^ min (Int.toNat (1 : Int)) (IntKind.bits IntKind.i64))] < LIM)) <|
     g1 (v.1, List.set (List.set (List.set v.2.1 (Int.toNat (List.getD v.2.2 (Int.toNat (0 : Int)) 0)) (w64 (List.getD v.2.1 (Int.toNat (List.getD v.2.2 (Int.toNat (0 : Int)) 0)) 0 + w64 (List.getD v.2.1 (Int.toNat (w64 (List.getD v.2.2 (Int.toNat (0 : Int)) 0 * 2 ^ min (Int.toNat (1 : Int)) (IntKind.bits IntKind.i64)))) 0 + List.getD v.2.1 (Int.toNat (w64 (zz (BitVec.toNat (BitVec.ofInt (IntKind.bits IntKind.i64) (w64 (List.getD v.2.2 (Int.toNat (0 : Int)) 0 * 2 ^ min (Int.toNat (1 : Int)) (IntKind.bits IntKind.i64))) ||| BitVec.ofInt (IntKind.bits IntKind.i64) (1 : Int)))))) 0)))) (Int.toNat (w64 (List.getD v.2.2 (Int.toNat (0 : Int)) 0 * 2 ^ min (Int.toNat (1 : Int)) (IntKind.bits IntKind.i64)))) (0 : Int)) (Int.toNat (w64 (zz (BitVec.toNat (BitVec.ofInt (IntKind.bits IntKind.i64) (w64 (List.getD v.2.2 (Int.toNat (0 : Int)) 0 * 2 ^ min (Int.toNat (1 : Int)) (IntKind.bits IntKind.i64))) ||| BitVec.ofInt (IntKind.bits IntKind.i64) (1 : Int)))))) (0 : Int), List.take (List.length v.2.2 - Int.toNat (1 : Int)) (List.drop (Int.toNat (1 : Int)) v.2.2) ++ [Int.fdiv (List.getD v.2.2 (Int.toNat (0 : Int)) 0) (2 ^ min (Int.toNat (1 : Int)) (IntKind.bits IntKind.i64))]))
    (g1 (v.1, List.set (List.set (List.set v.2.1 (Int.toNat (List.getD v.2.2 (Int.toNat (0 : Int)) 0)) (w64 (List.getD v.2.1 (Int.toNat (List.getD v.2.2 (Int.toNat (0 : Int)) 0)) 0 + w64 (List.getD v.2.1 (Int.toNat (w64 (List.getD v.2.2 (Int.toNat (0 : Int)) 0 * 2 ^ min (Int.toNat (1 : Int)) (IntKind.bits IntKind.i64)))) 0 + List.getD v.2.1 (Int.toNat (w64 (zz (BitVec.toNat (BitVec.ofInt (IntKind.bits IntKind.i64) (w64 (List.getD v.2.2 (Int.toNat (0 : Int)) 0 * 2 ^ min (Int.toNat (1 : Int)) (IntKind.bits IntKind.i64))) ||| BitVec.ofInt (IntKind.bits IntKind.i64) (1 : Int)))))) 0)))) (Int.toNat (w64 (List.getD v.2.2 (Int.toNat (0 : Int)) 0 * 2 ^ min (Int.toNat (1 : Int)) (IntKind.bits IntKind.i64)))) (0 : Int)) (Int.toNat (w64 (zz (BitVec.toNat (BitVec.ofInt (IntKind.bits IntKind.i64) (w64 (List.getD v.2.2 (Int.toNat (0 : Int)) 0 * 2 ^ min (Int.toNat (1 : Int)) (IntKind.bits IntKind.i64))) ||| BitVec.ofInt (IntKind.bits IntKind.i64) (1 : Int)))))) (0 : Int), List.take (List.length v.2.2 - Int.toNat (1 : Int)) (List.drop (Int.toNat (1 : Int)) v.2.2))))
   (cond (w64 (zz (BitVec.toNat (BitVec.ofInt (IntKind.bits IntKind.i64) (List.getD v.2.2 (Int.toNat (0 : Int)) 0) &&& BitVec.ofInt (IntKind.bits IntKind.i64) (1 : Int)))) == (0 : Int))
    (tst (decide (List.length (List.take (List.length v.2.2 - Int.toNat (1 : Int)) (List.drop (Int.toNat (1 : Int)) v.2.2)) + List.length [Int.fdiv (List.getD v.2.2 (Int.toNat (0 : Int)) 0) (2 ^ min (Int.toNat (1 : Int)) (IntKind.bits IntKind.i64))] < LIM)) <|
     g1 (v.1, v.2.1, List.take (List.length v.2.2 - Int.toNat (1 : Int)) (List.drop (Int.toNat (1 : Int)) v.2.2) ++ [Int.fdiv (List.getD v.2.2 (Int.toNat (0 : Int)) 0) (2 ^ min (Int.toNat (1 : Int)) (IntKind.bits IntKind.i64))]))
    (g1 (v.1, v.2.1, List.take (List.length v.2.2 - Int.toNat (1 : Int)) (List.drop (Int.toNat (1 : Int)) v.2.2)))))
  (cond (w64 (zz (BitVec.toNat (BitVec.ofInt (IntKind.bits IntKind.i64) (List.getD v.2.2 (Int.toNat (0 : Int)) 0) &&& BitVec.ofInt (IntKind.bits IntKind.i64) (1 : Int)))) == (0 : Int))
   (tst (decide (List.length (List.take (List.length v.2.2 - Int.toNat (1 : Int)) (List.drop (Int.toNat (1 : Int)) v.2.2)) + List.length [Int.fdiv (List.getD v.2.2 (Int.toNat (0 : Int)) 0) (2 ^ min (Int.toNat (1 : Int)) (IntKind.bits IntKind.i64))] < LIM)) <|
    g1 (v.1, v.2.1, List.take (List.length v.2.2 - Int.toNat (1 : Int)) (List.drop (Int.toNat (1 : Int)) v.2.2) ++ [Int.fdiv (List.getD v.2.2 (Int.toNat (0 : Int)) 0) (2 ^ min (Int.toNat (1 : Int)) (IntKind.bits IntKind.i64))]))
   (g1 (v.1, v.2.1, List.take (List.length v.2.2 - Int.toNat (1 : Int)) (List.drop (Int.toNat (1 : Int)) v.2.2)))))
 (some ((v.2.1, ())))
def impl_knotNums_squeeze_st1 (fuel : Nat) (g1 : impl_knotNums_squeeze_V1 → Option ((List Int) × Unit)) : impl_knotNums_squeeze_V1 → Option ((List Int) × Unit) := impl_knotNums_squeeze_step1 fuel g1
theorem impl_knotNums_squeeze_lp1 (fuel : Nat) (G) : impl_knotNums_squeeze_c.lp (impl_knotNums_squeeze_T fuel) 1 fuel G (endU impl_knotNums_squeeze_rv impl_knotNums_squeeze_rf impl_knotNums_squeeze_rs) 1 impl_knotNums_squeeze_enc1 = iter (impl_knotNums_squeeze_st1 fuel) fuel := C.lp_iter fun g v => by kernel_rfl
def impl_knotNums_squeeze_step0 (fuel : Nat) (X1 : impl_knotNums_squeeze_V1 → Option ((List Int) × Unit)) (g0 : impl_knotNums_squeeze_V0 → Option ((List Int) × Unit)) (v : impl_knotNums_squeeze_V0) : Option ((List Int) × Unit) :=
 cond (decide (v.1 ≥ (32 : Int)))
 (tst (decide (List.length v.2.2.2 + List.length [v.1] < LIM)) <|
  g0 (w64 (v.1 - (1 : Int)), v.2.1, v.2.2.1, v.2.2.2 ++ [v.1]))
 (X1 (v.2.1, v.2.2.1, v.2.2.2))
def impl_knotNums_squeeze_st0 (fuel : Nat) (g0 : impl_knotNums_squeeze_V0 → Option ((List Int) × Unit)) : impl_knotNums_squeeze_V0 → Option ((List Int) × Unit) := impl_knotNums_squeeze_step0 fuel (iter (impl_knotNums_squeeze_st1 fuel) fuel) g0
theorem impl_knotNums_squeeze_lp0 (fuel : Nat) (G) : impl_knotNums_squeeze_c.lp (impl_knotNums_squeeze_T fuel) 1 fuel G (endU impl_knotNums_squeeze_rv impl_knotNums_squeeze_rf impl_knotNums_squeeze_rs) 0 impl_knotNums_squeeze_enc0 = iter (impl_knotNums_squeeze_st0 fuel) fuel := C.lp_iter fun g v =>
  (show run (impl_knotNums_squeeze_T fuel) 1 fuel (impl_knotNums_squeeze_c.bdAt 0) (impl_knotNums_squeeze_enc0 v).1 (impl_knotNums_squeeze_enc0 v).2 (loopK 1 (impl_knotNums_squeeze_c.nmAt 0) g (impl_knotNums_squeeze_c.contAt (impl_knotNums_squeeze_T fuel) 1 fuel G 0 0 (endU impl_knotNums_squeeze_rv impl_knotNums_squeeze_rf impl_knotNums_squeeze_rs))) = impl_knotNums_squeeze_step0 fuel (impl_knotNums_squeeze_c.lp (impl_knotNums_squeeze_T fuel) 1 fuel (fun m => bif Nat.beq m 0 then g else G m) (endU impl_knotNums_squeeze_rv impl_knotNums_squeeze_rf impl_knotNums_squeeze_rs) 1 impl_knotNums_squeeze_enc1) (fun v => g (impl_knotNums_squeeze_enc0 v).1 (impl_knotNums_squeeze_enc0 v).2) v by kernel_rfl).trans (by rw [impl_knotNums_squeeze_lp1]; rfl)
def impl_knotNums_squeeze_pre (fuel : Nat) (X0 : impl_knotNums_squeeze_V0 → Option ((List Int) × Unit)) (d0 : List Int) (x0 : Int) : Option ((List Int) × Unit) :=
 X0 ((63 : Int), x0, d0, List.replicate (Int.toNat (0 : Int)) 0)
def impl_knotNums_squeeze_fn (fuel : Nat) (z : (List Int) × ((Int × Unit) × Unit)) : Option ((List Int) × Unit) := impl_knotNums_squeeze_pre fuel (iter (impl_knotNums_squeeze_st0 fuel) fuel) z.1 z.2.1.1
theorem impl_knotNums_squeeze_run (fuel : Nat) (c : Rf.T impl_knotNums_squeeze_rf) (x : PsT impl_knotNums_squeeze_ps) : run (impl_knotNums_squeeze_T fuel) 1 fuel impl_knotNums_squeeze_c ((0, .ptr 0 0) :: env0 (svPs impl_knotNums_squeeze_ps x) 1) [impl_knotNums_squeeze_rf.blk c] (endU impl_knotNums_squeeze_rv impl_knotNums_squeeze_rf impl_knotNums_squeeze_rs) = impl_knotNums_squeeze_fn fuel (c, x) :=
  (show run (impl_knotNums_squeeze_T fuel) 1 fuel impl_knotNums_squeeze_c ((0, .ptr 0 0) :: env0 (svPs impl_knotNums_squeeze_ps x) 1) [impl_knotNums_squeeze_rf.blk c] (endU impl_knotNums_squeeze_rv impl_knotNums_squeeze_rf impl_knotNums_squeeze_rs) = impl_knotNums_squeeze_pre fuel (impl_knotNums_squeeze_c.lp (impl_knotNums_squeeze_T fuel) 1 fuel (fun _ _ _ => none) (endU impl_knotNums_squeeze_rv impl_knotNums_squeeze_rf impl_knotNums_squeeze_rs) 0 impl_knotNums_squeeze_enc0) c x.1.1 by kernel_rfl).trans (by rw [impl_knotNums_squeeze_lp0]; rfl)
def impl_knotNums_squeeze_tf (fuel : Nat) : TFU := ⟨impl_knotNums_squeeze_rf, impl_knotNums_squeeze_ps, impl_knotNums_squeeze_rs, impl_knotNums_squeeze_fn fuel⟩
theorem impl_knotNums_squeeze_spec (fuel : Nat) : FnSpecU Try.prog 50 (impl_knotNums_squeeze_tf fuel) :=
  fn_specU (T := impl_knotNums_squeeze_T fuel) (c := bodyOf Try.f50) (fn := Try.f50) (TabOK.of (entNil) methNil) mixed (by kernel_rfl) (by kernel_rfl) impl_knotNums_squeeze_l (by kernel_rfl) (Nat.le_of_ble_eq_true (by kernel_rfl)) (rv := impl_knotNums_squeeze_rv) (by kernel_rfl) (impl_knotNums_squeeze_run fuel)
theorem impl_knotNums_squeeze_ok (fuel : Nat) : EntryOK Try.prog 50 (impl_knotNums_squeeze_tf fuel).te := EntryOK.tfu (impl_knotNums_squeeze_spec fuel) (isFn (fn := Try.f50) (by kernel_rfl) (by kernel_rfl) (by kernel_rfl))

/-! ### impl_rankSum -/
def impl_rankSum_T (fuel : Nat) : Tab := Tab.of [(49, (impl_knotNums_addKnots_tf fuel).te), (50, (impl_knotNums_squeeze_tf fuel).te)] []
abbrev impl_rankSum_ps : List Pm := [{ cs := [(Kd.list (Kd.pair (Kd.int IntKind.i64) (Kd.pair (Kd.int IntKind.i64) Kd.unit)), false), (Kd.int IntKind.i64, false)], ag := true }, { cs := [(Kd.list (Kd.pair (Kd.int IntKind.i64) (Kd.pair (Kd.int IntKind.i64) Kd.unit)), false), (Kd.int IntKind.i64, false)], ag := true }]
abbrev impl_rankSum_rs : List Pm := [{ cs := [(Kd.list (Kd.pair (Kd.int IntKind.i64) (Kd.pair (Kd.int IntKind.i64) Kd.unit)), true), (Kd.int IntKind.i64, false)], ag := true }]
def impl_rankSum_ann : List Norm := [{ live := [24, 23, 7, 6, 4], fix := [(7, none, Kd.pair (Kd.int IntKind.i64) (Kd.pair (Kd.int IntKind.i64) Kd.unit), true)] }]
noncomputable def impl_rankSum_c : C := irOf Try.prog Try.f39 [] impl_rankSum_ann []
theorem impl_rankSum_l : lightC Try.prog [] Try.f39.ntmps impl_rankSum_ann [] 0 (bodyOf Try.f39) = some (impl_rankSum_c, 1) := by kernel_rfl
def impl_rankSum_rv : List (Nat × Option (Nat × Bool)) := [(4, some (2, true))]
abbrev impl_rankSum_V0 := (Int) × (List Int) × (Int) × (List (Int × Int × Unit)) × (Int)
def impl_rankSum_enc0 (v : impl_rankSum_V0) : Env × Heap := ([(24, SV.int IntKind.i64 v.1), (23, SV.arrv (Kd.int IntKind.i64) v.2.1), (7, SV.own 0), (6, SV.int IntKind.i64 v.2.2.1), (4, SV.ptr 1 0)], [Blk.arr (Kd.pair (Kd.int IntKind.i64) (Kd.pair (Kd.int IntKind.i64) Kd.unit)) v.2.2.2.1 0, Blk.cells [SV.nils, SV.int IntKind.i64 v.2.2.2.2] 0 2])
def impl_rankSum_step0 (fuel : Nat) (g0 : impl_rankSum_V0 → Option (((List (Int × (Int × Unit))) × (Int × Unit)) × Unit)) (v : impl_rankSum_V0) : Option (((List (Int × (Int × Unit))) × (Int × Unit)) × Unit) :=
 cond (decide (v.1 < (128 : Int)))
 (tst (decide (0 ≤ v.1)) <|
  tst (decide (v.1 < (zz 128))) <|
  tst (decide (v.1 < (zz (List.length v.2.1)))) <|
  cond (decide (List.getD v.2.1 (Int.toNat v.1) 0 > (0 : Int)))
  (tst (decide (List.length v.2.2.2.1 + List.length [(v.1, List.getD v.2.1 (Int.toNat v.1) 0, ())] < LIM)) <|
   g0 (w64 (v.1 + (1 : Int)), v.2.1, v.2.2.1, v.2.2.2.1 ++ [(v.1, List.getD v.2.1 (Int.toNat v.1) 0, ())], v.2.2.2.2))
  (g0 (w64 (v.1 + (1 : Int)), v.2.1, v.2.2.1, v.2.2.2.1, v.2.2.2.2)))
 (some (((v.2.2.2.1, v.2.2.1, ()), ())))
def impl_rankSum_st0 (fuel : Nat) (g0 : impl_rankSum_V0 → Option (((List (Int × (Int × Unit))) × (Int × Unit)) × Unit)) : impl_rankSum_V0 → Option (((List (Int × (Int × Unit))) × (Int × Unit)) × Unit) := impl_rankSum_step0 fuel g0
theorem impl_rankSum_lp0 (fuel : Nat) (G) : impl_rankSum_c.lp (impl_rankSum_T fuel) 0 fuel G (endF impl_rankSum_rv impl_rankSum_rs) 0 impl_rankSum_enc0 = iter (impl_rankSum_st0 fuel) fuel := C.lp_iter fun g v => by kernel_rfl
def impl_rankSum_pre (fuel : Nat) (X0 : impl_rankSum_V0 → Option (((List (Int × (Int × Unit))) × (Int × Unit)) × Unit)) (x0 : List (Int × Int × Unit)) (x1 : Int) (x2 : List (Int × Int × Unit)) (x3 : Int) : Option (((List (Int × (Int × Unit))) × (Int × Unit)) × Unit) :=
 Option.bind (impl_knotNums_addKnots_fn fuel (List.replicate 128 0, (x0, ()), ())) fun y_1 =>
 Option.bind (impl_knotNums_addKnots_fn fuel (y_1.fst, (x2, ()), ())) fun y_2 =>
  Option.bind (impl_knotNums_squeeze_fn fuel (y_2.fst, (w64 (x1 + x3), ()), ())) fun y_3 =>
   tst (Nat.beq (List.length y_3.fst * Kd.sz (Kd.int IntKind.i64)) 128) <|
    X0 ((0 : Int), y_3.fst, w64 (x1 + x3), [], (0 : Int))
def impl_rankSum_fn (fuel : Nat) (x : (((List (Int × (Int × Unit))) × (Int × Unit)) × (((List (Int × (Int × Unit))) × (Int × Unit)) × Unit))) : Option (((List (Int × (Int × Unit))) × (Int × Unit)) × Unit) := impl_rankSum_pre fuel (iter (impl_rankSum_st0 fuel) fuel) x.1.1 x.1.2.1 x.2.1.1 x.2.1.2.1
theorem impl_rankSum_run (fuel : Nat) (x : PsT impl_rankSum_ps) : run (impl_rankSum_T fuel) 0 fuel impl_rankSum_c (env0 (svPs impl_rankSum_ps x) 0) [] (endF impl_rankSum_rv impl_rankSum_rs) = impl_rankSum_fn fuel x :=
  (show run (impl_rankSum_T fuel) 0 fuel impl_rankSum_c (env0 (svPs impl_rankSum_ps x) 0) [] (endF impl_rankSum_rv impl_rankSum_rs) = impl_rankSum_pre fuel (impl_rankSum_c.lp (impl_rankSum_T fuel) 0 fuel (fun _ _ _ => none) (endF impl_rankSum_rv impl_rankSum_rs) 0 impl_rankSum_enc0) x.1.1 x.1.2.1 x.2.1.1 x.2.1.2.1 by kernel_rfl).trans (by rw [impl_rankSum_lp0]; rfl)
def impl_rankSum_tf (fuel : Nat) : TF := ⟨impl_rankSum_ps, impl_rankSum_rs, true, impl_rankSum_fn fuel⟩
theorem impl_rankSum_spec (fuel : Nat) : FnSpec Try.prog 39 (impl_rankSum_tf fuel) :=
  fn_spec (T := impl_rankSum_T fuel) (c := bodyOf Try.f39) (fn := Try.f39) (TabOK.of (entCons (impl_knotNums_addKnots_ok fuel) (entCons (impl_knotNums_squeeze_ok fuel) entNil)) methNil) mixed (by kernel_rfl) (by kernel_rfl) impl_rankSum_l (by kernel_rfl) (Nat.le_of_ble_eq_true (by kernel_rfl)) (rv := impl_rankSum_rv) (by kernel_rfl) (impl_rankSum_run fuel)
theorem impl_rankSum_ok (fuel : Nat) : EntryOK Try.prog 39 (impl_rankSum_tf fuel).te := EntryOK.tf rfl (impl_rankSum_spec fuel) (isFn (fn := Try.f39) (by kernel_rfl) (by kernel_rfl) (by kernel_rfl))

/-! ### impl_RankJoin -/
def impl_RankJoin_T (fuel : Nat) : Tab := Tab.of [(17, (impl_RankOk_tf fuel).te), (39, (impl_rankSum_tf fuel).te)] []
abbrev impl_RankJoin_ps : List Pm := [{ cs := [(Kd.list (Kd.pair (Kd.int IntKind.i64) (Kd.pair (Kd.int IntKind.i64) Kd.unit)), false), (Kd.int IntKind.i64, false)], ag := true }, { cs := [(Kd.list (Kd.pair (Kd.int IntKind.i64) (Kd.pair (Kd.int IntKind.i64) Kd.unit)), false), (Kd.int IntKind.i64, false)], ag := true }]
abbrev impl_RankJoin_rs : List Pm := [{ cs := [(Kd.list (Kd.pair (Kd.int IntKind.i64) (Kd.pair (Kd.int IntKind.i64) Kd.unit)), true), (Kd.int IntKind.i64, false)], ag := true }, { cs := [(Kd.bool, false)], ag := false }]
def impl_RankJoin_ann : List Norm := []
noncomputable def impl_RankJoin_c : C := irOf Try.prog Try.f15 [] impl_RankJoin_ann []
theorem impl_RankJoin_l : lightC Try.prog [] Try.f15.ntmps impl_RankJoin_ann [] 0 (bodyOf Try.f15) = some (impl_RankJoin_c, 0) := by kernel_rfl
def impl_RankJoin_rv : List (Nat × Option (Nat × Bool)) := [(4, some (2, true)), (5, none)]
def impl_RankJoin_pre (fuel : Nat) (x0 : List (Int × Int × Unit)) (x1 : Int) (x2 : List (Int × Int × Unit)) (x3 : Int) : Option (((List (Int × (Int × Unit))) × (Int × Unit)) × ((Bool × Unit) × Unit)) :=
 Option.bind (impl_RankOk_fn fuel ((x0, x1, ()), ())) fun y_1 =>
 cond (!y_1.fst.fst)
  (some ((([], (0 : Int), ()), (false, ()), ())))
  (Option.bind (impl_RankOk_fn fuel ((x2, x3, ()), ())) fun y_3 =>
   cond (!y_3.fst.fst)
    (some ((([], (0 : Int), ()), (false, ()), ())))
    (cond (decide (w64 (x1 + x3) > (2000 : Int)))
     (some ((([], (0 : Int), ()), (false, ()), ())))
     (Option.bind (impl_rankSum_fn fuel ((x0, x1, ()), (x2, x3, ()), ())) fun y_6 =>
      some (((y_6.fst.fst, y_6.fst.snd.fst, ()), (true, ()), ())))))
def impl_RankJoin_fn (fuel : Nat) (x : (((List (Int × (Int × Unit))) × (Int × Unit)) × (((List (Int × (Int × Unit))) × (Int × Unit)) × Unit))) : Option (((List (Int × (Int × Unit))) × (Int × Unit)) × ((Bool × Unit) × Unit)) := impl_RankJoin_pre fuel x.1.1 x.1.2.1 x.2.1.1 x.2.1.2.1
theorem impl_RankJoin_run (fuel : Nat) (x : PsT impl_RankJoin_ps) : run (impl_RankJoin_T fuel) 0 fuel impl_RankJoin_c (env0 (svPs impl_RankJoin_ps x) 0) [] (endF impl_RankJoin_rv impl_RankJoin_rs) = impl_RankJoin_fn fuel x := by kernel_rfl
def impl_RankJoin_tf (fuel : Nat) : TF := ⟨impl_RankJoin_ps, impl_RankJoin_rs, true, impl_RankJoin_fn fuel⟩
theorem impl_RankJoin_spec (fuel : Nat) : FnSpec Try.prog 15 (impl_RankJoin_tf fuel) :=
  fn_spec (T := impl_RankJoin_T fuel) (c := bodyOf Try.f15) (fn := Try.f15) (TabOK.of (entCons (impl_RankOk_ok fuel) (entCons (impl_rankSum_ok fuel) entNil)) methNil) mixed (by kernel_rfl) (by kernel_rfl) impl_RankJoin_l (by kernel_rfl) (Nat.le_of_ble_eq_true (by kernel_rfl)) (rv := impl_RankJoin_rv) (by kernel_rfl) (impl_RankJoin_run fuel)
theorem impl_RankJoin_ok (fuel : Nat) : EntryOK Try.prog 15 (impl_RankJoin_tf fuel).te := EntryOK.tf rfl (impl_RankJoin_spec fuel) (isFn (fn := Try.f15) (by kernel_rfl) (by kernel_rfl) (by kernel_rfl))

/-! ### laws_lkRank -/
def laws_lkRank_T (fuel : Nat) : Tab := Tab.of [] []
abbrev laws_lkRank_ps : List Pm := [{ cs := [(Kd.list (Kd.pair (Kd.int IntKind.i64) (Kd.pair (Kd.int IntKind.i64) Kd.unit)), false), (Kd.int IntKind.i64, false)], ag := true }, { cs := [(Kd.list (Kd.pair (Kd.int IntKind.i64) (Kd.pair (Kd.int IntKind.i64) Kd.unit)), false), (Kd.int IntKind.i64, false)], ag := true }]
abbrev laws_lkRank_rs : List Pm := [{ cs := [(Kd.bool, false)], ag := false }]
def laws_lkRank_ann : List Norm := [{ live := [5, 2, 3], fix := [] }]
noncomputable def laws_lkRank_c : C := irOf Try.prog Try.f16 [] laws_lkRank_ann []
theorem laws_lkRank_l : lightC Try.prog [] Try.f16.ntmps laws_lkRank_ann [] 0 (bodyOf Try.f16) = some (laws_lkRank_c, 1) := by kernel_rfl
def laws_lkRank_rv : List (Nat × Option (Nat × Bool)) := [(4, none)]
abbrev laws_lkRank_V0 := (Int) × (List (Int × Int × Unit)) × (Int) × (List (Int × Int × Unit)) × (Int)
def laws_lkRank_enc0 (v : laws_lkRank_V0) : Env × Heap := ([(5, SV.int IntKind.i64 v.1), (2, SV.ptr 0 0), (3, SV.ptr 1 0)], [Blk.cells [SV.es (Kd.pair (Kd.int IntKind.i64) (Kd.pair (Kd.int IntKind.i64) Kd.unit)) v.2.1, SV.int IntKind.i64 v.2.2.1] 0 2, Blk.cells [SV.es (Kd.pair (Kd.int IntKind.i64) (Kd.pair (Kd.int IntKind.i64) Kd.unit)) v.2.2.2.1, SV.int IntKind.i64 v.2.2.2.2] 0 2])
def laws_lkRank_step0 (fuel : Nat) (g0 : laws_lkRank_V0 → Option ((Bool × Unit) × Unit)) (v : laws_lkRank_V0) : Option ((Bool × Unit) × Unit) :=
 cond (decide (v.1 < (zz (List.length v.2.1))))
 (tst (decide (0 ≤ v.1)) <|
  tst (decide (v.1 < (zz (List.length v.2.1)))) <|
  tst (decide (0 ≤ v.1)) <|
  tst (decide (v.1 < (zz (List.length v.2.2.2.1)))) <|
  cond (!((List.getD v.2.1 (Int.toNat v.1) (0, (0, ()))).fst == (List.getD v.2.2.2.1 (Int.toNat v.1) (0, (0, ()))).fst && ((List.getD v.2.1 (Int.toNat v.1) (0, (0, ()))).snd.fst == (List.getD v.2.2.2.1 (Int.toNat v.1) (0, (0, ()))).snd.fst && true)))
  (some (((false, ()), ())))
  (g0 (w64 (v.1 + (1 : Int)), v.2.1, v.2.2.1, v.2.2.2.1, v.2.2.2.2)))
 (some (((true, ()), ())))
def laws_lkRank_st0 (fuel : Nat) (g0 : laws_lkRank_V0 → Option ((Bool × Unit) × Unit)) : laws_lkRank_V0 → Option ((Bool × Unit) × Unit) := laws_lkRank_step0 fuel g0
theorem laws_lkRank_lp0 (fuel : Nat) (G) : laws_lkRank_c.lp (laws_lkRank_T fuel) 0 fuel G (endF laws_lkRank_rv laws_lkRank_rs) 0 laws_lkRank_enc0 = iter (laws_lkRank_st0 fuel) fuel := C.lp_iter fun g v => by kernel_rfl
def laws_lkRank_pre (fuel : Nat) (X0 : laws_lkRank_V0 → Option ((Bool × Unit) × Unit)) (x0 : List (Int × Int × Unit)) (x1 : Int) (x2 : List (Int × Int × Unit)) (x3 : Int) : Option ((Bool × Unit) × Unit) :=
 cond (x1 != x3)
 (some (((false, ()), ())))
 (cond ((zz (List.length x0)) != (zz (List.length x2)))
  (some (((false, ()), ())))
  (X0 ((0 : Int), x0, x1, x2, x3)))
def laws_lkRank_fn (fuel : Nat) (x : (((List (Int × (Int × Unit))) × (Int × Unit)) × (((List (Int × (Int × Unit))) × (Int × Unit)) × Unit))) : Option ((Bool × Unit) × Unit) := laws_lkRank_pre fuel (iter (laws_lkRank_st0 fuel) fuel) x.1.1 x.1.2.1 x.2.1.1 x.2.1.2.1
theorem laws_lkRank_run (fuel : Nat) (x : PsT laws_lkRank_ps) : run (laws_lkRank_T fuel) 0 fuel laws_lkRank_c (env0 (svPs laws_lkRank_ps x) 0) [] (endF laws_lkRank_rv laws_lkRank_rs) = laws_lkRank_fn fuel x :=
  (show run (laws_lkRank_T fuel) 0 fuel laws_lkRank_c (env0 (svPs laws_lkRank_ps x) 0) [] (endF laws_lkRank_rv laws_lkRank_rs) = laws_lkRank_pre fuel (laws_lkRank_c.lp (laws_lkRank_T fuel) 0 fuel (fun _ _ _ => none) (endF laws_lkRank_rv laws_lkRank_rs) 0 laws_lkRank_enc0) x.1.1 x.1.2.1 x.2.1.1 x.2.1.2.1 by kernel_rfl).trans (by rw [laws_lkRank_lp0]; rfl)
def laws_lkRank_tf (fuel : Nat) : TF := ⟨laws_lkRank_ps, laws_lkRank_rs, true, laws_lkRank_fn fuel⟩
theorem laws_lkRank_spec (fuel : Nat) : FnSpec Try.prog 16 (laws_lkRank_tf fuel) :=
  fn_spec (T := laws_lkRank_T fuel) (c := bodyOf Try.f16) (fn := Try.f16) (TabOK.of (entNil) methNil) mixed (by kernel_rfl) (by kernel_rfl) laws_lkRank_l (by kernel_rfl) (Nat.le_of_ble_eq_true (by kernel_rfl)) (rv := laws_lkRank_rv) (by kernel_rfl) (laws_lkRank_run fuel)
theorem laws_lkRank_ok (fuel : Nat) : EntryOK Try.prog 16 (laws_lkRank_tf fuel).te := EntryOK.tf rfl (laws_lkRank_spec fuel) (isFn (fn := Try.f16) (by kernel_rfl) (by kernel_rfl) (by kernel_rfl))

/-! ### laws_FnRankJoin -/
def laws_FnRankJoin_T (fuel : Nat) : Tab := Tab.of [(13, (spec_DrawRankJoin_tf fuel).te), (14, (spec_RankJoin_tf fuel).te), (15, (impl_RankJoin_tf fuel).te), (16, (laws_lkRank_tf fuel).te), (17, (impl_RankOk_tf fuel).te)] []
abbrev laws_FnRankJoin_ps : List Pm := [{ cs := [(Kd.list (Kd.int IntKind.u8), false)], ag := false }]
abbrev laws_FnRankJoin_rs : List Pm := [{ cs := [(Kd.bool, false)], ag := false }]
def laws_FnRankJoin_ann : List Norm := []
noncomputable def laws_FnRankJoin_c : C := irOf Try.prog Try.f4 [] laws_FnRankJoin_ann []
theorem laws_FnRankJoin_l : lightC Try.prog [] Try.f4.ntmps laws_FnRankJoin_ann [] 0 (bodyOf Try.f4) = some (laws_FnRankJoin_c, 0) := by kernel_rfl
def laws_FnRankJoin_rv : List (Nat × Option (Nat × Bool)) := [(2, none)]
def laws_FnRankJoin_pre (fuel : Nat) (x0 : List Int) : Option ((Bool × Unit) × Unit) :=
 cond (decide ((zz (List.length x0)) > (1048576 : Int)))
 (some (((true, ()), ())))
 (Option.bind (spec_DrawRankJoin_fn fuel ((x0, ()), ())) fun y_2 =>
  Option.bind (spec_RankJoin_fn fuel ((y_2.fst.fst, y_2.fst.snd.fst, ()), (y_2.snd.fst.fst, y_2.snd.fst.snd.fst, ()), ())) fun y_3 =>
   Option.bind (impl_RankJoin_fn fuel ((y_2.fst.fst, y_2.fst.snd.fst, ()), (y_2.snd.fst.fst, y_2.snd.fst.snd.fst, ()), ())) fun y_4 =>
    cond (!y_4.snd.fst.fst == y_3.snd.fst.fst)
     (cond (y_4.snd.fst.fst == y_3.snd.fst.fst)
      (Option.bind (laws_lkRank_fn fuel ((y_4.fst.fst, y_4.fst.snd.fst, ()), (y_3.fst.fst, y_3.fst.snd.fst, ()), ())) fun y_7 =>
       some (((y_7.fst.fst, ()), ())))
      (some (((false, ()), ()))))
     (Option.bind (laws_lkRank_fn fuel ((y_4.fst.fst, y_4.fst.snd.fst, ()), (y_3.fst.fst, y_3.fst.snd.fst, ()), ())) fun y_6 =>
      cond (!y_6.fst.fst)
       (cond (y_4.snd.fst.fst == y_3.snd.fst.fst)
        (Option.bind (laws_lkRank_fn fuel ((y_4.fst.fst, y_4.fst.snd.fst, ()), (y_3.fst.fst, y_3.fst.snd.fst, ()), ())) fun y_9 =>
         some (((y_9.fst.fst, ()), ())))
        (some (((false, ()), ()))))
       (cond (!y_4.snd.fst.fst)
        (cond (y_4.snd.fst.fst == y_3.snd.fst.fst)
         (Option.bind (laws_lkRank_fn fuel ((y_4.fst.fst, y_4.fst.snd.fst, ()), (y_3.fst.fst, y_3.fst.snd.fst, ()), ())) fun y_10 =>
          some (((y_10.fst.fst, ()), ())))
         (some (((false, ()), ()))))
        (Option.bind (impl_RankJoin_fn fuel ((y_2.snd.fst.fst, y_2.snd.fst.snd.fst, ()), (y_2.fst.fst, y_2.fst.snd.fst, ()), ())) fun y_9 =>
         Option.bind (impl_RankOk_fn fuel ((y_4.fst.fst, y_4.fst.snd.fst, ()), ())) fun y_10 =>
          cond (y_10.fst.fst)
           (cond (y_4.fst.snd.fst == w64 (y_2.fst.snd.fst + y_2.snd.fst.snd.fst))
            (cond (y_9.snd.fst.fst)
             (Option.bind (laws_lkRank_fn fuel ((y_9.fst.fst, y_9.fst.snd.fst, ()), (y_4.fst.fst, y_4.fst.snd.fst, ()), ())) fun y_14 =>
              some (((y_14.fst.fst, ()), ())))
             (some (((false, ()), ()))))
            (some (((false, ()), ()))))
           (some (((false, ()), ())))))))
def laws_FnRankJoin_fn (fuel : Nat) (x : (((List Int) × Unit) × Unit)) : Option ((Bool × Unit) × Unit) := laws_FnRankJoin_pre fuel x.1.1
theorem laws_FnRankJoin_run (fuel : Nat) (x : PsT laws_FnRankJoin_ps) : run (laws_FnRankJoin_T fuel) 0 fuel laws_FnRankJoin_c (env0 (svPs laws_FnRankJoin_ps x) 0) [] (endF laws_FnRankJoin_rv laws_FnRankJoin_rs) = laws_FnRankJoin_fn fuel x := by kernel_rfl
def laws_FnRankJoin_tf (fuel : Nat) : TF := ⟨laws_FnRankJoin_ps, laws_FnRankJoin_rs, true, laws_FnRankJoin_fn fuel⟩
theorem laws_FnRankJoin_spec (fuel : Nat) : FnSpec Try.prog 4 (laws_FnRankJoin_tf fuel) :=
  fn_spec (T := laws_FnRankJoin_T fuel) (c := bodyOf Try.f4) (fn := Try.f4) (TabOK.of (entCons (spec_DrawRankJoin_ok fuel) (entCons (spec_RankJoin_ok fuel) (entCons (impl_RankJoin_ok fuel) (entCons (laws_lkRank_ok fuel) (entCons (impl_RankOk_ok fuel) entNil))))) methNil) mixed (by kernel_rfl) (by kernel_rfl) laws_FnRankJoin_l (by kernel_rfl) (Nat.le_of_ble_eq_true (by kernel_rfl)) (rv := laws_FnRankJoin_rv) (by kernel_rfl) (laws_FnRankJoin_run fuel)
theorem laws_FnRankJoin_ok (fuel : Nat) : EntryOK Try.prog 4 (laws_FnRankJoin_tf fuel).te := EntryOK.tf rfl (laws_FnRankJoin_spec fuel) (isFn (fn := Try.f4) (by kernel_rfl) (by kernel_rfl) (by kernel_rfl))

end Go.Proofs.Ytapicafncjajnaa.Den
