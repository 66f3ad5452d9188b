/- Part 12 of the texts behind the row. -/
import Derived.Test.YtdgdoeknpakmlaaGreatB6d6010a60e
set_option linter.unusedVariables false
set_option linter.unusedSimpArgs false
namespace Go.Proofs.YtdgdoeknpakmlaaGreat.Den
open Go Go.RowKit
set_option linter.unusedVariables false
set_option linter.unusedSimpArgs false
abbrev impl_cutTop_R := Option ((LP × (Int × (Int × Unit))) × Unit)
def impl_cutTop_T (fuel : Nat) : Tab := Tab.of [(182, (slices_Clone_impl_Pair_impl_Pair_tf fuel).te), (183, (impl_sortPairs_v0_tf fuel).te), (183, (impl_sortPairs_v1_tf fuel).te)] []
abbrev impl_cutTop_ps : List Pm := [{ cs := [(Kd.list KP, false), (I6, false), (I6, false)], ag := true }]
abbrev impl_cutTop_rs : List Pm := [{ cs := [(Kd.list KP, false), (I6, false), (I6, false)], ag := true }]
def impl_cutTop_ann : List Norm := [{ live := [26, 25, 24, 4, 5, 1, 2], fix := [] }]
noncomputable def impl_cutTop_c : C := irOf Tryz.prog Tryz.f136 [] impl_cutTop_ann []
theorem impl_cutTop_l : lightC Tryz.prog [] Tryz.f136.ntmps impl_cutTop_ann [] 0 (bodyOf Tryz.f136) = some (impl_cutTop_c, 1) := by kernel_rfl
def impl_cutTop_rv : List (Nat × Option (Nat × Bool)) := [(2, some (3, true))]
abbrev impl_cutTop_V0 := (Int) × (Int) × LP × (Int) × LP × LP × (Int) × (Int) × (Int) × (Int)
def impl_cutTop_enc0 (v : impl_cutTop_V0) : Env × Heap := ([(26, SV.int .i64 v.1), (25, SV.int .i64 v.2.1), (24, SV.es KP v.2.2.1), (4, SV.int .i64 v.2.2.2.1), (5, SV.own 0), (1, SV.ptr 1 0), (2, SV.ptr 2 0)], [Blk.arr KP v.2.2.2.2.1 0, Blk.cells [SV.es KP v.2.2.2.2.2.1, SV.int .i64 v.2.2.2.2.2.2.1, SV.int .i64 v.2.2.2.2.2.2.2.1] 0 3, Blk.cells [SV.nils, SV.int .i64 v.2.2.2.2.2.2.2.2.1, SV.int .i64 v.2.2.2.2.2.2.2.2.2] 0 3])
def impl_cutTop_step0 (fuel : Nat) (g0 : impl_cutTop_V0 → impl_cutTop_R) (v : impl_cutTop_V0) : impl_cutTop_R :=
 cond (decide (v.1 < v.2.1))
 (tst (decide (0 ≤ v.1)) <|
  tst (decide (v.1 < (zz (List.length v.2.2.1)))) <|
  cond (decide ((List.getD v.2.2.1 (Int.toNat v.1) (0, (0, ()))).2.1 > v.2.2.2.1))
  (tst (decide (List.length v.2.2.2.2.1 + 1 < LIM)) <|
   g0 (w64 (v.1 + (1 : Int)), v.2.1, v.2.2.1, v.2.2.2.1, v.2.2.2.2.1 ++ [((List.getD v.2.2.1 (Int.toNat v.1) (0, (0, ()))).1, w64 ((List.getD v.2.2.1 (Int.toNat v.1) (0, (0, ()))).2.1 - v.2.2.2.1), ())], v.2.2.2.2.2.1, v.2.2.2.2.2.2.1, v.2.2.2.2.2.2.2.1, v.2.2.2.2.2.2.2.2.1, v.2.2.2.2.2.2.2.2.2))
  (g0 (w64 (v.1 + (1 : Int)), v.2.1, v.2.2.1, v.2.2.2.1, v.2.2.2.2.1, v.2.2.2.2.2.1, v.2.2.2.2.2.2.1, v.2.2.2.2.2.2.2.1, v.2.2.2.2.2.2.2.2.1, v.2.2.2.2.2.2.2.2.2)))
 (some (((v.2.2.2.2.1, w64 (v.2.2.2.2.2.2.1 + v.2.2.2.1), v.2.2.2.2.2.2.2.1, ()), ())))
def impl_cutTop_st0 (fuel : Nat) (g0 : impl_cutTop_V0 → impl_cutTop_R) : impl_cutTop_V0 → impl_cutTop_R := impl_cutTop_step0 fuel g0
theorem impl_cutTop_lp0 (fuel : Nat) (G) : impl_cutTop_c.lp (impl_cutTop_T fuel) 0 fuel G (endF impl_cutTop_rv impl_cutTop_rs) 0 impl_cutTop_enc0 = iter (impl_cutTop_st0 fuel) fuel := C.lp_iter fun g v => by kernel_rfl
def impl_cutTop_pre (fuel : Nat) (X0 : impl_cutTop_V0 → impl_cutTop_R) (x0 : LP) (x1 : Int) (x2 : Int) : impl_cutTop_R :=
 cond (decide ((zz (List.length x0)) ≤ (4 : Int)))
 (some (((x0, x1, x2, ()), ())))
 (Option.bind (slices_Clone_impl_Pair_impl_Pair_fn fuel ((x0, ()), ())) fun y_2 =>
  Option.bind (impl_sortPairs_v1_fn fuel (y_2.1.1, (), ())) fun y_3 =>
   tst (decide ((4 : Int) < (zz (List.length y_3.1)))) <|
    tst (decide (Int.toNat (4 : Int) < List.length y_3.1)) <|
    X0 ((0 : Int), (zz (List.length x0)), x0, (List.getD y_3.1 (Int.toNat (4 : Int)) (0, (0, ()))).2.1, List.replicate (Int.toNat (0 : Int)) (0, (0, ())), x0, x1, x2, (0 : Int), (0 : Int)))
def impl_cutTop_fn (fuel : Nat) (x : ((LP × (Int × (Int × Unit))) × Unit)) : impl_cutTop_R := impl_cutTop_pre fuel (iter (impl_cutTop_st0 fuel) fuel) x.1.1 x.1.2.1 x.1.2.2.1
theorem impl_cutTop_run (fuel : Nat) (x : PsT impl_cutTop_ps) : run (impl_cutTop_T fuel) 0 fuel impl_cutTop_c (env0 (svPs impl_cutTop_ps x) 0) [] (endF impl_cutTop_rv impl_cutTop_rs) = impl_cutTop_fn fuel x :=
  (show run (impl_cutTop_T fuel) 0 fuel impl_cutTop_c (env0 (svPs impl_cutTop_ps x) 0) [] (endF impl_cutTop_rv impl_cutTop_rs) = impl_cutTop_pre fuel (impl_cutTop_c.lp (impl_cutTop_T fuel) 0 fuel (fun _ _ _ => none) (endF impl_cutTop_rv impl_cutTop_rs) 0 impl_cutTop_enc0) x.1.1 x.1.2.1 x.1.2.2.1 by kernel_rfl).trans (by rw [impl_cutTop_lp0]; rfl)
def impl_cutTop_tf (fuel : Nat) : TF := ⟨impl_cutTop_ps, impl_cutTop_rs, false, impl_cutTop_fn fuel⟩
theorem impl_cutTop_spec (fuel : Nat) : FnSpec Tryz.prog 136 (impl_cutTop_tf fuel) :=
  fn_spec (T := impl_cutTop_T fuel) (c := bodyOf Tryz.f136) (fn := Tryz.f136) (TabOK.of (entCons (slices_Clone_impl_Pair_impl_Pair_ok fuel) (entCons (impl_sortPairs_v0_ok fuel) (entCons (impl_sortPairs_v1_ok fuel) entNil))) (methNil)) mixed (by kernel_rfl) (by kernel_rfl) impl_cutTop_l (by kernel_rfl) (Nat.le_of_ble_eq_true (by kernel_rfl)) (rv := impl_cutTop_rv) (by kernel_rfl) (impl_cutTop_run fuel)
theorem impl_cutTop_ok (fuel : Nat) : EntryOK Tryz.prog 136 (impl_cutTop_tf fuel).te := EntryOK.tf rfl (impl_cutTop_spec fuel) (isFn (fn := Tryz.f136) (by kernel_rfl) (by kernel_rfl) (by kernel_rfl))
def slices_Grow_impl_Pair_impl_Pair_T (fuel : Nat) : Tab := Tab.of [] []
abbrev slices_Grow_impl_Pair_impl_Pair_ps : Sh := (.nls (.cell I6 0 .nil))
abbrev slices_Grow_impl_Pair_impl_Pair_rs : Sh := (.cell (Kd.list KP) 1 .nil)
def slices_Grow_impl_Pair_impl_Pair_ann : List Norm := []
noncomputable def slices_Grow_impl_Pair_impl_Pair_c : C := irOf Tryz.prog Tryz.f196 [] slices_Grow_impl_Pair_impl_Pair_ann []
theorem slices_Grow_impl_Pair_impl_Pair_l : lightC Tryz.prog [] Tryz.f196.ntmps slices_Grow_impl_Pair_impl_Pair_ann [] 0 (bodyOf Tryz.f196) = some (slices_Grow_impl_Pair_impl_Pair_c, 0) := by kernel_rfl
def slices_Grow_impl_Pair_impl_Pair_rv : List (Nat × Option (Nat × Bool)) := [(4, none)]
def slices_Grow_impl_Pair_impl_Pair_pre (fuel : Nat) (x0 : Int) : Option (LP × Unit) :=
 cond (decide (x0 < (0 : Int)))
 (none)
 (cond (decide (w64 (x0 - w64 (0 - (zz 0))) > (0 : Int)))
  (tst (decide (0 ≤ w64 (x0 - w64 (0 - (zz 0))))) <|
   tst (decide (Int.toNat (w64 (x0 - w64 (0 - (zz 0)))) < LIM)) <|
   tst (decide ((zz 0) ≤ (zz (List.length (List.replicate (Int.toNat (w64 (x0 - w64 (0 - (zz 0))))) (Kd.dflt KP)))))) <|
   some ((List.take (Int.toNat (zz 0) - 0) (List.drop 0 (List.replicate (Int.toNat (w64 (x0 - w64 (0 - (zz 0))))) (0, (0, ())))), ())))
  (some (([], ()))))
def slices_Grow_impl_Pair_impl_Pair_fn (fuel : Nat) (x : (Int × Unit)) : Option (LP × Unit) := slices_Grow_impl_Pair_impl_Pair_pre fuel x.1
theorem slices_Grow_impl_Pair_impl_Pair_run (fuel : Nat) (x : Sh.T slices_Grow_impl_Pair_impl_Pair_ps) : run (slices_Grow_impl_Pair_impl_Pair_T fuel) 0 fuel slices_Grow_impl_Pair_impl_Pair_c (env0 (svS slices_Grow_impl_Pair_impl_Pair_ps x) 0) [] (endG slices_Grow_impl_Pair_impl_Pair_rv slices_Grow_impl_Pair_impl_Pair_rs) = slices_Grow_impl_Pair_impl_Pair_fn fuel x := by kernel_rfl
def slices_Grow_impl_Pair_impl_Pair_tf (fuel : Nat) : TG := ⟨slices_Grow_impl_Pair_impl_Pair_ps, slices_Grow_impl_Pair_impl_Pair_rs, true, slices_Grow_impl_Pair_impl_Pair_fn fuel⟩
theorem slices_Grow_impl_Pair_impl_Pair_spec (fuel : Nat) : FnSpecG Tryz.prog 196 (slices_Grow_impl_Pair_impl_Pair_tf fuel) :=
  fn_specG (T := slices_Grow_impl_Pair_impl_Pair_T fuel) (c := bodyOf Tryz.f196) (fn := Tryz.f196) (TabOK.of (entNil) (methNil)) mixed (by kernel_rfl) (by kernel_rfl) slices_Grow_impl_Pair_impl_Pair_l (by kernel_rfl) (Nat.le_of_ble_eq_true (by kernel_rfl)) (rv := slices_Grow_impl_Pair_impl_Pair_rv) (by kernel_rfl) (fun x y h => (slices_Grow_impl_Pair_impl_Pair_run fuel x).trans h)
theorem slices_Grow_impl_Pair_impl_Pair_ok (fuel : Nat) : EntryOK Tryz.prog 196 (slices_Grow_impl_Pair_impl_Pair_tf fuel).te := EntryOK.tg rfl (slices_Grow_impl_Pair_impl_Pair_spec fuel) (isFn (fn := Tryz.f196) (by kernel_rfl) (by kernel_rfl) (by kernel_rfl))
abbrev slices_Concat_impl_Pair_impl_Pair_R := Option ((LP × Unit) × Unit)
def slices_Concat_impl_Pair_impl_Pair_T (fuel : Nat) : Tab := Tab.of [(196, (slices_Grow_impl_Pair_impl_Pair_tf fuel).te)] []
abbrev slices_Concat_impl_Pair_impl_Pair_ps : List Pm := [{ cs := [(Kd.list (Kd.list KP), false)], ag := false }]
abbrev slices_Concat_impl_Pair_impl_Pair_rs : List Pm := [{ cs := [(Kd.list KP, true)], ag := false }]
def slices_Concat_impl_Pair_impl_Pair_ann : List Norm := [{ live := [11, 10, 9, 3, 0], fix := [] }, { live := [27, 26, 25, 6], fix := [] }]
noncomputable def slices_Concat_impl_Pair_impl_Pair_c : C := irOf Tryz.prog Tryz.f184 [] slices_Concat_impl_Pair_impl_Pair_ann []
theorem slices_Concat_impl_Pair_impl_Pair_l : lightC Tryz.prog [] Tryz.f184.ntmps slices_Concat_impl_Pair_impl_Pair_ann [] 0 (bodyOf Tryz.f184) = some (slices_Concat_impl_Pair_impl_Pair_c, 2) := by kernel_rfl
def slices_Concat_impl_Pair_impl_Pair_rv : List (Nat × Option (Nat × Bool)) := [(2, none)]
abbrev slices_Concat_impl_Pair_impl_Pair_V0 := (Int) × (Int) × (List LP) × (Int) × (List LP)
abbrev slices_Concat_impl_Pair_impl_Pair_V1 := (Int) × (Int) × (List LP) × LP
def slices_Concat_impl_Pair_impl_Pair_enc0 (v : slices_Concat_impl_Pair_impl_Pair_V0) : Env × Heap := ([(11, SV.int .i64 v.1), (10, SV.int .i64 v.2.1), (9, SV.es (Kd.list KP) v.2.2.1), (3, SV.int .i64 v.2.2.2.1), (0, SV.es (Kd.list KP) v.2.2.2.2)], [])
def slices_Concat_impl_Pair_impl_Pair_enc1 (v : slices_Concat_impl_Pair_impl_Pair_V1) : Env × Heap := ([(27, SV.int .i64 v.1), (26, SV.int .i64 v.2.1), (25, SV.es (Kd.list KP) v.2.2.1), (6, SV.own 0)], [Blk.arr KP v.2.2.2 0])
def slices_Concat_impl_Pair_impl_Pair_step1 (fuel : Nat) (g1 : slices_Concat_impl_Pair_impl_Pair_V1 → slices_Concat_impl_Pair_impl_Pair_R) (v : slices_Concat_impl_Pair_impl_Pair_V1) : slices_Concat_impl_Pair_impl_Pair_R :=
 cond (decide (v.1 < v.2.1))
 (tst (decide (0 ≤ v.1)) <|
  tst (decide (v.1 < (zz (List.length v.2.2.1)))) <|
  tst (decide (List.length v.2.2.2 + List.length (List.getD v.2.2.1 (Int.toNat v.1) []) < LIM)) <|
  g1 (w64 (v.1 + (1 : Int)), v.2.1, v.2.2.1, v.2.2.2 ++ List.getD v.2.2.1 (Int.toNat v.1) []))
 (some (((v.2.2.2, ()), ())))
def slices_Concat_impl_Pair_impl_Pair_st1 (fuel : Nat) (g1 : slices_Concat_impl_Pair_impl_Pair_V1 → slices_Concat_impl_Pair_impl_Pair_R) : slices_Concat_impl_Pair_impl_Pair_V1 → slices_Concat_impl_Pair_impl_Pair_R := slices_Concat_impl_Pair_impl_Pair_step1 fuel g1
theorem slices_Concat_impl_Pair_impl_Pair_lp1 (fuel : Nat) (G) : slices_Concat_impl_Pair_impl_Pair_c.lp (slices_Concat_impl_Pair_impl_Pair_T fuel) 0 fuel G (endF slices_Concat_impl_Pair_impl_Pair_rv slices_Concat_impl_Pair_impl_Pair_rs) 1 slices_Concat_impl_Pair_impl_Pair_enc1 = iter (slices_Concat_impl_Pair_impl_Pair_st1 fuel) fuel := C.lp_iter fun g v => by kernel_rfl
def slices_Concat_impl_Pair_impl_Pair_step0 (fuel : Nat) (X1 : slices_Concat_impl_Pair_impl_Pair_V1 → slices_Concat_impl_Pair_impl_Pair_R) (g0 : slices_Concat_impl_Pair_impl_Pair_V0 → slices_Concat_impl_Pair_impl_Pair_R) (v : slices_Concat_impl_Pair_impl_Pair_V0) : slices_Concat_impl_Pair_impl_Pair_R :=
 cond (decide (v.1 < v.2.1))
 (tst (decide (0 ≤ v.1)) <|
  tst (decide (v.1 < (zz (List.length v.2.2.1)))) <|
  cond (decide (w64 (v.2.2.2.1 + (zz (List.length (List.getD v.2.2.1 (Int.toNat v.1) [])))) < (0 : Int)))
  (none)
  (g0 (w64 (v.1 + (1 : Int)), v.2.1, v.2.2.1, w64 (v.2.2.2.1 + (zz (List.length (List.getD v.2.2.1 (Int.toNat v.1) [])))), v.2.2.2.2)))
 (Option.bind (slices_Grow_impl_Pair_impl_Pair_fn fuel (v.2.2.2.1, ())) fun y_2 =>
  X1 ((0 : Int), (zz (List.length v.2.2.2.2)), v.2.2.2.2, y_2.1))
def slices_Concat_impl_Pair_impl_Pair_st0 (fuel : Nat) (g0 : slices_Concat_impl_Pair_impl_Pair_V0 → slices_Concat_impl_Pair_impl_Pair_R) : slices_Concat_impl_Pair_impl_Pair_V0 → slices_Concat_impl_Pair_impl_Pair_R := slices_Concat_impl_Pair_impl_Pair_step0 fuel (iter (slices_Concat_impl_Pair_impl_Pair_st1 fuel) fuel) g0
theorem slices_Concat_impl_Pair_impl_Pair_lp0 (fuel : Nat) (G) : slices_Concat_impl_Pair_impl_Pair_c.lp (slices_Concat_impl_Pair_impl_Pair_T fuel) 0 fuel G (endF slices_Concat_impl_Pair_impl_Pair_rv slices_Concat_impl_Pair_impl_Pair_rs) 0 slices_Concat_impl_Pair_impl_Pair_enc0 = iter (slices_Concat_impl_Pair_impl_Pair_st0 fuel) fuel := C.lp_iter fun g v =>
  (show run (slices_Concat_impl_Pair_impl_Pair_T fuel) 0 fuel (slices_Concat_impl_Pair_impl_Pair_c.bdAt 0) (slices_Concat_impl_Pair_impl_Pair_enc0 v).1 (slices_Concat_impl_Pair_impl_Pair_enc0 v).2 (loopK 0 (slices_Concat_impl_Pair_impl_Pair_c.nmAt 0) g (slices_Concat_impl_Pair_impl_Pair_c.contAt (slices_Concat_impl_Pair_impl_Pair_T fuel) 0 fuel G 0 0 (endF slices_Concat_impl_Pair_impl_Pair_rv slices_Concat_impl_Pair_impl_Pair_rs))) = slices_Concat_impl_Pair_impl_Pair_step0 fuel (slices_Concat_impl_Pair_impl_Pair_c.lp (slices_Concat_impl_Pair_impl_Pair_T fuel) 0 fuel (fun m => bif Nat.beq m 0 then g else G m) (endF slices_Concat_impl_Pair_impl_Pair_rv slices_Concat_impl_Pair_impl_Pair_rs) 1 slices_Concat_impl_Pair_impl_Pair_enc1) (fun v => g (slices_Concat_impl_Pair_impl_Pair_enc0 v).1 (slices_Concat_impl_Pair_impl_Pair_enc0 v).2) v by kernel_rfl).trans (by rw [slices_Concat_impl_Pair_impl_Pair_lp1]; rfl)
def slices_Concat_impl_Pair_impl_Pair_pre (fuel : Nat) (X0 : slices_Concat_impl_Pair_impl_Pair_V0 → slices_Concat_impl_Pair_impl_Pair_R) (x0 : List LP) : slices_Concat_impl_Pair_impl_Pair_R :=
 X0 ((0 : Int), (zz (List.length x0)), x0, (0 : Int), x0)
def slices_Concat_impl_Pair_impl_Pair_fn (fuel : Nat) (x : (((List LP) × Unit) × Unit)) : slices_Concat_impl_Pair_impl_Pair_R := slices_Concat_impl_Pair_impl_Pair_pre fuel (iter (slices_Concat_impl_Pair_impl_Pair_st0 fuel) fuel) x.1.1
theorem slices_Concat_impl_Pair_impl_Pair_run (fuel : Nat) (x : PsT slices_Concat_impl_Pair_impl_Pair_ps) : run (slices_Concat_impl_Pair_impl_Pair_T fuel) 0 fuel slices_Concat_impl_Pair_impl_Pair_c (env0 (svPs slices_Concat_impl_Pair_impl_Pair_ps x) 0) [] (endF slices_Concat_impl_Pair_impl_Pair_rv slices_Concat_impl_Pair_impl_Pair_rs) = slices_Concat_impl_Pair_impl_Pair_fn fuel x :=
  (show run (slices_Concat_impl_Pair_impl_Pair_T fuel) 0 fuel slices_Concat_impl_Pair_impl_Pair_c (env0 (svPs slices_Concat_impl_Pair_impl_Pair_ps x) 0) [] (endF slices_Concat_impl_Pair_impl_Pair_rv slices_Concat_impl_Pair_impl_Pair_rs) = slices_Concat_impl_Pair_impl_Pair_pre fuel (slices_Concat_impl_Pair_impl_Pair_c.lp (slices_Concat_impl_Pair_impl_Pair_T fuel) 0 fuel (fun _ _ _ => none) (endF slices_Concat_impl_Pair_impl_Pair_rv slices_Concat_impl_Pair_impl_Pair_rs) 0 slices_Concat_impl_Pair_impl_Pair_enc0) x.1.1 by kernel_rfl).trans (by rw [slices_Concat_impl_Pair_impl_Pair_lp0]; rfl)
def slices_Concat_impl_Pair_impl_Pair_tf (fuel : Nat) : TF := ⟨slices_Concat_impl_Pair_impl_Pair_ps, slices_Concat_impl_Pair_impl_Pair_rs, true, slices_Concat_impl_Pair_impl_Pair_fn fuel⟩
theorem slices_Concat_impl_Pair_impl_Pair_spec (fuel : Nat) : FnSpec Tryz.prog 184 (slices_Concat_impl_Pair_impl_Pair_tf fuel) :=
  fn_spec (T := slices_Concat_impl_Pair_impl_Pair_T fuel) (c := bodyOf Tryz.f184) (fn := Tryz.f184) (TabOK.of (entCons (slices_Grow_impl_Pair_impl_Pair_ok fuel) entNil) (methNil)) mixed (by kernel_rfl) (by kernel_rfl) slices_Concat_impl_Pair_impl_Pair_l (by kernel_rfl) (Nat.le_of_ble_eq_true (by kernel_rfl)) (rv := slices_Concat_impl_Pair_impl_Pair_rv) (by kernel_rfl) (slices_Concat_impl_Pair_impl_Pair_run fuel)
theorem slices_Concat_impl_Pair_impl_Pair_ok (fuel : Nat) : EntryOK Tryz.prog 184 (slices_Concat_impl_Pair_impl_Pair_tf fuel).te := EntryOK.tf rfl (slices_Concat_impl_Pair_impl_Pair_spec fuel) (isFn (fn := Tryz.f184) (by kernel_rfl) (by kernel_rfl) (by kernel_rfl))
abbrev impl_bothPairs_R := Option ((LP × Unit) × Unit)
def impl_bothPairs_T (fuel : Nat) : Tab := Tab.of [(183, (impl_sortPairs_v0_tf fuel).te), (183, (impl_sortPairs_v1_tf fuel).te), (184, (slices_Concat_impl_Pair_impl_Pair_tf fuel).te)] []
abbrev impl_bothPairs_ps : List Pm := [{ cs := [(Kd.list KP, false)], ag := false }, { cs := [(Kd.list KP, false)], ag := false }]
abbrev impl_bothPairs_rs : List Pm := [{ cs := [(Kd.list KP, true)], ag := false }]
def impl_bothPairs_ann : List Norm := [{ live := [21, 20, 19, 6], fix := [] }]
noncomputable def impl_bothPairs_c : C := irOf Tryz.prog Tryz.f137 [] impl_bothPairs_ann []
theorem impl_bothPairs_l : lightC Tryz.prog [] Tryz.f137.ntmps impl_bothPairs_ann [] 0 (bodyOf Tryz.f137) = some (impl_bothPairs_c, 1) := by kernel_rfl
def impl_bothPairs_rv : List (Nat × Option (Nat × Bool)) := [(4, none)]
abbrev impl_bothPairs_V0 := (Int) × (Int) × LP × LP
def impl_bothPairs_enc0 (v : impl_bothPairs_V0) : Env × Heap := ([(21, SV.int .i64 v.1), (20, SV.int .i64 v.2.1), (19, SV.own 0), (6, SV.own 1)], [Blk.arr KP v.2.2.1 0, Blk.arr KP v.2.2.2 0])
def impl_bothPairs_step0 (fuel : Nat) (g0 : impl_bothPairs_V0 → impl_bothPairs_R) (v : impl_bothPairs_V0) : impl_bothPairs_R :=
 cond (decide (v.1 < v.2.1))
 (tst (decide (0 ≤ v.1)) <|
  tst (decide (v.1 < (zz (List.length v.2.2.1)))) <|
  tst (decide (Int.toNat v.1 < List.length v.2.2.1)) <|
  cond (decide (w64 ((zz (List.length v.2.2.2)) - (1 : Int)) ≥ (0 : Int)))
  (tst (decide (0 ≤ w64 ((zz (List.length v.2.2.2)) - (1 : Int)))) <|
   tst (decide (w64 ((zz (List.length v.2.2.2)) - (1 : Int)) < (zz (List.length v.2.2.2)))) <|
   tst (decide (Int.toNat (w64 ((zz (List.length v.2.2.2)) - (1 : Int))) < List.length v.2.2.2)) <|
   cond ((List.getD v.2.2.2 (Int.toNat (w64 ((zz (List.length v.2.2.2)) - (1 : Int)))) (0, (0, ()))).1 == (List.getD v.2.2.1 (Int.toNat v.1) (0, (0, ()))).1)
   (tst (decide (0 ≤ w64 ((zz (List.length v.2.2.2)) - (1 : Int)))) <|
    tst (decide (w64 ((zz (List.length v.2.2.2)) - (1 : Int)) < (zz (List.length v.2.2.2)))) <|
    tst (decide (Int.toNat (w64 ((zz (List.length v.2.2.2)) - (1 : Int))) < List.length v.2.2.2)) <|
    tst (decide (0 ≤ w64 ((zz (List.length v.2.2.2)) - (1 : Int)))) <|
    tst (decide (w64 ((zz (List.length v.2.2.2)) - (1 : Int)) < (zz (List.length v.2.2.2)))) <|
    tst (decide (Int.toNat (w64 ((zz (List.length v.2.2.2)) - (1 : Int))) < List.length v.2.2.2)) <|
    g0 (w64 (v.1 + (1 : Int)), v.2.1, v.2.2.1, List.set v.2.2.2 (Int.toNat (w64 ((zz (List.length v.2.2.2)) - (1 : Int)))) ((List.getD v.2.2.2 (Int.toNat (w64 ((zz (List.length v.2.2.2)) - (1 : Int)))) (0, (0, ()))).1, w64 ((List.getD v.2.2.2 (Int.toNat (w64 ((zz (List.length v.2.2.2)) - (1 : Int)))) (0, (0, ()))).2.1 + (List.getD v.2.2.1 (Int.toNat v.1) (0, (0, ()))).2.1), ())))
   (tst (decide (List.length v.2.2.2 + 1 < LIM)) <|
    g0 (w64 (v.1 + (1 : Int)), v.2.1, v.2.2.1, v.2.2.2 ++ [((List.getD v.2.2.1 (Int.toNat v.1) (0, (0, ()))).1, (List.getD v.2.2.1 (Int.toNat v.1) (0, (0, ()))).2.1, ())])))
  (tst (decide (List.length v.2.2.2 + 1 < LIM)) <|
   g0 (w64 (v.1 + (1 : Int)), v.2.1, v.2.2.1, v.2.2.2 ++ [((List.getD v.2.2.1 (Int.toNat v.1) (0, (0, ()))).1, (List.getD v.2.2.1 (Int.toNat v.1) (0, (0, ()))).2.1, ())])))
 (some (((v.2.2.2, ()), ())))
def impl_bothPairs_st0 (fuel : Nat) (g0 : impl_bothPairs_V0 → impl_bothPairs_R) : impl_bothPairs_V0 → impl_bothPairs_R := impl_bothPairs_step0 fuel g0
theorem impl_bothPairs_lp0 (fuel : Nat) (G) : impl_bothPairs_c.lp (impl_bothPairs_T fuel) 0 fuel G (endF impl_bothPairs_rv impl_bothPairs_rs) 0 impl_bothPairs_enc0 = iter (impl_bothPairs_st0 fuel) fuel := C.lp_iter fun g v => by kernel_rfl
def impl_bothPairs_pre (fuel : Nat) (X0 : impl_bothPairs_V0 → impl_bothPairs_R) (x0 : LP) (x1 : LP) : impl_bothPairs_R :=
 Option.bind (slices_Concat_impl_Pair_impl_Pair_fn fuel (([x0, x1], ()), ())) fun y_1 =>
 Option.bind (impl_sortPairs_v0_fn fuel (y_1.1.1, (), ())) fun y_2 =>
  tst (decide ((0 : Int) ≤ (zz (List.length y_2.1)))) <|
   tst (decide (Int.toNat (zz (List.length y_2.1)) < LIM)) <|
   X0 ((0 : Int), (zz (List.length y_2.1)), y_2.1, List.replicate (Int.toNat (0 : Int)) (0, (0, ())))
def impl_bothPairs_fn (fuel : Nat) (x : ((LP × Unit) × ((LP × Unit) × Unit))) : impl_bothPairs_R := impl_bothPairs_pre fuel (iter (impl_bothPairs_st0 fuel) fuel) x.1.1 x.2.1.1
theorem impl_bothPairs_run (fuel : Nat) (x : PsT impl_bothPairs_ps) : run (impl_bothPairs_T fuel) 0 fuel impl_bothPairs_c (env0 (svPs impl_bothPairs_ps x) 0) [] (endF impl_bothPairs_rv impl_bothPairs_rs) = impl_bothPairs_fn fuel x :=
  (show run (impl_bothPairs_T fuel) 0 fuel impl_bothPairs_c (env0 (svPs impl_bothPairs_ps x) 0) [] (endF impl_bothPairs_rv impl_bothPairs_rs) = impl_bothPairs_pre fuel (impl_bothPairs_c.lp (impl_bothPairs_T fuel) 0 fuel (fun _ _ _ => none) (endF impl_bothPairs_rv impl_bothPairs_rs) 0 impl_bothPairs_enc0) x.1.1 x.2.1.1 by kernel_rfl).trans (by rw [impl_bothPairs_lp0]; rfl)
def impl_bothPairs_tf (fuel : Nat) : TF := ⟨impl_bothPairs_ps, impl_bothPairs_rs, true, impl_bothPairs_fn fuel⟩
theorem impl_bothPairs_spec (fuel : Nat) : FnSpec Tryz.prog 137 (impl_bothPairs_tf fuel) :=
  fn_spec (T := impl_bothPairs_T fuel) (c := bodyOf Tryz.f137) (fn := Tryz.f137) (TabOK.of (entCons (impl_sortPairs_v0_ok fuel) (entCons (impl_sortPairs_v1_ok fuel) (entCons (slices_Concat_impl_Pair_impl_Pair_ok fuel) entNil))) (methNil)) mixed (by kernel_rfl) (by kernel_rfl) impl_bothPairs_l (by kernel_rfl) (Nat.le_of_ble_eq_true (by kernel_rfl)) (rv := impl_bothPairs_rv) (by kernel_rfl) (impl_bothPairs_run fuel)
theorem impl_bothPairs_ok (fuel : Nat) : EntryOK Tryz.prog 137 (impl_bothPairs_tf fuel).te := EntryOK.tf rfl (impl_bothPairs_spec fuel) (isFn (fn := Tryz.f137) (by kernel_rfl) (by kernel_rfl) (by kernel_rfl))
def impl_topSum_T (fuel : Nat) : Tab := Tab.of [(136, (impl_cutTop_tf fuel).te), (137, (impl_bothPairs_tf fuel).te)] []
abbrev impl_topSum_ps : List Pm := [{ cs := [(Kd.list KP, false), (I6, false), (I6, false)], ag := true }, { cs := [(Kd.list KP, false), (I6, false), (I6, false)], ag := true }]
abbrev impl_topSum_rs : List Pm := [{ cs := [(Kd.list KP, false), (I6, false), (I6, false)], ag := true }]
def impl_topSum_ann : List Norm := []
noncomputable def impl_topSum_c : C := irOf Tryz.prog Tryz.f90 [21] impl_topSum_ann []
theorem impl_topSum_l : lightC Tryz.prog [21] Tryz.f90.ntmps impl_topSum_ann [] 0 (bodyOf Tryz.f90) = some (impl_topSum_c, 0) := by kernel_rfl
def impl_topSum_rv : List (Nat × Option (Nat × Bool)) := [(4, some (3, true))]
def impl_topSum_pre (fuel : Nat) (x0 : LP) (x1 : Int) (x2 : Int) (x3 : LP) (x4 : Int) (x5 : Int) : Option ((LP × (Int × (Int × Unit))) × Unit) :=
 Option.bind (impl_bothPairs_fn fuel ((x0, ()), (x3, ()), ())) fun y_1 =>
 Option.bind (impl_cutTop_fn fuel ((y_1.1.1, w64 (x1 + x4), w64 (x2 + x5), ()), ())) fun y_2 =>
  some (((y_2.1.1, y_2.1.2.1, y_2.1.2.2.1, ()), ()))
def impl_topSum_fn (fuel : Nat) (x : ((LP × (Int × (Int × Unit))) × ((LP × (Int × (Int × Unit))) × Unit))) : Option ((LP × (Int × (Int × Unit))) × Unit) := impl_topSum_pre fuel x.1.1 x.1.2.1 x.1.2.2.1 x.2.1.1 x.2.1.2.1 x.2.1.2.2.1
theorem impl_topSum_run (fuel : Nat) (x : PsT impl_topSum_ps) : run (impl_topSum_T fuel) 0 fuel impl_topSum_c (env0 (svPs impl_topSum_ps x) 0) [] (endF impl_topSum_rv impl_topSum_rs) = impl_topSum_fn fuel x := by kernel_rfl
def impl_topSum_tf (fuel : Nat) : TF := ⟨impl_topSum_ps, impl_topSum_rs, false, impl_topSum_fn fuel⟩
theorem impl_topSum_spec (fuel : Nat) : FnSpec Tryz.prog 90 (impl_topSum_tf fuel) :=
  fn_spec (T := impl_topSum_T fuel) (c := bodyOf Tryz.f90) (fn := Tryz.f90) (TabOK.of (entCons (impl_cutTop_ok fuel) (entCons (impl_bothPairs_ok fuel) entNil)) (methNil)) mixed (by kernel_rfl) (by kernel_rfl) impl_topSum_l (by kernel_rfl) (Nat.le_of_ble_eq_true (by kernel_rfl)) (rv := impl_topSum_rv) (by kernel_rfl) (impl_topSum_run fuel)
theorem impl_topSum_ok (fuel : Nat) : EntryOK Tryz.prog 90 (impl_topSum_tf fuel).te := EntryOK.tf rfl (impl_topSum_spec fuel) (isFn (fn := Tryz.f90) (by kernel_rfl) (by kernel_rfl) (by kernel_rfl))
def impl_TopAdd_T (fuel : Nat) : Tab := Tab.of [(85, (impl_TopOk_tf fuel).te), (86, (impl_isThing_tf fuel).te), (90, (impl_topSum_tf fuel).te)] []
abbrev impl_TopAdd_ps : List Pm := [{ cs := [(Kd.list KP, false), (I6, false), (I6, false)], ag := true }, { cs := [(I6, false)], ag := false }]
abbrev impl_TopAdd_rs : List Pm := [{ cs := [(Kd.list KP, false), (I6, false), (I6, false)], ag := true }, { cs := [(Kd.bool, false)], ag := false }]
def impl_TopAdd_ann : List Norm := []
noncomputable def impl_TopAdd_c : C := irOf Tryz.prog Tryz.f64 [25] impl_TopAdd_ann []
theorem impl_TopAdd_l : lightC Tryz.prog [25] Tryz.f64.ntmps impl_TopAdd_ann [] 0 (bodyOf Tryz.f64) = some (impl_TopAdd_c, 0) := by kernel_rfl
def impl_TopAdd_rv : List (Nat × Option (Nat × Bool)) := [(4, some (3, true)), (5, none)]
def impl_TopAdd_pre (fuel : Nat) (x0 : LP) (x1 : Int) (x2 : Int) (x3 : Int) : Option ((LP × (Int × (Int × Unit))) × ((Bool × Unit) × Unit)) :=
 Option.bind (impl_TopOk_fn fuel ((x0, x1, x2, ()), ())) fun y_1 =>
 cond (!y_1.1.1)
  (some ((([], (0 : Int), (0 : Int), ()), (false, ()), ())))
  (Option.bind (impl_isThing_fn fuel ((x3, ()), ())) fun y_3 =>
   cond (!y_3.1.1)
    (some ((([], (0 : Int), (0 : Int), ()), (false, ()), ())))
    (cond (x2 == (2000 : Int))
     (some ((([], (0 : Int), (0 : Int), ()), (false, ()), ())))
     (Option.bind (impl_topSum_fn fuel ((x0, x1, x2, ()), ([(x3, (1 : Int), ())], (0 : Int), (1 : Int), ()), ())) fun y_6 =>
      some (((y_6.1.1, y_6.1.2.1, y_6.1.2.2.1, ()), (true, ()), ())))))
def impl_TopAdd_fn (fuel : Nat) (x : ((LP × (Int × (Int × Unit))) × ((Int × Unit) × Unit))) : Option ((LP × (Int × (Int × Unit))) × ((Bool × Unit) × Unit)) := impl_TopAdd_pre fuel x.1.1 x.1.2.1 x.1.2.2.1 x.2.1.1
theorem impl_TopAdd_run (fuel : Nat) (x : PsT impl_TopAdd_ps) : run (impl_TopAdd_T fuel) 0 fuel impl_TopAdd_c (env0 (svPs impl_TopAdd_ps x) 0) [] (endF impl_TopAdd_rv impl_TopAdd_rs) = impl_TopAdd_fn fuel x := by kernel_rfl
def impl_TopAdd_tf (fuel : Nat) : TF := ⟨impl_TopAdd_ps, impl_TopAdd_rs, false, impl_TopAdd_fn fuel⟩
theorem impl_TopAdd_spec (fuel : Nat) : FnSpec Tryz.prog 64 (impl_TopAdd_tf fuel) :=
  fn_spec (T := impl_TopAdd_T fuel) (c := bodyOf Tryz.f64) (fn := Tryz.f64) (TabOK.of (entCons (impl_TopOk_ok fuel) (entCons (impl_isThing_ok fuel) (entCons (impl_topSum_ok fuel) entNil))) (methNil)) mixed (by kernel_rfl) (by kernel_rfl) impl_TopAdd_l (by kernel_rfl) (Nat.le_of_ble_eq_true (by kernel_rfl)) (rv := impl_TopAdd_rv) (by kernel_rfl) (impl_TopAdd_run fuel)
theorem impl_TopAdd_ok (fuel : Nat) : EntryOK Tryz.prog 64 (impl_TopAdd_tf fuel).te := EntryOK.tf rfl (impl_TopAdd_spec fuel) (isFn (fn := Tryz.f64) (by kernel_rfl) (by kernel_rfl) (by kernel_rfl))
def impl_Top_with_T (fuel : Nat) : Tab := Tab.of [(64, (impl_TopAdd_tf fuel).te)] []
abbrev impl_Top_with_ps : Sh := (.agg (.cell (Kd.list KP) 0 (.cell I6 0 (.cell I6 0 .nil))) (.cell I6 0 .nil))
abbrev impl_Top_with_rs : Sh := (.ifc 32 (.agg (.cell (Kd.list KP) 0 (.cell I6 0 (.cell I6 0 .nil))) .nil) (.cell Kd.bool 0 .nil))
def impl_Top_with_ann : List Norm := []
noncomputable def impl_Top_with_c : C := irOf Tryz.prog Tryz.f237 [] impl_Top_with_ann []
theorem impl_Top_with_l : lightC Tryz.prog [] Tryz.f237.ntmps impl_Top_with_ann [] 0 (bodyOf Tryz.f237) = some (impl_Top_with_c, 0) := by kernel_rfl
def impl_Top_with_rv : List (Nat × Option (Nat × Bool)) := [(4, none), (5, none)]
def impl_Top_with_pre (fuel : Nat) (x0 : LP) (x1 : Int) (x2 : Int) (x3 : Int) : Option (((LP × (Int × (Int × Unit))) × Unit) × (Bool × Unit)) :=
 Option.bind (impl_TopAdd_fn fuel ((x0, x1, x2, ()), (x3, ()), ())) fun y_1 =>
 some ((((y_1.1.1, y_1.1.2.1, y_1.1.2.2.1, ()), ()), y_1.2.1.1, ()))
def impl_Top_with_fn (fuel : Nat) (x : ((LP × (Int × (Int × Unit))) × (Int × Unit))) : Option (((LP × (Int × (Int × Unit))) × Unit) × (Bool × Unit)) := impl_Top_with_pre fuel x.1.1 x.1.2.1 x.1.2.2.1 x.2.1
theorem impl_Top_with_run (fuel : Nat) (x : Sh.T impl_Top_with_ps) : run (impl_Top_with_T fuel) 0 fuel impl_Top_with_c (env0 (svS impl_Top_with_ps x) 0) [] (endG impl_Top_with_rv impl_Top_with_rs) = impl_Top_with_fn fuel x := by kernel_rfl
def impl_Top_with_tf (fuel : Nat) : TG := ⟨impl_Top_with_ps, impl_Top_with_rs, false, impl_Top_with_fn fuel⟩
theorem impl_Top_with_spec (fuel : Nat) : FnSpecG Tryz.prog 237 (impl_Top_with_tf fuel) :=
  fn_specG (T := impl_Top_with_T fuel) (c := bodyOf Tryz.f237) (fn := Tryz.f237) (TabOK.of (entCons (impl_TopAdd_ok fuel) entNil) (methNil)) mixed (by kernel_rfl) (by kernel_rfl) impl_Top_with_l (by kernel_rfl) (Nat.le_of_ble_eq_true (by kernel_rfl)) (rv := impl_Top_with_rv) (by kernel_rfl) (fun x y h => (impl_Top_with_run fuel x).trans h)
theorem impl_Top_with_ok (fuel : Nat) : EntryOK Tryz.prog 237 (impl_Top_with_tf fuel).te := EntryOK.tg rfl (impl_Top_with_spec fuel) (isFn (fn := Tryz.f237) (by kernel_rfl) (by kernel_rfl) (by kernel_rfl))
def impl_knotNums_addKnots_T (fuel : Nat) : Tab := Tab.of [] []
abbrev impl_knotNums_addKnots_ps : List Pm := [{ cs := [(Kd.list KP, false)], ag := false }]
abbrev impl_knotNums_addKnots_rs : List Pm := []
abbrev impl_knotNums_addKnots_rf : Rf := Rf.arr I6 165
def impl_knotNums_addKnots_ann : List Norm := [{ live := [8, 7, 6, 0], fix := [] }]
noncomputable def impl_knotNums_addKnots_c : C := irOf Tryz.prog Tryz.f155 [] impl_knotNums_addKnots_ann []
theorem impl_knotNums_addKnots_l : lightC Tryz.prog [] Tryz.f155.ntmps impl_knotNums_addKnots_ann [] 0 (bodyOf Tryz.f155) = some (impl_knotNums_addKnots_c, 1) := by kernel_rfl
def impl_knotNums_addKnots_rv : List (Nat × Option (Nat × Bool)) := []
abbrev impl_knotNums_addKnots_V0 := (Int) × (Int) × LP × (List Int)
def impl_knotNums_addKnots_enc0 (v : impl_knotNums_addKnots_V0) : Env × Heap := ([(8, SV.int .i64 v.1), (7, SV.int .i64 v.2.1), (6, SV.es KP v.2.2.1), (0, SV.ptr 0 0)], [Blk.arr I6 v.2.2.2 0])
def impl_knotNums_addKnots_step0 (fuel : Nat) (g0 : impl_knotNums_addKnots_V0 → Option ((List Int) × Unit)) (v : impl_knotNums_addKnots_V0) : Option ((List Int) × Unit) :=
 cond (decide (v.1 < v.2.1))
 (tst (decide (0 ≤ v.1)) <|
  tst (decide (v.1 < (zz (List.length v.2.2.1)))) <|
  tst (decide (0 ≤ (List.getD v.2.2.1 (Int.toNat v.1) (0, (0, ()))).1)) <|
  tst (decide ((List.getD v.2.2.1 (Int.toNat v.1) (0, (0, ()))).1 < (zz 128))) <|
  tst (decide (Int.toNat (List.getD v.2.2.1 (Int.toNat v.1) (0, (0, ()))).1 < List.length v.2.2.2)) <|
  tst (decide (0 ≤ (List.getD v.2.2.1 (Int.toNat v.1) (0, (0, ()))).1)) <|
  tst (decide ((List.getD v.2.2.1 (Int.toNat v.1) (0, (0, ()))).1 < (zz 128))) <|
  tst (decide (Int.toNat (List.getD v.2.2.1 (Int.toNat v.1) (0, (0, ()))).1 < List.length v.2.2.2)) <|
  g0 (w64 (v.1 + (1 : Int)), v.2.1, v.2.2.1, List.set v.2.2.2 (Int.toNat (List.getD v.2.2.1 (Int.toNat v.1) (0, (0, ()))).1) (w64 (List.getD v.2.2.2 (Int.toNat (List.getD v.2.2.1 (Int.toNat v.1) (0, (0, ()))).1) 0 + (List.getD v.2.2.1 (Int.toNat v.1) (0, (0, ()))).2.1))))
 (some ((v.2.2.2, ())))
def impl_knotNums_addKnots_st0 (fuel : Nat) (g0 : impl_knotNums_addKnots_V0 → Option ((List Int) × Unit)) : impl_knotNums_addKnots_V0 → Option ((List Int) × Unit) := impl_knotNums_addKnots_step0 fuel g0
theorem impl_knotNums_addKnots_lp0 (fuel : Nat) (G) : impl_knotNums_addKnots_c.lp (impl_knotNums_addKnots_T fuel) 1 fuel G (endU impl_knotNums_addKnots_rv impl_knotNums_addKnots_rf impl_knotNums_addKnots_rs) 0 impl_knotNums_addKnots_enc0 = iter (impl_knotNums_addKnots_st0 fuel) fuel := C.lp_iter fun g v => by kernel_rfl
def impl_knotNums_addKnots_pre (fuel : Nat) (X0 : impl_knotNums_addKnots_V0 → Option ((List Int) × Unit)) (d0 : List Int) (x0 : LP) : Option ((List Int) × Unit) :=
 X0 ((0 : Int), (zz (List.length x0)), x0, d0)
def impl_knotNums_addKnots_fn (fuel : Nat) (z : (List Int) × ((LP × Unit) × Unit)) : Option ((List Int) × Unit) := impl_knotNums_addKnots_pre fuel (iter (impl_knotNums_addKnots_st0 fuel) fuel) z.1 z.2.1.1
theorem impl_knotNums_addKnots_run (fuel : Nat) (c : Rf.T impl_knotNums_addKnots_rf) (x : PsT impl_knotNums_addKnots_ps) : run (impl_knotNums_addKnots_T fuel) 1 fuel impl_knotNums_addKnots_c ((0, .ptr 0 0) :: env0 (svPs impl_knotNums_addKnots_ps x) 1) [impl_knotNums_addKnots_rf.blk c] (endU impl_knotNums_addKnots_rv impl_knotNums_addKnots_rf impl_knotNums_addKnots_rs) = impl_knotNums_addKnots_fn fuel (c, x) :=
  (show run (impl_knotNums_addKnots_T fuel) 1 fuel impl_knotNums_addKnots_c ((0, .ptr 0 0) :: env0 (svPs impl_knotNums_addKnots_ps x) 1) [impl_knotNums_addKnots_rf.blk c] (endU impl_knotNums_addKnots_rv impl_knotNums_addKnots_rf impl_knotNums_addKnots_rs) = impl_knotNums_addKnots_pre fuel (impl_knotNums_addKnots_c.lp (impl_knotNums_addKnots_T fuel) 1 fuel (fun _ _ _ => none) (endU impl_knotNums_addKnots_rv impl_knotNums_addKnots_rf impl_knotNums_addKnots_rs) 0 impl_knotNums_addKnots_enc0) c x.1.1 by kernel_rfl).trans (by rw [impl_knotNums_addKnots_lp0]; rfl)
def impl_knotNums_addKnots_tf (fuel : Nat) : TFU := ⟨impl_knotNums_addKnots_rf, impl_knotNums_addKnots_ps, impl_knotNums_addKnots_rs, impl_knotNums_addKnots_fn fuel⟩
theorem impl_knotNums_addKnots_spec (fuel : Nat) : FnSpecU Tryz.prog 155 (impl_knotNums_addKnots_tf fuel) :=
  fn_specU (T := impl_knotNums_addKnots_T fuel) (c := bodyOf Tryz.f155) (fn := Tryz.f155) (TabOK.of (entNil) (methNil)) mixed (by kernel_rfl) (by kernel_rfl) impl_knotNums_addKnots_l (by kernel_rfl) (Nat.le_of_ble_eq_true (by kernel_rfl)) (rv := impl_knotNums_addKnots_rv) (by kernel_rfl) (impl_knotNums_addKnots_run fuel)
theorem impl_knotNums_addKnots_ok (fuel : Nat) : EntryOK Tryz.prog 155 (impl_knotNums_addKnots_tf fuel).te := EntryOK.tfu (impl_knotNums_addKnots_spec fuel) (isFn (fn := Tryz.f155) (by kernel_rfl) (by kernel_rfl) (by kernel_rfl))
def impl_knotNums_squeeze_T (fuel : Nat) : Tab := Tab.of [] []
abbrev impl_knotNums_squeeze_ps : List Pm := [{ cs := [(I6, false)], ag := false }]
abbrev impl_knotNums_squeeze_rs : List Pm := []
abbrev impl_knotNums_squeeze_rf : Rf := Rf.arr I6 165
def impl_knotNums_squeeze_ann : List Norm := [{ live := [5, 4, 0, 1], fix := [] }, { live := [4, 0, 1], fix := [(4, none, I6, true)] }]
noncomputable def impl_knotNums_squeeze_c : C := irOf Tryz.prog Tryz.f156 [] impl_knotNums_squeeze_ann []
theorem impl_knotNums_squeeze_l : lightC Tryz.prog [] Tryz.f156.ntmps impl_knotNums_squeeze_ann [] 0 (bodyOf Tryz.f156) = some (impl_knotNums_squeeze_c, 2) := by kernel_rfl
def impl_knotNums_squeeze_rv : List (Nat × Option (Nat × Bool)) := []
abbrev impl_knotNums_squeeze_V0 := (Int) × (Int) × (List Int) × (List Int)
abbrev impl_knotNums_squeeze_V1 := (Int) × (List Int) × (List Int)
def impl_knotNums_squeeze_enc0 (v : impl_knotNums_squeeze_V0) : Env × Heap := ([(5, SV.int .i64 v.1), (4, SV.own 1), (0, SV.ptr 0 0), (1, SV.int .i64 v.2.1)], [Blk.arr I6 v.2.2.1 0, Blk.arr I6 v.2.2.2 0])
def impl_knotNums_squeeze_enc1 (v : impl_knotNums_squeeze_V1) : Env × Heap := ([(4, SV.own 1), (0, SV.ptr 0 0), (1, SV.int .i64 v.1)], [Blk.arr I6 v.2.1 0, Blk.arr I6 v.2.2 0])
def impl_knotNums_squeeze_step1 (fuel : Nat) (g1 : impl_knotNums_squeeze_V1 → Option ((List Int) × Unit)) (v : impl_knotNums_squeeze_V1) : Option ((List Int) × Unit) :=
 cond (decide ((zz (List.length v.2.2)) > (0 : Int)))
 (tst (decide ((0 : Int) < (zz (List.length v.2.2)))) <|
  tst (decide (Int.toNat (0 : Int) < List.length v.2.2)) <|
  tst (decide ((1 : Int) ≤ (zz (List.length v.2.2)))) <|
  tst (decide (0 ≤ w64 (List.getD v.2.2 (Int.toNat (0 : Int)) 0 * 2 ^ min (Int.toNat (1 : Int)) (IntKind.bits IntKind.i64)))) <|
  tst (decide (w64 (List.getD v.2.2 (Int.toNat (0 : Int)) 0 * 2 ^ min (Int.toNat (1 : Int)) (IntKind.bits IntKind.i64)) < (zz 128))) <|
  tst (decide (Int.toNat (w64 (List.getD v.2.2 (Int.toNat (0 : Int)) 0 * 2 ^ min (Int.toNat (1 : Int)) (IntKind.bits IntKind.i64))) < List.length v.2.1)) <|
  tst (decide (0 ≤ w64 (zz (BitVec.toNat (BitVec.ofInt (IntKind.bits IntKind.i64) (w64 (List.getD v.2.2 (Int.toNat (0 : Int)) 0 * 2 ^ min (Int.toNat (1 : Int)) (IntKind.bits IntKind.i64))) ||| BitVec.ofInt (IntKind.bits IntKind.i64) (1 : Int)))))) <|
  tst (decide (w64 (zz (BitVec.toNat (BitVec.ofInt (IntKind.bits IntKind.i64) (w64 (List.getD v.2.2 (Int.toNat (0 : Int)) 0 * 2 ^ min (Int.toNat (1 : Int)) (IntKind.bits IntKind.i64))) ||| BitVec.ofInt (IntKind.bits IntKind.i64) (1 : Int)))) < (zz 128))) <|
  tst (decide (Int.toNat (w64 (zz (BitVec.toNat (BitVec.ofInt (IntKind.bits IntKind.i64) (w64 (List.getD v.2.2 (Int.toNat (0 : Int)) 0 * 2 ^ min (Int.toNat (1 : Int)) (IntKind.bits IntKind.i64))) ||| BitVec.ofInt (IntKind.bits IntKind.i64) (1 : Int))))) < List.length v.2.1)) <|
  cond (decide (w64 (List.getD v.2.1 (Int.toNat (w64 (List.getD v.2.2 (Int.toNat (0 : Int)) 0 * 2 ^ min (Int.toNat (1 : Int)) (IntKind.bits IntKind.i64)))) 0 + List.getD v.2.1 (Int.toNat (w64 (zz (BitVec.toNat (BitVec.ofInt (IntKind.bits IntKind.i64) (w64 (List.getD v.2.2 (Int.toNat (0 : Int)) 0 * 2 ^ min (Int.toNat (1 : Int)) (IntKind.bits IntKind.i64))) ||| BitVec.ofInt (IntKind.bits IntKind.i64) (1 : Int)))))) 0) > (0 : Int)))
  (tst (decide (0 ≤ List.getD v.2.2 (Int.toNat (0 : Int)) 0)) <|
   tst (decide (List.getD v.2.2 (Int.toNat (0 : Int)) 0 < (zz 128))) <|
   tst (decide (Int.toNat (List.getD v.2.2 (Int.toNat (0 : Int)) 0) < List.length v.2.1)) <|
   cond (decide (w64 (w64 (List.getD v.2.1 (Int.toNat (w64 (List.getD v.2.2 (Int.toNat (0 : Int)) 0 * 2 ^ min (Int.toNat (1 : Int)) (IntKind.bits IntKind.i64)))) 0 + List.getD v.2.1 (Int.toNat (w64 (zz (BitVec.toNat (BitVec.ofInt (IntKind.bits IntKind.i64) (w64 (List.getD v.2.2 (Int.toNat (0 : Int)) 0 * 2 ^ min (Int.toNat (1 : Int)) (IntKind.bits IntKind.i64))) ||| BitVec.ofInt (IntKind.bits IntKind.i64) (1 : Int)))))) 0) + List.getD v.2.1 (Int.toNat (List.getD v.2.2 (Int.toNat (0 : Int)) 0)) 0) ≤ w64 (Int.tdiv v.1 (8 : Int))))
   (tst (decide (0 ≤ List.getD v.2.2 (Int.toNat (0 : Int)) 0)) <|
    tst (decide (List.getD v.2.2 (Int.toNat (0 : Int)) 0 < (zz 128))) <|
    tst (decide (Int.toNat (List.getD v.2.2 (Int.toNat (0 : Int)) 0) < List.length v.2.1)) <|
    tst (decide (0 ≤ List.getD v.2.2 (Int.toNat (0 : Int)) 0)) <|
    tst (decide (List.getD v.2.2 (Int.toNat (0 : Int)) 0 < (zz 128))) <|
    tst (decide (Int.toNat (List.getD v.2.2 (Int.toNat (0 : Int)) 0) < List.length v.2.1)) <|
    tst (decide (0 ≤ w64 (List.getD v.2.2 (Int.toNat (0 : Int)) 0 * 2 ^ min (Int.toNat (1 : Int)) (IntKind.bits IntKind.i64)))) <|
    tst (decide (w64 (List.getD v.2.2 (Int.toNat (0 : Int)) 0 * 2 ^ min (Int.toNat (1 : Int)) (IntKind.bits IntKind.i64)) < (zz 128))) <|
    tst (decide (Int.toNat (w64 (List.getD v.2.2 (Int.toNat (0 : Int)) 0 * 2 ^ min (Int.toNat (1 : Int)) (IntKind.bits IntKind.i64))) < List.length (List.set v.2.1 (Int.toNat (List.getD v.2.2 (Int.toNat (0 : Int)) 0)) (w64 (List.getD v.2.1 (Int.toNat (List.getD v.2.2 (Int.toNat (0 : Int)) 0)) 0 + w64 (List.getD v.2.1 (Int.toNat (w64 (List.getD v.2.2 (Int.toNat (0 : Int)) 0 * 2 ^ min (Int.toNat (1 : Int)) (IntKind.bits IntKind.i64)))) 0 + List.getD v.2.1 (Int.toNat (w64 (zz (BitVec.toNat (BitVec.ofInt (IntKind.bits IntKind.i64) (w64 (List.getD v.2.2 (Int.toNat (0 : Int)) 0 * 2 ^ min (Int.toNat (1 : Int)) (IntKind.bits IntKind.i64))) ||| BitVec.ofInt (IntKind.bits IntKind.i64) (1 : Int)))))) 0)))))) <|
    tst (decide (0 ≤ w64 (zz (BitVec.toNat (BitVec.ofInt (IntKind.bits IntKind.i64) (w64 (List.getD v.2.2 (Int.toNat (0 : Int)) 0 * 2 ^ min (Int.toNat (1 : Int)) (IntKind.bits IntKind.i64))) ||| BitVec.ofInt (IntKind.bits IntKind.i64) (1 : Int)))))) <|
    tst (decide (w64 (zz (BitVec.toNat (BitVec.ofInt (IntKind.bits IntKind.i64) (w64 (List.getD v.2.2 (Int.toNat (0 : Int)) 0 * 2 ^ min (Int.toNat (1 : Int)) (IntKind.bits IntKind.i64))) ||| BitVec.ofInt (IntKind.bits IntKind.i64) (1 : Int)))) < (zz 128))) <|
    tst (decide (Int.toNat (w64 (zz (BitVec.toNat (BitVec.ofInt (IntKind.bits IntKind.i64) (w64 (List.getD v.2.2 (Int.toNat (0 : Int)) 0 * 2 ^ min (Int.toNat (1 : Int)) (IntKind.bits IntKind.i64))) ||| BitVec.ofInt (IntKind.bits IntKind.i64) (1 : Int))))) < List.length (List.set (List.set v.2.1 (Int.toNat (List.getD v.2.2 (Int.toNat (0 : Int)) 0)) (w64 (List.getD v.2.1 (Int.toNat (List.getD v.2.2 (Int.toNat (0 : Int)) 0)) 0 + w64 (List.getD v.2.1 (Int.toNat (w64 (List.getD v.2.2 (Int.toNat (0 : Int)) 0 * 2 ^ min (Int.toNat (1 : Int)) (IntKind.bits IntKind.i64)))) 0 + List.getD v.2.1 (Int.toNat (w64 (zz (BitVec.toNat (BitVec.ofInt (IntKind.bits IntKind.i64) (w64 (List.getD v.2.2 (Int.toNat (0 : Int)) 0 * 2 ^ min (Int.toNat (1 : Int)) (IntKind.bits IntKind.i64))) ||| BitVec.ofInt (IntKind.bits IntKind.i64) (1 : Int)))))) 0)))) (Int.toNat (w64 (List.getD v.2.2 (Int.toNat (0 : Int)) 0 * 2 ^ min (Int.toNat (1 : Int)) (IntKind.bits IntKind.i64)))) (0 : Int)))) <|
    cond (w64 (zz (BitVec.toNat (BitVec.ofInt (IntKind.bits IntKind.i64) (List.getD v.2.2 (Int.toNat (0 : Int)) 0) &&& BitVec.ofInt (IntKind.bits IntKind.i64) (1 : Int)))) == (0 : Int))
    (tst (decide (List.length (List.take (List.length v.2.2 - Int.toNat (1 : Int)) (List.drop (Int.toNat (1 : Int)) v.2.2)) + 1 < LIM)) <|
     g1 (v.1, List.set (List.set (List.set v.2.1 (Int.toNat (List.getD v.2.2 (Int.toNat (0 : Int)) 0)) (w64 (List.getD v.2.1 (Int.toNat (List.getD v.2.2 (Int.toNat (0 : Int)) 0)) 0 + w64 (List.getD v.2.1 (Int.toNat (w64 (List.getD v.2.2 (Int.toNat (0 : Int)) 0 * 2 ^ min (Int.toNat (1 : Int)) (IntKind.bits IntKind.i64)))) 0 + List.getD v.2.1 (Int.toNat (w64 (zz (BitVec.toNat (BitVec.ofInt (IntKind.bits IntKind.i64) (w64 (List.getD v.2.2 (Int.toNat (0 : Int)) 0 * 2 ^ min (Int.toNat (1 : Int)) (IntKind.bits IntKind.i64))) ||| BitVec.ofInt (IntKind.bits IntKind.i64) (1 : Int)))))) 0)))) (Int.toNat (w64 (List.getD v.2.2 (Int.toNat (0 : Int)) 0 * 2 ^ min (Int.toNat (1 : Int)) (IntKind.bits IntKind.i64)))) (0 : Int)) (Int.toNat (w64 (zz (BitVec.toNat (BitVec.ofInt (IntKind.bits IntKind.i64) (w64 (List.getD v.2.2 (Int.toNat (0 : Int)) 0 * 2 ^ min (Int.toNat (1 : Int)) (IntKind.bits IntKind.i64))) ||| BitVec.ofInt (IntKind.bits IntKind.i64) (1 : Int)))))) (0 : Int), List.take (List.length v.2.2 - Int.toNat (1 : Int)) (List.drop (Int.toNat (1 : Int)) v.2.2) ++ [Int.fdiv (List.getD v.2.2 (Int.toNat (0 : Int)) 0) (2 ^ min (Int.toNat (1 : Int)) (IntKind.bits IntKind.i64))]))
    (g1 (v.1, List.set (List.set (List.set v.2.1 (Int.toNat (List.getD v.2.2 (Int.toNat (0 : Int)) 0)) (w64 (List.getD v.2.1 (Int.toNat (List.getD v.2.2 (Int.toNat (0 : Int)) 0)) 0 + w64 (List.getD v.2.1 (Int.toNat (w64 (List.getD v.2.2 (Int.toNat (0 : Int)) 0 * 2 ^ min (Int.toNat (1 : Int)) (IntKind.bits IntKind.i64)))) 0 + List.getD v.2.1 (Int.toNat (w64 (zz (BitVec.toNat (BitVec.ofInt (IntKind.bits IntKind.i64) (w64 (List.getD v.2.2 (Int.toNat (0 : Int)) 0 * 2 ^ min (Int.toNat (1 : Int)) (IntKind.bits IntKind.i64))) ||| BitVec.ofInt (IntKind.bits IntKind.i64) (1 : Int)))))) 0)))) (Int.toNat (w64 (List.getD v.2.2 (Int.toNat (0 : Int)) 0 * 2 ^ min (Int.toNat (1 : Int)) (IntKind.bits IntKind.i64)))) (0 : Int)) (Int.toNat (w64 (zz (BitVec.toNat (BitVec.ofInt (IntKind.bits IntKind.i64) (w64 (List.getD v.2.2 (Int.toNat (0 : Int)) 0 * 2 ^ min (Int.toNat (1 : Int)) (IntKind.bits IntKind.i64))) ||| BitVec.ofInt (IntKind.bits IntKind.i64) (1 : Int)))))) (0 : Int), List.take (List.length v.2.2 - Int.toNat (1 : Int)) (List.drop (Int.toNat (1 : Int)) v.2.2))))
   (cond (w64 (zz (BitVec.toNat (BitVec.ofInt (IntKind.bits IntKind.i64) (List.getD v.2.2 (Int.toNat (0 : Int)) 0) &&& BitVec.ofInt (IntKind.bits IntKind.i64) (1 : Int)))) == (0 : Int))
    (tst (decide (List.length (List.take (List.length v.2.2 - Int.toNat (1 : Int)) (List.drop (Int.toNat (1 : Int)) v.2.2)) + 1 < LIM)) <|
     g1 (v.1, v.2.1, List.take (List.length v.2.2 - Int.toNat (1 : Int)) (List.drop (Int.toNat (1 : Int)) v.2.2) ++ [Int.fdiv (List.getD v.2.2 (Int.toNat (0 : Int)) 0) (2 ^ min (Int.toNat (1 : Int)) (IntKind.bits IntKind.i64))]))
    (g1 (v.1, v.2.1, List.take (List.length v.2.2 - Int.toNat (1 : Int)) (List.drop (Int.toNat (1 : Int)) v.2.2)))))
  (cond (w64 (zz (BitVec.toNat (BitVec.ofInt (IntKind.bits IntKind.i64) (List.getD v.2.2 (Int.toNat (0 : Int)) 0) &&& BitVec.ofInt (IntKind.bits IntKind.i64) (1 : Int)))) == (0 : Int))
   (tst (decide (List.length (List.take (List.length v.2.2 - Int.toNat (1 : Int)) (List.drop (Int.toNat (1 : Int)) v.2.2)) + 1 < LIM)) <|
    g1 (v.1, v.2.1, List.take (List.length v.2.2 - Int.toNat (1 : Int)) (List.drop (Int.toNat (1 : Int)) v.2.2) ++ [Int.fdiv (List.getD v.2.2 (Int.toNat (0 : Int)) 0) (2 ^ min (Int.toNat (1 : Int)) (IntKind.bits IntKind.i64))]))
   (g1 (v.1, v.2.1, List.take (List.length v.2.2 - Int.toNat (1 : Int)) (List.drop (Int.toNat (1 : Int)) v.2.2)))))
 (some ((v.2.1, ())))
def impl_knotNums_squeeze_st1 (fuel : Nat) (g1 : impl_knotNums_squeeze_V1 → Option ((List Int) × Unit)) : impl_knotNums_squeeze_V1 → Option ((List Int) × Unit) := impl_knotNums_squeeze_step1 fuel g1
theorem impl_knotNums_squeeze_lp1 (fuel : Nat) (G) : impl_knotNums_squeeze_c.lp (impl_knotNums_squeeze_T fuel) 1 fuel G (endU impl_knotNums_squeeze_rv impl_knotNums_squeeze_rf impl_knotNums_squeeze_rs) 1 impl_knotNums_squeeze_enc1 = iter (impl_knotNums_squeeze_st1 fuel) fuel := C.lp_iter fun g v => by kernel_rfl
def impl_knotNums_squeeze_step0 (fuel : Nat) (X1 : impl_knotNums_squeeze_V1 → Option ((List Int) × Unit)) (g0 : impl_knotNums_squeeze_V0 → Option ((List Int) × Unit)) (v : impl_knotNums_squeeze_V0) : Option ((List Int) × Unit) :=
 cond (decide (v.1 ≥ (32 : Int)))
 (tst (decide (List.length v.2.2.2 + 1 < LIM)) <|
  g0 (w64 (v.1 - (1 : Int)), v.2.1, v.2.2.1, v.2.2.2 ++ [v.1]))
 (X1 (v.2.1, v.2.2.1, v.2.2.2))
def impl_knotNums_squeeze_st0 (fuel : Nat) (g0 : impl_knotNums_squeeze_V0 → Option ((List Int) × Unit)) : impl_knotNums_squeeze_V0 → Option ((List Int) × Unit) := impl_knotNums_squeeze_step0 fuel (iter (impl_knotNums_squeeze_st1 fuel) fuel) g0
theorem impl_knotNums_squeeze_lp0 (fuel : Nat) (G) : impl_knotNums_squeeze_c.lp (impl_knotNums_squeeze_T fuel) 1 fuel G (endU impl_knotNums_squeeze_rv impl_knotNums_squeeze_rf impl_knotNums_squeeze_rs) 0 impl_knotNums_squeeze_enc0 = iter (impl_knotNums_squeeze_st0 fuel) fuel := C.lp_iter fun g v =>
  (show run (impl_knotNums_squeeze_T fuel) 1 fuel (impl_knotNums_squeeze_c.bdAt 0) (impl_knotNums_squeeze_enc0 v).1 (impl_knotNums_squeeze_enc0 v).2 (loopK 1 (impl_knotNums_squeeze_c.nmAt 0) g (impl_knotNums_squeeze_c.contAt (impl_knotNums_squeeze_T fuel) 1 fuel G 0 0 (endU impl_knotNums_squeeze_rv impl_knotNums_squeeze_rf impl_knotNums_squeeze_rs))) = impl_knotNums_squeeze_step0 fuel (impl_knotNums_squeeze_c.lp (impl_knotNums_squeeze_T fuel) 1 fuel (fun m => bif Nat.beq m 0 then g else G m) (endU impl_knotNums_squeeze_rv impl_knotNums_squeeze_rf impl_knotNums_squeeze_rs) 1 impl_knotNums_squeeze_enc1) (fun v => g (impl_knotNums_squeeze_enc0 v).1 (impl_knotNums_squeeze_enc0 v).2) v by kernel_rfl).trans (by rw [impl_knotNums_squeeze_lp1]; rfl)
def impl_knotNums_squeeze_pre (fuel : Nat) (X0 : impl_knotNums_squeeze_V0 → Option ((List Int) × Unit)) (d0 : List Int) (x0 : Int) : Option ((List Int) × Unit) :=
 X0 ((63 : Int), x0, d0, List.replicate (Int.toNat (0 : Int)) 0)
def impl_knotNums_squeeze_fn (fuel : Nat) (z : (List Int) × ((Int × Unit) × Unit)) : Option ((List Int) × Unit) := impl_knotNums_squeeze_pre fuel (iter (impl_knotNums_squeeze_st0 fuel) fuel) z.1 z.2.1.1
theorem impl_knotNums_squeeze_run (fuel : Nat) (c : Rf.T impl_knotNums_squeeze_rf) (x : PsT impl_knotNums_squeeze_ps) : run (impl_knotNums_squeeze_T fuel) 1 fuel impl_knotNums_squeeze_c ((0, .ptr 0 0) :: env0 (svPs impl_knotNums_squeeze_ps x) 1) [impl_knotNums_squeeze_rf.blk c] (endU impl_knotNums_squeeze_rv impl_knotNums_squeeze_rf impl_knotNums_squeeze_rs) = impl_knotNums_squeeze_fn fuel (c, x) :=
  (show run (impl_knotNums_squeeze_T fuel) 1 fuel impl_knotNums_squeeze_c ((0, .ptr 0 0) :: env0 (svPs impl_knotNums_squeeze_ps x) 1) [impl_knotNums_squeeze_rf.blk c] (endU impl_knotNums_squeeze_rv impl_knotNums_squeeze_rf impl_knotNums_squeeze_rs) = impl_knotNums_squeeze_pre fuel (impl_knotNums_squeeze_c.lp (impl_knotNums_squeeze_T fuel) 1 fuel (fun _ _ _ => none) (endU impl_knotNums_squeeze_rv impl_knotNums_squeeze_rf impl_knotNums_squeeze_rs) 0 impl_knotNums_squeeze_enc0) c x.1.1 by kernel_rfl).trans (by rw [impl_knotNums_squeeze_lp0]; rfl)
def impl_knotNums_squeeze_tf (fuel : Nat) : TFU := ⟨impl_knotNums_squeeze_rf, impl_knotNums_squeeze_ps, impl_knotNums_squeeze_rs, impl_knotNums_squeeze_fn fuel⟩
theorem impl_knotNums_squeeze_spec (fuel : Nat) : FnSpecU Tryz.prog 156 (impl_knotNums_squeeze_tf fuel) :=
  fn_specU (T := impl_knotNums_squeeze_T fuel) (c := bodyOf Tryz.f156) (fn := Tryz.f156) (TabOK.of (entNil) (methNil)) mixed (by kernel_rfl) (by kernel_rfl) impl_knotNums_squeeze_l (by kernel_rfl) (Nat.le_of_ble_eq_true (by kernel_rfl)) (rv := impl_knotNums_squeeze_rv) (by kernel_rfl) (impl_knotNums_squeeze_run fuel)
theorem impl_knotNums_squeeze_ok (fuel : Nat) : EntryOK Tryz.prog 156 (impl_knotNums_squeeze_tf fuel).te := EntryOK.tfu (impl_knotNums_squeeze_spec fuel) (isFn (fn := Tryz.f156) (by kernel_rfl) (by kernel_rfl) (by kernel_rfl))
abbrev impl_rankSum_R := Option ((LP × (Int × Unit)) × Unit)
def impl_rankSum_T (fuel : Nat) : Tab := Tab.of [(155, (impl_knotNums_addKnots_tf fuel).te), (156, (impl_knotNums_squeeze_tf fuel).te)] []
abbrev impl_rankSum_ps : List Pm := [{ cs := [(Kd.list KP, false), (I6, false)], ag := true }, { cs := [(Kd.list KP, false), (I6, false)], ag := true }]
abbrev impl_rankSum_rs : List Pm := [{ cs := [(Kd.list KP, true), (I6, false)], ag := true }]
def impl_rankSum_ann : List Norm := [{ live := [24, 23, 7, 6, 4], fix := [(7, none, KP, true)] }]
noncomputable def impl_rankSum_c : C := irOf Tryz.prog Tryz.f105 [] impl_rankSum_ann []
theorem impl_rankSum_l : lightC Tryz.prog [] Tryz.f105.ntmps impl_rankSum_ann [] 0 (bodyOf Tryz.f105) = some (impl_rankSum_c, 1) := by kernel_rfl
def impl_rankSum_rv : List (Nat × Option (Nat × Bool)) := [(4, some (2, true))]
abbrev impl_rankSum_V0 := (Int) × (List Int) × (Int) × LP × (Int)
def impl_rankSum_enc0 (v : impl_rankSum_V0) : Env × Heap := ([(24, SV.int .i64 v.1), (23, SV.arrv I6 v.2.1), (7, SV.own 0), (6, SV.int .i64 v.2.2.1), (4, SV.ptr 1 0)], [Blk.arr KP v.2.2.2.1 0, Blk.cells [SV.nils, SV.int .i64 v.2.2.2.2] 0 2])
def impl_rankSum_step0 (fuel : Nat) (g0 : impl_rankSum_V0 → impl_rankSum_R) (v : impl_rankSum_V0) : impl_rankSum_R :=
 cond (decide (v.1 < (128 : Int)))
 (tst (decide (0 ≤ v.1)) <|
  tst (decide (v.1 < (zz 128))) <|
  tst (decide (v.1 < (zz (List.length v.2.1)))) <|
  cond (decide (List.getD v.2.1 (Int.toNat v.1) 0 > (0 : Int)))
  (tst (decide (List.length v.2.2.2.1 + 1 < LIM)) <|
   g0 (w64 (v.1 + (1 : Int)), v.2.1, v.2.2.1, v.2.2.2.1 ++ [(v.1, List.getD v.2.1 (Int.toNat v.1) 0, ())], v.2.2.2.2))
  (g0 (w64 (v.1 + (1 : Int)), v.2.1, v.2.2.1, v.2.2.2.1, v.2.2.2.2)))
 (some (((v.2.2.2.1, v.2.2.1, ()), ())))
def impl_rankSum_st0 (fuel : Nat) (g0 : impl_rankSum_V0 → impl_rankSum_R) : impl_rankSum_V0 → impl_rankSum_R := impl_rankSum_step0 fuel g0
theorem impl_rankSum_lp0 (fuel : Nat) (G) : impl_rankSum_c.lp (impl_rankSum_T fuel) 0 fuel G (endF impl_rankSum_rv impl_rankSum_rs) 0 impl_rankSum_enc0 = iter (impl_rankSum_st0 fuel) fuel := C.lp_iter fun g v => by kernel_rfl
def impl_rankSum_pre (fuel : Nat) (X0 : impl_rankSum_V0 → impl_rankSum_R) (x0 : LP) (x1 : Int) (x2 : LP) (x3 : Int) : impl_rankSum_R :=
 Option.bind (impl_knotNums_addKnots_fn fuel (List.replicate 128 0, (x0, ()), ())) fun y_1 =>
 Option.bind (impl_knotNums_addKnots_fn fuel (y_1.1, (x2, ()), ())) fun y_2 =>
  Option.bind (impl_knotNums_squeeze_fn fuel (y_2.1, (w64 (x1 + x3), ()), ())) fun y_3 =>
   tst (Nat.beq (List.length y_3.1 * Kd.sz I6) 128) <|
    X0 ((0 : Int), y_3.1, w64 (x1 + x3), [], (0 : Int))
def impl_rankSum_fn (fuel : Nat) (x : ((LP × (Int × Unit)) × ((LP × (Int × Unit)) × Unit))) : impl_rankSum_R := impl_rankSum_pre fuel (iter (impl_rankSum_st0 fuel) fuel) x.1.1 x.1.2.1 x.2.1.1 x.2.1.2.1
theorem impl_rankSum_run (fuel : Nat) (x : PsT impl_rankSum_ps) : run (impl_rankSum_T fuel) 0 fuel impl_rankSum_c (env0 (svPs impl_rankSum_ps x) 0) [] (endF impl_rankSum_rv impl_rankSum_rs) = impl_rankSum_fn fuel x :=
  (show run (impl_rankSum_T fuel) 0 fuel impl_rankSum_c (env0 (svPs impl_rankSum_ps x) 0) [] (endF impl_rankSum_rv impl_rankSum_rs) = impl_rankSum_pre fuel (impl_rankSum_c.lp (impl_rankSum_T fuel) 0 fuel (fun _ _ _ => none) (endF impl_rankSum_rv impl_rankSum_rs) 0 impl_rankSum_enc0) x.1.1 x.1.2.1 x.2.1.1 x.2.1.2.1 by kernel_rfl).trans (by rw [impl_rankSum_lp0]; rfl)
def impl_rankSum_tf (fuel : Nat) : TF := ⟨impl_rankSum_ps, impl_rankSum_rs, true, impl_rankSum_fn fuel⟩
theorem impl_rankSum_spec (fuel : Nat) : FnSpec Tryz.prog 105 (impl_rankSum_tf fuel) :=
  fn_spec (T := impl_rankSum_T fuel) (c := bodyOf Tryz.f105) (fn := Tryz.f105) (TabOK.of (entCons (impl_knotNums_addKnots_ok fuel) (entCons (impl_knotNums_squeeze_ok fuel) entNil)) (methNil)) mixed (by kernel_rfl) (by kernel_rfl) impl_rankSum_l (by kernel_rfl) (Nat.le_of_ble_eq_true (by kernel_rfl)) (rv := impl_rankSum_rv) (by kernel_rfl) (impl_rankSum_run fuel)
theorem impl_rankSum_ok (fuel : Nat) : EntryOK Tryz.prog 105 (impl_rankSum_tf fuel).te := EntryOK.tf rfl (impl_rankSum_spec fuel) (isFn (fn := Tryz.f105) (by kernel_rfl) (by kernel_rfl) (by kernel_rfl))
def impl_RankAdd_T (fuel : Nat) : Tab := Tab.of [(86, (impl_isThing_tf fuel).te), (94, (impl_RankOk_tf fuel).te), (105, (impl_rankSum_tf fuel).te)] []
abbrev impl_RankAdd_ps : List Pm := [{ cs := [(Kd.list KP, false), (I6, false)], ag := true }, { cs := [(I6, false)], ag := false }]
abbrev impl_RankAdd_rs : List Pm := [{ cs := [(Kd.list KP, true), (I6, false)], ag := true }, { cs := [(Kd.bool, false)], ag := false }]
def impl_RankAdd_ann : List Norm := []
noncomputable def impl_RankAdd_c : C := irOf Tryz.prog Tryz.f65 [] impl_RankAdd_ann []
theorem impl_RankAdd_l : lightC Tryz.prog [] Tryz.f65.ntmps impl_RankAdd_ann [] 0 (bodyOf Tryz.f65) = some (impl_RankAdd_c, 0) := by kernel_rfl
def impl_RankAdd_rv : List (Nat × Option (Nat × Bool)) := [(4, some (2, true)), (5, none)]
def impl_RankAdd_pre (fuel : Nat) (x0 : LP) (x1 : Int) (x2 : Int) : Option ((LP × (Int × Unit)) × ((Bool × Unit) × Unit)) :=
 Option.bind (impl_RankOk_fn fuel ((x0, x1, ()), ())) fun y_1 =>
 cond (!y_1.1.1)
  (some ((([], (0 : Int), ()), (false, ()), ())))
  (Option.bind (impl_isThing_fn fuel ((x2, ()), ())) fun y_3 =>
   cond (!y_3.1.1)
    (some ((([], (0 : Int), ()), (false, ()), ())))
    (cond (x1 == (2000 : Int))
     (some ((([], (0 : Int), ()), (false, ()), ())))
     (Option.bind (impl_rankSum_fn fuel ((x0, x1, ()), ([(w64 ((64 : Int) + x2), (1 : Int), ())], (1 : Int), ()), ())) fun y_6 =>
      some (((y_6.1.1, y_6.1.2.1, ()), (true, ()), ())))))
def impl_RankAdd_fn (fuel : Nat) (x : ((LP × (Int × Unit)) × ((Int × Unit) × Unit))) : Option ((LP × (Int × Unit)) × ((Bool × Unit) × Unit)) := impl_RankAdd_pre fuel x.1.1 x.1.2.1 x.2.1.1
theorem impl_RankAdd_run (fuel : Nat) (x : PsT impl_RankAdd_ps) : run (impl_RankAdd_T fuel) 0 fuel impl_RankAdd_c (env0 (svPs impl_RankAdd_ps x) 0) [] (endF impl_RankAdd_rv impl_RankAdd_rs) = impl_RankAdd_fn fuel x := by kernel_rfl
def impl_RankAdd_tf (fuel : Nat) : TF := ⟨impl_RankAdd_ps, impl_RankAdd_rs, true, impl_RankAdd_fn fuel⟩
theorem impl_RankAdd_spec (fuel : Nat) : FnSpec Tryz.prog 65 (impl_RankAdd_tf fuel) :=
  fn_spec (T := impl_RankAdd_T fuel) (c := bodyOf Tryz.f65) (fn := Tryz.f65) (TabOK.of (entCons (impl_isThing_ok fuel) (entCons (impl_RankOk_ok fuel) (entCons (impl_rankSum_ok fuel) entNil))) (methNil)) mixed (by kernel_rfl) (by kernel_rfl) impl_RankAdd_l (by kernel_rfl) (Nat.le_of_ble_eq_true (by kernel_rfl)) (rv := impl_RankAdd_rv) (by kernel_rfl) (impl_RankAdd_run fuel)
theorem impl_RankAdd_ok (fuel : Nat) : EntryOK Tryz.prog 65 (impl_RankAdd_tf fuel).te := EntryOK.tf rfl (impl_RankAdd_spec fuel) (isFn (fn := Tryz.f65) (by kernel_rfl) (by kernel_rfl) (by kernel_rfl))
def impl_Rank_with_T (fuel : Nat) : Tab := Tab.of [(65, (impl_RankAdd_tf fuel).te)] []
abbrev impl_Rank_with_ps : Sh := (.agg (.cell (Kd.list KP) 0 (.cell I6 0 .nil)) (.cell I6 0 .nil))
abbrev impl_Rank_with_rs : Sh := (.ifc 35 (.agg (.cell (Kd.list KP) 0 (.cell I6 0 .nil)) .nil) (.cell Kd.bool 0 .nil))
def impl_Rank_with_ann : List Norm := []
noncomputable def impl_Rank_with_c : C := irOf Tryz.prog Tryz.f239 [] impl_Rank_with_ann []
theorem impl_Rank_with_l : lightC Tryz.prog [] Tryz.f239.ntmps impl_Rank_with_ann [] 0 (bodyOf Tryz.f239) = some (impl_Rank_with_c, 0) := by kernel_rfl
def impl_Rank_with_rv : List (Nat × Option (Nat × Bool)) := [(4, none), (5, none)]
def impl_Rank_with_pre (fuel : Nat) (x0 : LP) (x1 : Int) (x2 : Int) : Option (((LP × (Int × Unit)) × Unit) × (Bool × Unit)) :=
 Option.bind (impl_RankAdd_fn fuel ((x0, x1, ()), (x2, ()), ())) fun y_1 =>
 some ((((y_1.1.1, y_1.1.2.1, ()), ()), y_1.2.1.1, ()))
def impl_Rank_with_fn (fuel : Nat) (x : ((LP × (Int × Unit)) × (Int × Unit))) : Option (((LP × (Int × Unit)) × Unit) × (Bool × Unit)) := impl_Rank_with_pre fuel x.1.1 x.1.2.1 x.2.1
theorem impl_Rank_with_run (fuel : Nat) (x : Sh.T impl_Rank_with_ps) : run (impl_Rank_with_T fuel) 0 fuel impl_Rank_with_c (env0 (svS impl_Rank_with_ps x) 0) [] (endG impl_Rank_with_rv impl_Rank_with_rs) = impl_Rank_with_fn fuel x := by kernel_rfl
def impl_Rank_with_tf (fuel : Nat) : TG := ⟨impl_Rank_with_ps, impl_Rank_with_rs, false, impl_Rank_with_fn fuel⟩
theorem impl_Rank_with_spec (fuel : Nat) : FnSpecG Tryz.prog 239 (impl_Rank_with_tf fuel) :=
  fn_specG (T := impl_Rank_with_T fuel) (c := bodyOf Tryz.f239) (fn := Tryz.f239) (TabOK.of (entCons (impl_RankAdd_ok fuel) entNil) (methNil)) mixed (by kernel_rfl) (by kernel_rfl) impl_Rank_with_l (by kernel_rfl) (Nat.le_of_ble_eq_true (by kernel_rfl)) (rv := impl_Rank_with_rv) (by kernel_rfl) (fun x y h => (impl_Rank_with_run fuel x).trans h)
theorem impl_Rank_with_ok (fuel : Nat) : EntryOK Tryz.prog 239 (impl_Rank_with_tf fuel).te := EntryOK.tg rfl (impl_Rank_with_spec fuel) (isFn (fn := Tryz.f239) (by kernel_rfl) (by kernel_rfl) (by kernel_rfl))
def impl_Sum_counted_T (fuel : Nat) : Tab := Tab.of [(82, (impl_Sum_ways_tf fuel).te), (104, (impl_sumFrom_tf fuel).te), (233, (impl_Rough_with_tf fuel).te), (235, (impl_Few_with_tf fuel).te), (237, (impl_Top_with_tf fuel).te), (239, (impl_Rank_with_tf fuel).te)] [(27, "loop.example/inkling/impl.with", 233), (29, "loop.example/inkling/impl.with", 235), (32, "loop.example/inkling/impl.with", 237), (35, "loop.example/inkling/impl.with", 239)]
abbrev impl_Sum_counted_ps : List Pm := [{ cs := [(Kd.list (Kd.list I6), false), (Kd.list I6, false), (Kd.list KP, false), (I6, false), (I6, false), (Kd.list KP, false), (I6, false)], ag := true }, { cs := [(I6, false)], ag := false }]
abbrev impl_Sum_counted_rs : List Pm := [{ cs := [(Kd.list (Kd.list I6), false), (Kd.list I6, false), (Kd.list KP, false), (I6, false), (I6, false), (Kd.list KP, false), (I6, false)], ag := true }, { cs := [(Kd.bool, false)], ag := false }]
def impl_Sum_counted_ann : List Norm := [{ live := [14, 13, 1, 4, 6], fix := [] }]
noncomputable def impl_Sum_counted_c : C := irOf Tryz.prog Tryz.f80 [] impl_Sum_counted_ann []
theorem impl_Sum_counted_l : lightC Tryz.prog [] Tryz.f80.ntmps impl_Sum_counted_ann [] 0 (bodyOf Tryz.f80) = some (impl_Sum_counted_c, 1) := by kernel_rfl
def impl_Sum_counted_rv : List (Nat × Option (Nat × Bool)) := [(4, some (7, true)), (5, none)]
def impl_Sum_counted_pre (fuel : Nat) (x0 : List (List Int)) (x1 : List Int) (x2 : LP) (x3 : Int) (x4 : Int) (x5 : LP) (x6 : Int) (x7 : Int) : Option (SumY × ((Bool × Unit) × Unit)) :=
 Option.bind (impl_Sum_ways_fn fuel ((x0, x1, x2, x3, x4, x5, x6, ()), ())) fun y_1 =>
 Option.bind (impl_Rough_with_fn fuel ((y_1.1.1.1.1, ()), x7, ())) fun y_2 =>
  cond (!y_2.2.1)
   (some ((([], [], [], (0 : Int), (0 : Int), [], (0 : Int), ()), (false, ()), ())))
   (Option.bind (impl_Few_with_fn fuel ((y_1.1.2.1.1.1, ()), x7, ())) fun y_4 =>
    cond (!y_4.2.1)
     (some ((([], [], [], (0 : Int), (0 : Int), [], (0 : Int), ()), (false, ()), ())))
     (Option.bind (impl_Top_with_fn fuel ((y_1.1.2.2.1.1.1, y_1.1.2.2.1.1.2.1, y_1.1.2.2.1.1.2.2.1, ()), x7, ())) fun y_6 =>
      cond (!y_6.2.1)
       (some ((([], [], [], (0 : Int), (0 : Int), [], (0 : Int), ()), (false, ()), ())))
       (Option.bind (impl_Rank_with_fn fuel ((y_1.1.2.2.2.1.1.1, y_1.1.2.2.2.1.1.2.1, ()), x7, ())) fun y_8 =>
        cond (!y_8.2.1)
         (some ((([], [], [], (0 : Int), (0 : Int), [], (0 : Int), ()), (false, ()), ())))
         (Option.bind (impl_sumFrom_fn fuel ((((y_2.1.1.1, ()), ()), ((y_4.1.1.1, ()), ()), ((y_6.1.1.1, y_6.1.1.2.1, y_6.1.1.2.2.1, ()), ()), ((y_8.1.1.1, y_8.1.1.2.1, ()), ()), ()), ())) fun y_10 =>
          some (((y_10.1.1, y_10.1.2.1, y_10.1.2.2.1, y_10.1.2.2.2.1, y_10.1.2.2.2.2.1, y_10.1.2.2.2.2.2.1, y_10.1.2.2.2.2.2.2.1, ()), (true, ()), ()))))))
def impl_Sum_counted_fn (fuel : Nat) (x : (SumY × ((Int × Unit) × Unit))) : Option (SumY × ((Bool × Unit) × Unit)) := impl_Sum_counted_pre fuel x.1.1 x.1.2.1 x.1.2.2.1 x.1.2.2.2.1 x.1.2.2.2.2.1 x.1.2.2.2.2.2.1 x.1.2.2.2.2.2.2.1 x.2.1.1
theorem impl_Sum_counted_run (fuel : Nat) (x : PsT impl_Sum_counted_ps) : run (impl_Sum_counted_T fuel) 0 (fuel + 6) impl_Sum_counted_c (env0 (svPs impl_Sum_counted_ps x) 0) [] (endF impl_Sum_counted_rv impl_Sum_counted_rs) = impl_Sum_counted_fn fuel x := by kernel_rfl
def impl_Sum_counted_tf (fuel : Nat) : TF := ⟨impl_Sum_counted_ps, impl_Sum_counted_rs, false, impl_Sum_counted_fn fuel⟩
theorem impl_Sum_counted_spec (fuel : Nat) : FnSpec Tryz.prog 80 (impl_Sum_counted_tf fuel) :=
  fn_spec (T := impl_Sum_counted_T fuel) (c := bodyOf Tryz.f80) (fn := Tryz.f80) (TabOK.of (entCons (impl_Sum_ways_ok fuel) (entCons (impl_sumFrom_ok fuel) (entCons (impl_Rough_with_ok fuel) (entCons (impl_Few_with_ok fuel) (entCons (impl_Top_with_ok fuel) (entCons (impl_Rank_with_ok fuel) entNil)))))) (methCons (fun v args w => by kernel_rfl) (methCons (fun v args w => by kernel_rfl) (methCons (fun v args w => by kernel_rfl) (methCons (fun v args w => by kernel_rfl) (methNil)))))) mixed (by kernel_rfl) (by kernel_rfl) impl_Sum_counted_l (by kernel_rfl) (Nat.le_of_ble_eq_true (by kernel_rfl)) (rv := impl_Sum_counted_rv) (by kernel_rfl) (impl_Sum_counted_run fuel)
theorem impl_Sum_counted_ok (fuel : Nat) : EntryOK Tryz.prog 80 (impl_Sum_counted_tf fuel).te := EntryOK.tf rfl (impl_Sum_counted_spec fuel) (isFn (fn := Tryz.f80) (by kernel_rfl) (by kernel_rfl) (by kernel_rfl))
end Go.Proofs.YtdgdoeknpakmlaaGreat.Den
namespace Go.Proofs.YtdgdoeknpakmlaaGreat.Den
open Go Go.RowKit
set_option linter.unusedVariables false
set_option linter.unusedSimpArgs false
end Go.Proofs.YtdgdoeknpakmlaaGreat.Den
namespace Go.Proofs.YtdgdoeknpakmlaaGreat.Den
open Go Go.RowKit
set_option linter.unusedVariables false
set_option linter.unusedSimpArgs false
end Go.Proofs.YtdgdoeknpakmlaaGreat.Den
namespace Go.Proofs.YtdgdoeknpakmlaaGreat.Den
open Go Go.RowKit
set_option linter.unusedVariables false
set_option linter.unusedSimpArgs false
inductive spec_RoughJoin_V0 where
  | c0 (v : (List (List Int)) × (List Int) × (List Int) × (List Int))
  | c1 (v : (List (List Int)) × (List Int) × (List Int) × (List Int))
  | c2 (v : (List (List Int)) × (List Int) × (List Int) × (List Int))
  | c3 (v : (List (List Int)) × (List Int) × (List Int) × (List Int))
inductive spec_RoughJoin_V1 where
  | c0 (v : (Int) × (List (List Int)) × (List Int) × (List Int) × (List Int))
  | c1 (v : (Int) × (List (List Int)) × (List Int) × (List Int) × (List Int))
  | c2 (v : (Int) × (List (List Int)) × (List Int) × (List Int) × (List Int))
end Go.Proofs.YtdgdoeknpakmlaaGreat.Den
namespace Go.Proofs.YtdgdoeknpakmlaaGreat.Den
open Go Go.RowKit
set_option linter.unusedVariables false
set_option linter.unusedSimpArgs false
end Go.Proofs.YtdgdoeknpakmlaaGreat.Den
namespace Go.Proofs.YtdgdoeknpakmlaaGreat.Den
open Go Go.RowKit
set_option linter.unusedVariables false
set_option linter.unusedSimpArgs false
def impl_RoughNew_x0_T (fuel : Nat) : Tab := Tab.of [] []
def impl_RoughNew_x0_ann : List Norm := [{ live := [6, 5, 1, 0], fix := [] }]
noncomputable def impl_RoughNew_x0_c : C := irOf Tryz.prog Tryz.f83 [3] impl_RoughNew_x0_ann []
theorem impl_RoughNew_x0_l : lightC Tryz.prog [3] Tryz.f83.ntmps impl_RoughNew_x0_ann [] 0 (bodyOf Tryz.f83) = some (impl_RoughNew_x0_c, 1) := by kernel_rfl
def impl_RoughNew_x0_rv : List (Nat × Option (Nat × Bool)) := [(0, some (1, true))]
noncomputable def impl_RoughNew_x0_ie (fuel : Nat) : IE := inlIE 0 (impl_RoughNew_x0_T fuel) (fuel + 6) impl_RoughNew_x0_c impl_RoughNew_x0_rv
theorem impl_RoughNew_x0_ok (fuel : Nat) : ISound Tryz.prog 83 (impl_RoughNew_x0_ie fuel) :=
  inl_sound (T := impl_RoughNew_x0_T fuel) (c := bodyOf Tryz.f83) (fn := Tryz.f83) (TabOK.of (entNil) (methNil)) mixed (by kernel_rfl) (by kernel_rfl) impl_RoughNew_x0_l (by kernel_rfl) (Nat.le_of_ble_eq_true (by kernel_rfl)) (rv := impl_RoughNew_x0_rv) (by kernel_rfl) (isFn (fn := Tryz.f83) (by kernel_rfl) (by kernel_rfl) (by kernel_rfl))
noncomputable def impl_SumNew_x0_T (fuel : Nat) : Tab := Tab.ofI [] [] [(83, impl_RoughNew_x0_ie fuel)]
def impl_SumNew_x0_ann : List Norm := []
noncomputable def impl_SumNew_x0_c : C := irOf Tryz.prog Tryz.f36 [1] impl_SumNew_x0_ann []
theorem impl_SumNew_x0_l : lightC Tryz.prog [1] Tryz.f36.ntmps impl_SumNew_x0_ann [] 0 (bodyOf Tryz.f36) = some (impl_SumNew_x0_c, 0) := by kernel_rfl
def impl_SumNew_x0_rv : List (Nat × Option (Nat × Bool)) := [(0, some (7, true))]
noncomputable def impl_SumNew_x0_ie (fuel : Nat) : IE := inlIE 0 (impl_SumNew_x0_T fuel) fuel impl_SumNew_x0_c impl_SumNew_x0_rv
theorem impl_SumNew_x0_ok (fuel : Nat) : ISound Tryz.prog 36 (impl_SumNew_x0_ie fuel) :=
  inl_sound (T := impl_SumNew_x0_T fuel) (c := bodyOf Tryz.f36) (fn := Tryz.f36) (TabOK.ofI (entNil) (methNil) (inlCons (impl_RoughNew_x0_ok fuel) (inlNil))) mixed (by kernel_rfl) (by kernel_rfl) impl_SumNew_x0_l (by kernel_rfl) (Nat.le_of_ble_eq_true (by kernel_rfl)) (rv := impl_SumNew_x0_rv) (by kernel_rfl) (isFn (fn := Tryz.f36) (by kernel_rfl) (by kernel_rfl) (by kernel_rfl))
def impl_sumFrom_x0_T (fuel : Nat) : Tab := Tab.of [] []
def impl_sumFrom_x0_ann : List Norm := [{ live := [11, 10, 3, 2], fix := [] }]
noncomputable def impl_sumFrom_x0_c : C := irOf Tryz.prog Tryz.f104 [] impl_sumFrom_x0_ann []
theorem impl_sumFrom_x0_l : lightC Tryz.prog [] Tryz.f104.ntmps impl_sumFrom_x0_ann [] 0 (bodyOf Tryz.f104) = some (impl_sumFrom_x0_c, 1) := by kernel_rfl
def impl_sumFrom_x0_rv : List (Nat × Option (Nat × Bool)) := [(2, some (7, true))]
noncomputable def impl_sumFrom_x0_ie (fuel : Nat) : IE := inlIE 1 (impl_sumFrom_x0_T fuel) (fuel + 6) impl_sumFrom_x0_c impl_sumFrom_x0_rv
theorem impl_sumFrom_x0_ok (fuel : Nat) : ISound Tryz.prog 104 (impl_sumFrom_x0_ie fuel) :=
  inl_sound (T := impl_sumFrom_x0_T fuel) (c := bodyOf Tryz.f104) (fn := Tryz.f104) (TabOK.of (entNil) (methNil)) mixed (by kernel_rfl) (by kernel_rfl) impl_sumFrom_x0_l (by kernel_rfl) (Nat.le_of_ble_eq_true (by kernel_rfl)) (rv := impl_sumFrom_x0_rv) (by kernel_rfl) (isFn (fn := Tryz.f104) (by kernel_rfl) (by kernel_rfl) (by kernel_rfl))
def impl_RoughAdd_x0_T (fuel : Nat) : Tab := Tab.of [(43, (impl_RoughPlace_tf fuel).te), (47, (impl_RoughAll_tf fuel).te), (83, (impl_RoughNew_tf fuel).te), (86, (impl_isThing_tf fuel).te), (89, (impl_RoughOk_tf fuel).te), (112, (impl_roughSum_tf fuel).te)] []
abbrev impl_RoughAdd_x0_ps : Sh := (.agg (.cell (Kd.list (Kd.list I6)) 0 .nil) (.cell I6 0 (.cell I6 0 .nil)))
abbrev impl_RoughAdd_x0_rs : Sh := (.agg (.cell (Kd.list (Kd.list I6)) 5 .nil) (.cell Kd.bool 0 .nil))
def impl_RoughAdd_x0_ann : List Norm := [{ live := [36, 35, 8, 1, 2, 6], fix := [] }]
noncomputable def impl_RoughAdd_x0_c : C := irOf Tryz.prog Tryz.f62 [] impl_RoughAdd_x0_ann []
theorem impl_RoughAdd_x0_l : lightC Tryz.prog [] Tryz.f62.ntmps impl_RoughAdd_x0_ann [] 0 (bodyOf Tryz.f62) = some (impl_RoughAdd_x0_c, 1) := by kernel_rfl
def impl_RoughAdd_x0_rv : List (Nat × Option (Nat × Bool)) := [(6, some (1, true)), (7, none)]
def impl_RoughAdd_x0_pre (fuel : Nat) (x0 : List (List Int)) (x1 : Int) (x2 : Int) : Option (((List (List Int)) × Unit) × (Bool × Unit)) :=
 Option.bind (impl_RoughOk_fn fuel ((x0, ()), ())) fun y_1 =>
 cond (!y_1.1.1)
  (none)
  (Option.bind (impl_isThing_fn fuel ((x1, ()), ())) fun y_3 =>
   cond (!y_3.1.1)
    (none)
    (cond (decide (x2 < (0 : Int)))
     (none)
     (Option.bind (impl_RoughAll_fn fuel ((x0, ()), ())) fun y_6 =>
      cond (decide (x2 > w64 ((2000 : Int) - y_6.1.1)))
       (none)
       (Option.bind (impl_RoughNew_fn fuel ()) fun y_8 =>
        Option.bind (impl_roughSum_fn fuel ((x0, ()), (y_8.1.1, ()), ())) fun y_9 =>
         Option.bind (impl_RoughPlace_fn fuel (((0 : Int), ()), (x1, ()), ())) fun y_10 =>
          tst (decide (0 ≤ y_10.1.1)) <|
           tst (decide (y_10.1.1 < (zz (List.length (List.getD y_9.1.1 0 []))))) <|
           tst (decide (Int.toNat y_10.1.1 < List.length (List.getD y_9.1.1 0 []))) <|
           tst (decide (0 ≤ y_10.1.1)) <|
           tst (decide (y_10.1.1 < (zz (List.length (List.getD y_9.1.1 0 []))))) <|
           tst (decide (Int.toNat y_10.1.1 < List.length (List.getD y_9.1.1 0 []))) <|
           let z1_4 := List.set (List.getD y_9.1.1 0 []) (Int.toNat y_10.1.1) (w64 (List.getD (List.getD y_9.1.1 0 []) (Int.toNat y_10.1.1) 0 + x2))
           Option.bind (impl_RoughPlace_fn fuel (((1 : Int), ()), (x1, ()), ())) fun y_11 =>
           tst (decide (0 ≤ y_11.1.1)) <|
            tst (decide (y_11.1.1 < (zz (List.length (List.getD y_9.1.1 1 []))))) <|
            tst (decide (Int.toNat y_11.1.1 < List.length (List.getD y_9.1.1 1 []))) <|
            tst (decide (0 ≤ y_11.1.1)) <|
            tst (decide (y_11.1.1 < (zz (List.length (List.getD y_9.1.1 1 []))))) <|
            tst (decide (Int.toNat y_11.1.1 < List.length (List.getD y_9.1.1 1 []))) <|
            let z2_5 := List.set (List.getD y_9.1.1 1 []) (Int.toNat y_11.1.1) (w64 (List.getD (List.getD y_9.1.1 1 []) (Int.toNat y_11.1.1) 0 + x2))
            Option.bind (impl_RoughPlace_fn fuel (((2 : Int), ()), (x1, ()), ())) fun y_12 =>
            tst (decide (0 ≤ y_12.1.1)) <|
             tst (decide (y_12.1.1 < (zz (List.length (List.getD y_9.1.1 2 []))))) <|
             tst (decide (Int.toNat y_12.1.1 < List.length (List.getD y_9.1.1 2 []))) <|
             tst (decide (0 ≤ y_12.1.1)) <|
             tst (decide (y_12.1.1 < (zz (List.length (List.getD y_9.1.1 2 []))))) <|
             tst (decide (Int.toNat y_12.1.1 < List.length (List.getD y_9.1.1 2 []))) <|
             let z3_6 := List.set (List.getD y_9.1.1 2 []) (Int.toNat y_12.1.1) (w64 (List.getD (List.getD y_9.1.1 2 []) (Int.toNat y_12.1.1) 0 + x2))
             some ((([z1_4, z2_5, z3_6], ()), true, ()))))))
def impl_RoughAdd_x0_fn (fuel : Nat) (x : (((List (List Int)) × Unit) × (Int × (Int × Unit)))) : Option (((List (List Int)) × Unit) × (Bool × Unit)) := impl_RoughAdd_x0_pre fuel x.1.1 x.2.1 x.2.2.1
theorem impl_RoughAdd_x0_run (fuel : Nat) (x : Sh.T impl_RoughAdd_x0_ps) : run (impl_RoughAdd_x0_T fuel) 0 (fuel + 6) impl_RoughAdd_x0_c (env0 (svS impl_RoughAdd_x0_ps x) 0) [] (endG impl_RoughAdd_x0_rv impl_RoughAdd_x0_rs) = impl_RoughAdd_x0_fn fuel x := by kernel_rfl
def impl_RoughAdd_x0_tf (fuel : Nat) : TG := ⟨impl_RoughAdd_x0_ps, impl_RoughAdd_x0_rs, true, impl_RoughAdd_x0_fn fuel⟩
theorem impl_RoughAdd_x0_spec (fuel : Nat) : FnSpecG Tryz.prog 62 (impl_RoughAdd_x0_tf fuel) :=
  fn_specG (T := impl_RoughAdd_x0_T fuel) (c := bodyOf Tryz.f62) (fn := Tryz.f62) (TabOK.of (entCons (impl_RoughPlace_ok fuel) (entCons (impl_RoughAll_ok fuel) (entCons (impl_RoughNew_ok fuel) (entCons (impl_isThing_ok fuel) (entCons (impl_RoughOk_ok fuel) (entCons (impl_roughSum_ok fuel) entNil)))))) (methNil)) mixed (by kernel_rfl) (by kernel_rfl) impl_RoughAdd_x0_l (by kernel_rfl) (Nat.le_of_ble_eq_true (by kernel_rfl)) (rv := impl_RoughAdd_x0_rv) (by kernel_rfl) (fun x y h => (impl_RoughAdd_x0_run fuel x).trans h)
theorem impl_RoughAdd_x0_ok (fuel : Nat) : EntryOK Tryz.prog 62 (impl_RoughAdd_x0_tf fuel).te := EntryOK.tg rfl (impl_RoughAdd_x0_spec fuel) (isFn (fn := Tryz.f62) (by kernel_rfl) (by kernel_rfl) (by kernel_rfl))
def impl_Rough_with_x0_T (fuel : Nat) : Tab := Tab.of [(62, (impl_RoughAdd_x0_tf fuel).te)] []
abbrev impl_Rough_with_x0_ps : Sh := (.agg (.cell (Kd.list (Kd.list I6)) 0 .nil) (.cell I6 0 .nil))
abbrev impl_Rough_with_x0_rs : Sh := (.ifc 27 (.agg (.cell (Kd.list (Kd.list I6)) 5 .nil) .nil) (.cell Kd.bool 0 .nil))
def impl_Rough_with_x0_ann : List Norm := []
noncomputable def impl_Rough_with_x0_c : C := irOf Tryz.prog Tryz.f233 [] impl_Rough_with_x0_ann []
theorem impl_Rough_with_x0_l : lightC Tryz.prog [] Tryz.f233.ntmps impl_Rough_with_x0_ann [] 0 (bodyOf Tryz.f233) = some (impl_Rough_with_x0_c, 0) := by kernel_rfl
def impl_Rough_with_x0_rv : List (Nat × Option (Nat × Bool)) := [(4, none), (5, none)]
def impl_Rough_with_x0_pre (fuel : Nat) (x0 : List (List Int)) (x1 : Int) : Option ((((List (List Int)) × Unit) × Unit) × (Bool × Unit)) :=
 Option.bind (impl_RoughAdd_x0_fn fuel ((x0, ()), x1, (1 : Int), ())) fun y_1 =>
 some (((([List.getD y_1.1.1 0 [], List.getD y_1.1.1 1 [], List.getD y_1.1.1 2 []], ()), ()), y_1.2.1, ()))
def impl_Rough_with_x0_fn (fuel : Nat) (x : (((List (List Int)) × Unit) × (Int × Unit))) : Option ((((List (List Int)) × Unit) × Unit) × (Bool × Unit)) := impl_Rough_with_x0_pre fuel x.1.1 x.2.1
theorem impl_Rough_with_x0_run (fuel : Nat) (x : Sh.T impl_Rough_with_x0_ps) : run (impl_Rough_with_x0_T fuel) 0 fuel impl_Rough_with_x0_c (env0 (svS impl_Rough_with_x0_ps x) 0) [] (endG impl_Rough_with_x0_rv impl_Rough_with_x0_rs) = impl_Rough_with_x0_fn fuel x := by kernel_rfl
def impl_Rough_with_x0_tf (fuel : Nat) : TG := ⟨impl_Rough_with_x0_ps, impl_Rough_with_x0_rs, true, impl_Rough_with_x0_fn fuel⟩
theorem impl_Rough_with_x0_spec (fuel : Nat) : FnSpecG Tryz.prog 233 (impl_Rough_with_x0_tf fuel) :=
  fn_specG (T := impl_Rough_with_x0_T fuel) (c := bodyOf Tryz.f233) (fn := Tryz.f233) (TabOK.of (entCons (impl_RoughAdd_x0_ok fuel) entNil) (methNil)) mixed (by kernel_rfl) (by kernel_rfl) impl_Rough_with_x0_l (by kernel_rfl) (Nat.le_of_ble_eq_true (by kernel_rfl)) (rv := impl_Rough_with_x0_rv) (by kernel_rfl) (fun x y h => (impl_Rough_with_x0_run fuel x).trans h)
theorem impl_Rough_with_x0_ok (fuel : Nat) : EntryOK Tryz.prog 233 (impl_Rough_with_x0_tf fuel).te := EntryOK.tg rfl (impl_Rough_with_x0_spec fuel) (isFn (fn := Tryz.f233) (by kernel_rfl) (by kernel_rfl) (by kernel_rfl))
def impl_Few_with_x0_T (fuel : Nat) : Tab := Tab.of [(63, (impl_FewAdd_tf fuel).te)] []
abbrev impl_Few_with_x0_ps : Sh := (.agg (.cell (Kd.list I6) 0 .nil) (.cell I6 0 .nil))
abbrev impl_Few_with_x0_rs : Sh := (.ifc 29 (.agg (.cell (Kd.list I6) 1 .nil) .nil) (.cell Kd.bool 0 .nil))
def impl_Few_with_x0_ann : List Norm := []
noncomputable def impl_Few_with_x0_c : C := irOf Tryz.prog Tryz.f235 [] impl_Few_with_x0_ann []
theorem impl_Few_with_x0_l : lightC Tryz.prog [] Tryz.f235.ntmps impl_Few_with_x0_ann [] 0 (bodyOf Tryz.f235) = some (impl_Few_with_x0_c, 0) := by kernel_rfl
def impl_Few_with_x0_rv : List (Nat × Option (Nat × Bool)) := [(4, none), (5, none)]
def impl_Few_with_x0_pre (fuel : Nat) (x0 : List Int) (x1 : Int) : Option ((((List Int) × Unit) × Unit) × (Bool × Unit)) :=
 Option.bind (impl_FewAdd_fn fuel ((x0, ()), (x1, ()), ())) fun y_1 =>
 some ((((y_1.1.1, ()), ()), y_1.2.1.1, ()))
def impl_Few_with_x0_fn (fuel : Nat) (x : (((List Int) × Unit) × (Int × Unit))) : Option ((((List Int) × Unit) × Unit) × (Bool × Unit)) := impl_Few_with_x0_pre fuel x.1.1 x.2.1
theorem impl_Few_with_x0_run (fuel : Nat) (x : Sh.T impl_Few_with_x0_ps) : run (impl_Few_with_x0_T fuel) 0 fuel impl_Few_with_x0_c (env0 (svS impl_Few_with_x0_ps x) 0) [] (endG impl_Few_with_x0_rv impl_Few_with_x0_rs) = impl_Few_with_x0_fn fuel x := by kernel_rfl
def impl_Few_with_x0_tf (fuel : Nat) : TG := ⟨impl_Few_with_x0_ps, impl_Few_with_x0_rs, true, impl_Few_with_x0_fn fuel⟩
theorem impl_Few_with_x0_spec (fuel : Nat) : FnSpecG Tryz.prog 235 (impl_Few_with_x0_tf fuel) :=
  fn_specG (T := impl_Few_with_x0_T fuel) (c := bodyOf Tryz.f235) (fn := Tryz.f235) (TabOK.of (entCons (impl_FewAdd_ok fuel) entNil) (methNil)) mixed (by kernel_rfl) (by kernel_rfl) impl_Few_with_x0_l (by kernel_rfl) (Nat.le_of_ble_eq_true (by kernel_rfl)) (rv := impl_Few_with_x0_rv) (by kernel_rfl) (fun x y h => (impl_Few_with_x0_run fuel x).trans h)
theorem impl_Few_with_x0_ok (fuel : Nat) : EntryOK Tryz.prog 235 (impl_Few_with_x0_tf fuel).te := EntryOK.tg rfl (impl_Few_with_x0_spec fuel) (isFn (fn := Tryz.f235) (by kernel_rfl) (by kernel_rfl) (by kernel_rfl))
def impl_cutTop_x0_T (fuel : Nat) : Tab := Tab.of [(182, (slices_Clone_impl_Pair_impl_Pair_tf fuel).te), (183, (impl_sortPairs_v0_tf fuel).te), (183, (impl_sortPairs_v1_tf fuel).te)] []
def impl_cutTop_x0_ann : List Norm := [{ live := [26, 25, 24, 4, 5, 1, 2], fix := [] }]
noncomputable def impl_cutTop_x0_c : C := irOf Tryz.prog Tryz.f136 [] impl_cutTop_x0_ann []
theorem impl_cutTop_x0_l : lightC Tryz.prog [] Tryz.f136.ntmps impl_cutTop_x0_ann [] 0 (bodyOf Tryz.f136) = some (impl_cutTop_x0_c, 1) := by kernel_rfl
def impl_cutTop_x0_rv : List (Nat × Option (Nat × Bool)) := [(2, some (3, true))]
noncomputable def impl_cutTop_x0_ie (fuel : Nat) : IE := inlIE 1 (impl_cutTop_x0_T fuel) 0 impl_cutTop_x0_c impl_cutTop_x0_rv
theorem impl_cutTop_x0_ok (fuel : Nat) : ISound Tryz.prog 136 (impl_cutTop_x0_ie fuel) :=
  inl_sound (T := impl_cutTop_x0_T fuel) (c := bodyOf Tryz.f136) (fn := Tryz.f136) (TabOK.of (entCons (slices_Clone_impl_Pair_impl_Pair_ok fuel) (entCons (impl_sortPairs_v0_ok fuel) (entCons (impl_sortPairs_v1_ok fuel) entNil))) (methNil)) mixed (by kernel_rfl) (by kernel_rfl) impl_cutTop_x0_l (by kernel_rfl) (Nat.le_of_ble_eq_true (by kernel_rfl)) (rv := impl_cutTop_x0_rv) (by kernel_rfl) (isFn (fn := Tryz.f136) (by kernel_rfl) (by kernel_rfl) (by kernel_rfl))
abbrev impl_cutTop_x1_R := Option ((LP × (Int × (Int × Unit))) × Unit)
def impl_cutTop_x1_T (fuel : Nat) : Tab := Tab.of [(182, (slices_Clone_impl_Pair_impl_Pair_tf fuel).te), (183, (impl_sortPairs_v0_tf fuel).te), (183, (impl_sortPairs_v1_tf fuel).te)] []
abbrev impl_cutTop_x1_ps : List Pm := [{ cs := [(Kd.list KP, false), (I6, false), (I6, false)], ag := true }]
abbrev impl_cutTop_x1_rs : List Pm := [{ cs := [(Kd.list KP, true), (I6, false), (I6, false)], ag := true }]
def impl_cutTop_x1_ann : List Norm := [{ live := [26, 25, 24, 4, 5, 1, 2], fix := [] }]
noncomputable def impl_cutTop_x1_c : C := irOf Tryz.prog Tryz.f136 [] impl_cutTop_x1_ann []
theorem impl_cutTop_x1_l : lightC Tryz.prog [] Tryz.f136.ntmps impl_cutTop_x1_ann [] 0 (bodyOf Tryz.f136) = some (impl_cutTop_x1_c, 1) := by kernel_rfl
def impl_cutTop_x1_rv : List (Nat × Option (Nat × Bool)) := [(2, some (3, true))]
abbrev impl_cutTop_x1_V0 := (Int) × (Int) × LP × (Int) × LP × LP × (Int) × (Int) × (Int) × (Int)
def impl_cutTop_x1_enc0 (v : impl_cutTop_x1_V0) : Env × Heap := ([(26, SV.int .i64 v.1), (25, SV.int .i64 v.2.1), (24, SV.es KP v.2.2.1), (4, SV.int .i64 v.2.2.2.1), (5, SV.own 0), (1, SV.ptr 1 0), (2, SV.ptr 2 0)], [Blk.arr KP v.2.2.2.2.1 0, Blk.cells [SV.es KP v.2.2.2.2.2.1, SV.int .i64 v.2.2.2.2.2.2.1, SV.int .i64 v.2.2.2.2.2.2.2.1] 0 3, Blk.cells [SV.nils, SV.int .i64 v.2.2.2.2.2.2.2.2.1, SV.int .i64 v.2.2.2.2.2.2.2.2.2] 0 3])
def impl_cutTop_x1_step0 (fuel : Nat) (g0 : impl_cutTop_x1_V0 → impl_cutTop_x1_R) (v : impl_cutTop_x1_V0) : impl_cutTop_x1_R :=
 cond (decide (v.1 < v.2.1))
 (tst (decide (0 ≤ v.1)) <|
  tst (decide (v.1 < (zz (List.length v.2.2.1)))) <|
  cond (decide ((List.getD v.2.2.1 (Int.toNat v.1) (0, (0, ()))).2.1 > v.2.2.2.1))
  (tst (decide (List.length v.2.2.2.2.1 + 1 < LIM)) <|
   g0 (w64 (v.1 + (1 : Int)), v.2.1, v.2.2.1, v.2.2.2.1, v.2.2.2.2.1 ++ [((List.getD v.2.2.1 (Int.toNat v.1) (0, (0, ()))).1, w64 ((List.getD v.2.2.1 (Int.toNat v.1) (0, (0, ()))).2.1 - v.2.2.2.1), ())], v.2.2.2.2.2.1, v.2.2.2.2.2.2.1, v.2.2.2.2.2.2.2.1, v.2.2.2.2.2.2.2.2.1, v.2.2.2.2.2.2.2.2.2))
  (g0 (w64 (v.1 + (1 : Int)), v.2.1, v.2.2.1, v.2.2.2.1, v.2.2.2.2.1, v.2.2.2.2.2.1, v.2.2.2.2.2.2.1, v.2.2.2.2.2.2.2.1, v.2.2.2.2.2.2.2.2.1, v.2.2.2.2.2.2.2.2.2)))
 (some (((v.2.2.2.2.1, w64 (v.2.2.2.2.2.2.1 + v.2.2.2.1), v.2.2.2.2.2.2.2.1, ()), ())))
def impl_cutTop_x1_st0 (fuel : Nat) (g0 : impl_cutTop_x1_V0 → impl_cutTop_x1_R) : impl_cutTop_x1_V0 → impl_cutTop_x1_R := impl_cutTop_x1_step0 fuel g0
theorem impl_cutTop_x1_lp0 (fuel : Nat) (G) : impl_cutTop_x1_c.lp (impl_cutTop_x1_T fuel) 0 fuel G (endF impl_cutTop_x1_rv impl_cutTop_x1_rs) 0 impl_cutTop_x1_enc0 = iter (impl_cutTop_x1_st0 fuel) fuel := C.lp_iter fun g v => by kernel_rfl
def impl_cutTop_x1_pre (fuel : Nat) (X0 : impl_cutTop_x1_V0 → impl_cutTop_x1_R) (x0 : LP) (x1 : Int) (x2 : Int) : impl_cutTop_x1_R :=
 cond (decide ((zz (List.length x0)) ≤ (4 : Int)))
 (none)
 (Option.bind (slices_Clone_impl_Pair_impl_Pair_fn fuel ((x0, ()), ())) fun y_2 =>
  Option.bind (impl_sortPairs_v1_fn fuel (y_2.1.1, (), ())) fun y_3 =>
   tst (decide ((4 : Int) < (zz (List.length y_3.1)))) <|
    tst (decide (Int.toNat (4 : Int) < List.length y_3.1)) <|
    X0 ((0 : Int), (zz (List.length x0)), x0, (List.getD y_3.1 (Int.toNat (4 : Int)) (0, (0, ()))).2.1, List.replicate (Int.toNat (0 : Int)) (0, (0, ())), x0, x1, x2, (0 : Int), (0 : Int)))
def impl_cutTop_x1_fn (fuel : Nat) (x : ((LP × (Int × (Int × Unit))) × Unit)) : impl_cutTop_x1_R := impl_cutTop_x1_pre fuel (iter (impl_cutTop_x1_st0 fuel) fuel) x.1.1 x.1.2.1 x.1.2.2.1
theorem impl_cutTop_x1_run (fuel : Nat) (x : PsT impl_cutTop_x1_ps) : run (impl_cutTop_x1_T fuel) 0 fuel impl_cutTop_x1_c (env0 (svPs impl_cutTop_x1_ps x) 0) [] (endF impl_cutTop_x1_rv impl_cutTop_x1_rs) = impl_cutTop_x1_fn fuel x :=
  (show run (impl_cutTop_x1_T fuel) 0 fuel impl_cutTop_x1_c (env0 (svPs impl_cutTop_x1_ps x) 0) [] (endF impl_cutTop_x1_rv impl_cutTop_x1_rs) = impl_cutTop_x1_pre fuel (impl_cutTop_x1_c.lp (impl_cutTop_x1_T fuel) 0 fuel (fun _ _ _ => none) (endF impl_cutTop_x1_rv impl_cutTop_x1_rs) 0 impl_cutTop_x1_enc0) x.1.1 x.1.2.1 x.1.2.2.1 by kernel_rfl).trans (by rw [impl_cutTop_x1_lp0]; rfl)
def impl_cutTop_x1_tf (fuel : Nat) : TF := ⟨impl_cutTop_x1_ps, impl_cutTop_x1_rs, true, impl_cutTop_x1_fn fuel⟩
theorem impl_cutTop_x1_spec (fuel : Nat) : FnSpec Tryz.prog 136 (impl_cutTop_x1_tf fuel) :=
  fn_spec (T := impl_cutTop_x1_T fuel) (c := bodyOf Tryz.f136) (fn := Tryz.f136) (TabOK.of (entCons (slices_Clone_impl_Pair_impl_Pair_ok fuel) (entCons (impl_sortPairs_v0_ok fuel) (entCons (impl_sortPairs_v1_ok fuel) entNil))) (methNil)) mixed (by kernel_rfl) (by kernel_rfl) impl_cutTop_x1_l (by kernel_rfl) (Nat.le_of_ble_eq_true (by kernel_rfl)) (rv := impl_cutTop_x1_rv) (by kernel_rfl) (impl_cutTop_x1_run fuel)
theorem impl_cutTop_x1_ok (fuel : Nat) : EntryOK Tryz.prog 136 (impl_cutTop_x1_tf fuel).te := EntryOK.tf rfl (impl_cutTop_x1_spec fuel) (isFn (fn := Tryz.f136) (by kernel_rfl) (by kernel_rfl) (by kernel_rfl))
noncomputable def impl_cutTop_or_ie (fuel : Nat) : IE := orIE 4 (impl_cutTop_x0_ie fuel) (teIE (impl_cutTop_x1_tf fuel).te)
theorem impl_cutTop_or_ok (fuel : Nat) : ISound Tryz.prog 136 (impl_cutTop_or_ie fuel) := orIE_sound (impl_cutTop_x0_ok fuel) (teIE_sound (impl_cutTop_x1_ok fuel))
noncomputable def impl_topSum_x0_T (fuel : Nat) : Tab := Tab.ofI [(137, (impl_bothPairs_tf fuel).te)] [] [(136, impl_cutTop_or_ie fuel)]
abbrev impl_topSum_x0_ps : List Pm := [{ cs := [(Kd.list KP, false), (I6, false), (I6, false)], ag := true }, { cs := [(Kd.list KP, false), (I6, false), (I6, false)], ag := true }]
abbrev impl_topSum_x0_rs : List Pm := [{ cs := [(Kd.list KP, true), (I6, false), (I6, false)], ag := true }]
def impl_topSum_x0_ann : List Norm := []
noncomputable def impl_topSum_x0_c : C := irOf Tryz.prog Tryz.f90 [21] impl_topSum_x0_ann []
theorem impl_topSum_x0_l : lightC Tryz.prog [21] Tryz.f90.ntmps impl_topSum_x0_ann [] 0 (bodyOf Tryz.f90) = some (impl_topSum_x0_c, 0) := by kernel_rfl
def impl_topSum_x0_rv : List (Nat × Option (Nat × Bool)) := [(4, some (3, true))]
def impl_topSum_x0_pre (fuel : Nat) (x0 : LP) (x1 : Int) (x2 : Int) (x3 : LP) (x4 : Int) (x5 : Int) : Option ((LP × (Int × (Int × Unit))) × Unit) :=
 Option.bind (impl_bothPairs_fn fuel ((x0, ()), (x3, ()), ())) fun y_1 =>
 cond (decide ((zz (List.length y_1.1.1)) ≤ (zz 4)))
  (cond (decide ((zz (List.length y_1.1.1)) ≤ (4 : Int)))
   (some (((y_1.1.1, w64 (x1 + x4), w64 (x2 + x5), ()), ())))
   (Option.bind (slices_Clone_impl_Pair_impl_Pair_fn fuel ((y_1.1.1, ()), ())) fun y_4 =>
    Option.bind (impl_sortPairs_v1_fn fuel (y_4.1.1, (), ())) fun y_5 =>
     tst (decide ((4 : Int) < (zz (List.length y_5.1)))) <|
      tst (decide (Int.toNat (4 : Int) < List.length y_5.1)) <|
      none))
  (Option.bind (impl_cutTop_x1_fn fuel ((y_1.1.1, w64 (x1 + x4), w64 (x2 + x5), ()), ())) fun y_3 =>
   some (((y_3.1.1, y_3.1.2.1, y_3.1.2.2.1, ()), ())))
def impl_topSum_x0_fn (fuel : Nat) (x : ((LP × (Int × (Int × Unit))) × ((LP × (Int × (Int × Unit))) × Unit))) : Option ((LP × (Int × (Int × Unit))) × Unit) := impl_topSum_x0_pre fuel x.1.1 x.1.2.1 x.1.2.2.1 x.2.1.1 x.2.1.2.1 x.2.1.2.2.1
theorem impl_topSum_x0_run (fuel : Nat) (x : PsT impl_topSum_x0_ps) : run (impl_topSum_x0_T fuel) 0 fuel impl_topSum_x0_c (env0 (svPs impl_topSum_x0_ps x) 0) [] (endF impl_topSum_x0_rv impl_topSum_x0_rs) = impl_topSum_x0_fn fuel x := by kernel_rfl
def impl_topSum_x0_tf (fuel : Nat) : TF := ⟨impl_topSum_x0_ps, impl_topSum_x0_rs, true, impl_topSum_x0_fn fuel⟩
theorem impl_topSum_x0_spec (fuel : Nat) : FnSpec Tryz.prog 90 (impl_topSum_x0_tf fuel) :=
  fn_spec (T := impl_topSum_x0_T fuel) (c := bodyOf Tryz.f90) (fn := Tryz.f90) (TabOK.ofI (entCons (impl_bothPairs_ok fuel) entNil) (methNil) (inlCons (impl_cutTop_or_ok fuel) (inlNil))) mixed (by kernel_rfl) (by kernel_rfl) impl_topSum_x0_l (by kernel_rfl) (Nat.le_of_ble_eq_true (by kernel_rfl)) (rv := impl_topSum_x0_rv) (by kernel_rfl) (impl_topSum_x0_run fuel)
theorem impl_topSum_x0_ok (fuel : Nat) : EntryOK Tryz.prog 90 (impl_topSum_x0_tf fuel).te := EntryOK.tf rfl (impl_topSum_x0_spec fuel) (isFn (fn := Tryz.f90) (by kernel_rfl) (by kernel_rfl) (by kernel_rfl))
def impl_TopAdd_x0_T (fuel : Nat) : Tab := Tab.of [(85, (impl_TopOk_tf fuel).te), (86, (impl_isThing_tf fuel).te), (90, (impl_topSum_x0_tf fuel).te)] []
abbrev impl_TopAdd_x0_ps : List Pm := [{ cs := [(Kd.list KP, false), (I6, false), (I6, false)], ag := true }, { cs := [(I6, false)], ag := false }]
abbrev impl_TopAdd_x0_rs : List Pm := [{ cs := [(Kd.list KP, true), (I6, false), (I6, false)], ag := true }, { cs := [(Kd.bool, false)], ag := false }]
def impl_TopAdd_x0_ann : List Norm := []
noncomputable def impl_TopAdd_x0_c : C := irOf Tryz.prog Tryz.f64 [] impl_TopAdd_x0_ann []
theorem impl_TopAdd_x0_l : lightC Tryz.prog [] Tryz.f64.ntmps impl_TopAdd_x0_ann [] 0 (bodyOf Tryz.f64) = some (impl_TopAdd_x0_c, 0) := by kernel_rfl
def impl_TopAdd_x0_rv : List (Nat × Option (Nat × Bool)) := [(4, some (3, true)), (5, none)]
def impl_TopAdd_x0_pre (fuel : Nat) (x0 : LP) (x1 : Int) (x2 : Int) (x3 : Int) : Option ((LP × (Int × (Int × Unit))) × ((Bool × Unit) × Unit)) :=
 Option.bind (impl_TopOk_fn fuel ((x0, x1, x2, ()), ())) fun y_1 =>
 cond (!y_1.1.1)
  (some ((([], (0 : Int), (0 : Int), ()), (false, ()), ())))
  (Option.bind (impl_isThing_fn fuel ((x3, ()), ())) fun y_3 =>
   cond (!y_3.1.1)
    (some ((([], (0 : Int), (0 : Int), ()), (false, ()), ())))
    (cond (x2 == (2000 : Int))
     (some ((([], (0 : Int), (0 : Int), ()), (false, ()), ())))
     (Option.bind (impl_topSum_x0_fn fuel ((x0, x1, x2, ()), ([(x3, (1 : Int), ())], (0 : Int), (1 : Int), ()), ())) fun y_6 =>
      some (((y_6.1.1, y_6.1.2.1, y_6.1.2.2.1, ()), (true, ()), ())))))
def impl_TopAdd_x0_fn (fuel : Nat) (x : ((LP × (Int × (Int × Unit))) × ((Int × Unit) × Unit))) : Option ((LP × (Int × (Int × Unit))) × ((Bool × Unit) × Unit)) := impl_TopAdd_x0_pre fuel x.1.1 x.1.2.1 x.1.2.2.1 x.2.1.1
theorem impl_TopAdd_x0_run (fuel : Nat) (x : PsT impl_TopAdd_x0_ps) : run (impl_TopAdd_x0_T fuel) 0 fuel impl_TopAdd_x0_c (env0 (svPs impl_TopAdd_x0_ps x) 0) [] (endF impl_TopAdd_x0_rv impl_TopAdd_x0_rs) = impl_TopAdd_x0_fn fuel x := by kernel_rfl
def impl_TopAdd_x0_tf (fuel : Nat) : TF := ⟨impl_TopAdd_x0_ps, impl_TopAdd_x0_rs, true, impl_TopAdd_x0_fn fuel⟩
theorem impl_TopAdd_x0_spec (fuel : Nat) : FnSpec Tryz.prog 64 (impl_TopAdd_x0_tf fuel) :=
  fn_spec (T := impl_TopAdd_x0_T fuel) (c := bodyOf Tryz.f64) (fn := Tryz.f64) (TabOK.of (entCons (impl_TopOk_ok fuel) (entCons (impl_isThing_ok fuel) (entCons (impl_topSum_x0_ok fuel) entNil))) (methNil)) mixed (by kernel_rfl) (by kernel_rfl) impl_TopAdd_x0_l (by kernel_rfl) (Nat.le_of_ble_eq_true (by kernel_rfl)) (rv := impl_TopAdd_x0_rv) (by kernel_rfl) (impl_TopAdd_x0_run fuel)
theorem impl_TopAdd_x0_ok (fuel : Nat) : EntryOK Tryz.prog 64 (impl_TopAdd_x0_tf fuel).te := EntryOK.tf rfl (impl_TopAdd_x0_spec fuel) (isFn (fn := Tryz.f64) (by kernel_rfl) (by kernel_rfl) (by kernel_rfl))
def impl_Top_with_x0_T (fuel : Nat) : Tab := Tab.of [(64, (impl_TopAdd_x0_tf fuel).te)] []
abbrev impl_Top_with_x0_ps : Sh := (.agg (.cell (Kd.list KP) 0 (.cell I6 0 (.cell I6 0 .nil))) (.cell I6 0 .nil))
abbrev impl_Top_with_x0_rs : Sh := (.ifc 32 (.agg (.cell (Kd.list KP) 1 (.cell I6 0 (.cell I6 0 .nil))) .nil) (.cell Kd.bool 0 .nil))
def impl_Top_with_x0_ann : List Norm := []
noncomputable def impl_Top_with_x0_c : C := irOf Tryz.prog Tryz.f237 [] impl_Top_with_x0_ann []
theorem impl_Top_with_x0_l : lightC Tryz.prog [] Tryz.f237.ntmps impl_Top_with_x0_ann [] 0 (bodyOf Tryz.f237) = some (impl_Top_with_x0_c, 0) := by kernel_rfl
def impl_Top_with_x0_rv : List (Nat × Option (Nat × Bool)) := [(4, none), (5, none)]
def impl_Top_with_x0_pre (fuel : Nat) (x0 : LP) (x1 : Int) (x2 : Int) (x3 : Int) : Option (((LP × (Int × (Int × Unit))) × Unit) × (Bool × Unit)) :=
 Option.bind (impl_TopAdd_x0_fn fuel ((x0, x1, x2, ()), (x3, ()), ())) fun y_1 =>
 some ((((y_1.1.1, y_1.1.2.1, y_1.1.2.2.1, ()), ()), y_1.2.1.1, ()))
def impl_Top_with_x0_fn (fuel : Nat) (x : ((LP × (Int × (Int × Unit))) × (Int × Unit))) : Option (((LP × (Int × (Int × Unit))) × Unit) × (Bool × Unit)) := impl_Top_with_x0_pre fuel x.1.1 x.1.2.1 x.1.2.2.1 x.2.1
theorem impl_Top_with_x0_run (fuel : Nat) (x : Sh.T impl_Top_with_x0_ps) : run (impl_Top_with_x0_T fuel) 0 fuel impl_Top_with_x0_c (env0 (svS impl_Top_with_x0_ps x) 0) [] (endG impl_Top_with_x0_rv impl_Top_with_x0_rs) = impl_Top_with_x0_fn fuel x := by kernel_rfl
def impl_Top_with_x0_tf (fuel : Nat) : TG := ⟨impl_Top_with_x0_ps, impl_Top_with_x0_rs, true, impl_Top_with_x0_fn fuel⟩
theorem impl_Top_with_x0_spec (fuel : Nat) : FnSpecG Tryz.prog 237 (impl_Top_with_x0_tf fuel) :=
  fn_specG (T := impl_Top_with_x0_T fuel) (c := bodyOf Tryz.f237) (fn := Tryz.f237) (TabOK.of (entCons (impl_TopAdd_x0_ok fuel) entNil) (methNil)) mixed (by kernel_rfl) (by kernel_rfl) impl_Top_with_x0_l (by kernel_rfl) (Nat.le_of_ble_eq_true (by kernel_rfl)) (rv := impl_Top_with_x0_rv) (by kernel_rfl) (fun x y h => (impl_Top_with_x0_run fuel x).trans h)
theorem impl_Top_with_x0_ok (fuel : Nat) : EntryOK Tryz.prog 237 (impl_Top_with_x0_tf fuel).te := EntryOK.tg rfl (impl_Top_with_x0_spec fuel) (isFn (fn := Tryz.f237) (by kernel_rfl) (by kernel_rfl) (by kernel_rfl))
def impl_Rank_with_x0_T (fuel : Nat) : Tab := Tab.of [(65, (impl_RankAdd_tf fuel).te)] []
abbrev impl_Rank_with_x0_ps : Sh := (.agg (.cell (Kd.list KP) 0 (.cell I6 0 .nil)) (.cell I6 0 .nil))
abbrev impl_Rank_with_x0_rs : Sh := (.ifc 35 (.agg (.cell (Kd.list KP) 1 (.cell I6 0 .nil)) .nil) (.cell Kd.bool 0 .nil))
def impl_Rank_with_x0_ann : List Norm := []
noncomputable def impl_Rank_with_x0_c : C := irOf Tryz.prog Tryz.f239 [] impl_Rank_with_x0_ann []
theorem impl_Rank_with_x0_l : lightC Tryz.prog [] Tryz.f239.ntmps impl_Rank_with_x0_ann [] 0 (bodyOf Tryz.f239) = some (impl_Rank_with_x0_c, 0) := by kernel_rfl
def impl_Rank_with_x0_rv : List (Nat × Option (Nat × Bool)) := [(4, none), (5, none)]
def impl_Rank_with_x0_pre (fuel : Nat) (x0 : LP) (x1 : Int) (x2 : Int) : Option (((LP × (Int × Unit)) × Unit) × (Bool × Unit)) :=
 Option.bind (impl_RankAdd_fn fuel ((x0, x1, ()), (x2, ()), ())) fun y_1 =>
 some ((((y_1.1.1, y_1.1.2.1, ()), ()), y_1.2.1.1, ()))
def impl_Rank_with_x0_fn (fuel : Nat) (x : ((LP × (Int × Unit)) × (Int × Unit))) : Option (((LP × (Int × Unit)) × Unit) × (Bool × Unit)) := impl_Rank_with_x0_pre fuel x.1.1 x.1.2.1 x.2.1
theorem impl_Rank_with_x0_run (fuel : Nat) (x : Sh.T impl_Rank_with_x0_ps) : run (impl_Rank_with_x0_T fuel) 0 fuel impl_Rank_with_x0_c (env0 (svS impl_Rank_with_x0_ps x) 0) [] (endG impl_Rank_with_x0_rv impl_Rank_with_x0_rs) = impl_Rank_with_x0_fn fuel x := by kernel_rfl
def impl_Rank_with_x0_tf (fuel : Nat) : TG := ⟨impl_Rank_with_x0_ps, impl_Rank_with_x0_rs, true, impl_Rank_with_x0_fn fuel⟩
theorem impl_Rank_with_x0_spec (fuel : Nat) : FnSpecG Tryz.prog 239 (impl_Rank_with_x0_tf fuel) :=
  fn_specG (T := impl_Rank_with_x0_T fuel) (c := bodyOf Tryz.f239) (fn := Tryz.f239) (TabOK.of (entCons (impl_RankAdd_ok fuel) entNil) (methNil)) mixed (by kernel_rfl) (by kernel_rfl) impl_Rank_with_x0_l (by kernel_rfl) (Nat.le_of_ble_eq_true (by kernel_rfl)) (rv := impl_Rank_with_x0_rv) (by kernel_rfl) (fun x y h => (impl_Rank_with_x0_run fuel x).trans h)
theorem impl_Rank_with_x0_ok (fuel : Nat) : EntryOK Tryz.prog 239 (impl_Rank_with_x0_tf fuel).te := EntryOK.tg rfl (impl_Rank_with_x0_spec fuel) (isFn (fn := Tryz.f239) (by kernel_rfl) (by kernel_rfl) (by kernel_rfl))
noncomputable def impl_Sum_counted_x0_T (fuel : Nat) : Tab := Tab.ofI [(82, (impl_Sum_ways_tf fuel).te), (233, (impl_Rough_with_x0_tf fuel).te), (235, (impl_Few_with_x0_tf fuel).te), (237, (impl_Top_with_x0_tf fuel).te), (239, (impl_Rank_with_x0_tf fuel).te)] [(27, "loop.example/inkling/impl.with", 233), (29, "loop.example/inkling/impl.with", 235), (32, "loop.example/inkling/impl.with", 237), (35, "loop.example/inkling/impl.with", 239)] [(104, impl_sumFrom_x0_ie fuel)]
abbrev impl_Sum_counted_x0_ps : Sh := (.agg (.cell (Kd.list (Kd.list I6)) 0 (.cell (Kd.list I6) 0 (.cell (Kd.list KP) 0 (.cell I6 0 (.cell I6 0 (.cell (Kd.list KP) 0 (.cell I6 0 .nil))))))) (.cell I6 0 .nil))
abbrev impl_Sum_counted_x0_rs : Sh := (.agg (.cell (Kd.list (Kd.list I6)) 5 (.cell (Kd.list I6) 1 (.cell (Kd.list KP) 1 (.cell I6 0 (.cell I6 0 (.cell (Kd.list KP) 1 (.cell I6 0 .nil))))))) (.cell Kd.bool 0 .nil))
def impl_Sum_counted_x0_ann : List Norm := [{ live := [14, 13, 1, 4, 6], fix := [] }]
noncomputable def impl_Sum_counted_x0_c : C := irOf Tryz.prog Tryz.f80 [32] impl_Sum_counted_x0_ann []
theorem impl_Sum_counted_x0_l : lightC Tryz.prog [32] Tryz.f80.ntmps impl_Sum_counted_x0_ann [] 0 (bodyOf Tryz.f80) = some (impl_Sum_counted_x0_c, 1) := by kernel_rfl
def impl_Sum_counted_x0_rv : List (Nat × Option (Nat × Bool)) := [(4, some (7, true)), (5, none)]
def impl_Sum_counted_x0_pre (fuel : Nat) (x0 : List (List Int)) (x1 : List Int) (x2 : LP) (x3 : Int) (x4 : Int) (x5 : LP) (x6 : Int) (x7 : Int) : Option (SumY × (Bool × Unit)) :=
 Option.bind (impl_Sum_ways_fn fuel ((x0, x1, x2, x3, x4, x5, x6, ()), ())) fun y_1 =>
 Option.bind (impl_Rough_with_x0_fn fuel ((y_1.1.1.1.1, ()), x7, ())) fun y_2 =>
  cond (!y_2.2.1)
   (none)
   (Option.bind (impl_Few_with_x0_fn fuel ((y_1.1.2.1.1.1, ()), x7, ())) fun y_4 =>
    cond (!y_4.2.1)
     (none)
     (Option.bind (impl_Top_with_x0_fn fuel ((y_1.1.2.2.1.1.1, y_1.1.2.2.1.1.2.1, y_1.1.2.2.1.1.2.2.1, ()), x7, ())) fun y_6 =>
      cond (!y_6.2.1)
       (none)
       (Option.bind (impl_Rank_with_x0_fn fuel ((y_1.1.2.2.2.1.1.1, y_1.1.2.2.2.1.1.2.1, ()), x7, ())) fun y_8 =>
        cond (!y_8.2.1)
         (none)
         (some ((([List.getD y_2.1.1.1 0 [], List.getD y_2.1.1.1 1 [], List.getD y_2.1.1.1 2 []], y_4.1.1.1, y_6.1.1.1, y_6.1.1.2.1, y_6.1.1.2.2.1, y_8.1.1.1, y_8.1.1.2.1, ()), true, ()))))))
def impl_Sum_counted_x0_fn (fuel : Nat) (x : (SumY × (Int × Unit))) : Option (SumY × (Bool × Unit)) := impl_Sum_counted_x0_pre fuel x.1.1 x.1.2.1 x.1.2.2.1 x.1.2.2.2.1 x.1.2.2.2.2.1 x.1.2.2.2.2.2.1 x.1.2.2.2.2.2.2.1 x.2.1
theorem impl_Sum_counted_x0_run (fuel : Nat) (x : Sh.T impl_Sum_counted_x0_ps) : run (impl_Sum_counted_x0_T fuel) 0 (fuel + 6) impl_Sum_counted_x0_c (env0 (svS impl_Sum_counted_x0_ps x) 0) [] (endG impl_Sum_counted_x0_rv impl_Sum_counted_x0_rs) = impl_Sum_counted_x0_fn fuel x := by kernel_rfl
def impl_Sum_counted_x0_tf (fuel : Nat) : TG := ⟨impl_Sum_counted_x0_ps, impl_Sum_counted_x0_rs, true, impl_Sum_counted_x0_fn fuel⟩
theorem impl_Sum_counted_x0_spec (fuel : Nat) : FnSpecG Tryz.prog 80 (impl_Sum_counted_x0_tf fuel) :=
  fn_specG (T := impl_Sum_counted_x0_T fuel) (c := bodyOf Tryz.f80) (fn := Tryz.f80) (TabOK.ofI (entCons (impl_Sum_ways_ok fuel) (entCons (impl_Rough_with_x0_ok fuel) (entCons (impl_Few_with_x0_ok fuel) (entCons (impl_Top_with_x0_ok fuel) (entCons (impl_Rank_with_x0_ok fuel) entNil))))) (methCons (fun v args w => by kernel_rfl) (methCons (fun v args w => by kernel_rfl) (methCons (fun v args w => by kernel_rfl) (methCons (fun v args w => by kernel_rfl) (methNil))))) (inlCons (impl_sumFrom_x0_ok fuel) (inlNil))) mixed (by kernel_rfl) (by kernel_rfl) impl_Sum_counted_x0_l (by kernel_rfl) (Nat.le_of_ble_eq_true (by kernel_rfl)) (rv := impl_Sum_counted_x0_rv) (by kernel_rfl) (fun x y h => (impl_Sum_counted_x0_run fuel x).trans h)
theorem impl_Sum_counted_x0_ok (fuel : Nat) : EntryOK Tryz.prog 80 (impl_Sum_counted_x0_tf fuel).te := EntryOK.tg rfl (impl_Sum_counted_x0_spec fuel) (isFn (fn := Tryz.f80) (by kernel_rfl) (by kernel_rfl) (by kernel_rfl))
end Go.Proofs.YtdgdoeknpakmlaaGreat.Den
namespace Go.Proofs.YtdgdoeknpakmlaaGreat.Den
open Go Go.RowKit
set_option linter.unusedVariables false
set_option linter.unusedSimpArgs false
abbrev impl_SumOf_x0_R := Option (SumY × (Bool × Unit))
noncomputable def impl_SumOf_x0_T (fuel : Nat) : Tab := Tab.ofI [(80, (impl_Sum_counted_x0_tf fuel).te)] [] [(36, impl_SumNew_x0_ie fuel)]
abbrev impl_SumOf_x0_ps : Sh := (.cell (Kd.list I6) 0 .nil)
abbrev impl_SumOf_x0_rs : Sh := (.agg (.cell (Kd.list (Kd.list I6)) 5 (.cell (Kd.list I6) 1 (.cell (Kd.list KP) 1 (.cell I6 0 (.cell I6 0 (.cell (Kd.list KP) 1 (.cell I6 0 .nil))))))) (.cell Kd.bool 0 .nil))
def impl_SumOf_x0_ann : List Norm := [{ live := [12, 11, 10, 4, 2], fix := [(4, some 2, KP, true), (4, some 1, I6, true), (4, some 5, KP, true)] }]
noncomputable def impl_SumOf_x0_c : C := irOf Tryz.prog Tryz.f30 [9] impl_SumOf_x0_ann []
theorem impl_SumOf_x0_l : lightC Tryz.prog [9] Tryz.f30.ntmps impl_SumOf_x0_ann [] 0 (bodyOf Tryz.f30) = some (impl_SumOf_x0_c, 1) := by kernel_rfl
def impl_SumOf_x0_rv : List (Nat × Option (Nat × Bool)) := [(2, some (7, true)), (3, none)]
abbrev impl_SumOf_x0_V0 := (Int) × (Int) × (List Int) × (Int) × (Int) × (Int) × (Int) × (Int) × (Int) × (List Int) × LP × LP × (List Int) × (List Int) × (List Int)
def impl_SumOf_x0_enc0 (v : impl_SumOf_x0_V0) : Env × Heap := ([(12, SV.int .i64 v.1), (11, SV.int .i64 v.2.1), (10, SV.es I6 v.2.2.1), (4, SV.ptr 0 0), (2, SV.ptr 1 0)], [Blk.cells [SV.own 2, SV.own 3, SV.own 4, SV.int .i64 v.2.2.2.1, SV.int .i64 v.2.2.2.2.1, SV.own 5, SV.int .i64 v.2.2.2.2.2.1] 0 7, Blk.cells [SV.nils, SV.nils, SV.nils, SV.int .i64 v.2.2.2.2.2.2.1, SV.int .i64 v.2.2.2.2.2.2.2.1, SV.nils, SV.int .i64 v.2.2.2.2.2.2.2.2.1] 0 7, Blk.cells [SV.own 6, SV.own 7, SV.own 8] 0 1, Blk.arr I6 v.2.2.2.2.2.2.2.2.2.1 0, Blk.arr KP v.2.2.2.2.2.2.2.2.2.2.1 0, Blk.arr KP v.2.2.2.2.2.2.2.2.2.2.2.1 0, Blk.arr I6 v.2.2.2.2.2.2.2.2.2.2.2.2.1 0, Blk.arr I6 v.2.2.2.2.2.2.2.2.2.2.2.2.2.1 0, Blk.arr I6 v.2.2.2.2.2.2.2.2.2.2.2.2.2.2 0])
def impl_SumOf_x0_step0 (fuel : Nat) (g0 : impl_SumOf_x0_V0 → impl_SumOf_x0_R) (v : impl_SumOf_x0_V0) : impl_SumOf_x0_R :=
 cond (decide (v.1 < v.2.1))
 (tst (decide (0 ≤ v.1)) <|
  tst (decide (v.1 < (zz (List.length v.2.2.1)))) <|
  Option.bind (impl_Sum_counted_x0_fn fuel (([v.2.2.2.2.2.2.2.2.2.2.2.2.1, v.2.2.2.2.2.2.2.2.2.2.2.2.2.1, v.2.2.2.2.2.2.2.2.2.2.2.2.2.2], v.2.2.2.2.2.2.2.2.2.1, v.2.2.2.2.2.2.2.2.2.2.1, v.2.2.2.1, v.2.2.2.2.1, v.2.2.2.2.2.2.2.2.2.2.2.1, v.2.2.2.2.2.1, ()), List.getD v.2.2.1 (Int.toNat v.1) 0, ())) fun y_2 =>
  cond (!y_2.2.1)
   (none)
   (g0 (w64 (v.1 + (1 : Int)), v.2.1, v.2.2.1, y_2.1.2.2.2.1, y_2.1.2.2.2.2.1, y_2.1.2.2.2.2.2.2.1, v.2.2.2.2.2.2.1, v.2.2.2.2.2.2.2.1, v.2.2.2.2.2.2.2.2.1, y_2.1.2.1, y_2.1.2.2.1, y_2.1.2.2.2.2.2.1, List.getD y_2.1.1 0 [], List.getD y_2.1.1 1 [], List.getD y_2.1.1 2 [])))
 (some ((([v.2.2.2.2.2.2.2.2.2.2.2.2.1, v.2.2.2.2.2.2.2.2.2.2.2.2.2.1, v.2.2.2.2.2.2.2.2.2.2.2.2.2.2], v.2.2.2.2.2.2.2.2.2.1, v.2.2.2.2.2.2.2.2.2.2.1, v.2.2.2.1, v.2.2.2.2.1, v.2.2.2.2.2.2.2.2.2.2.2.1, v.2.2.2.2.2.1, ()), true, ())))
def impl_SumOf_x0_st0 (fuel : Nat) (g0 : impl_SumOf_x0_V0 → impl_SumOf_x0_R) : impl_SumOf_x0_V0 → impl_SumOf_x0_R := impl_SumOf_x0_step0 fuel g0
theorem impl_SumOf_x0_lp0 (fuel : Nat) (G) : impl_SumOf_x0_c.lp (impl_SumOf_x0_T fuel) 0 fuel G (endG impl_SumOf_x0_rv impl_SumOf_x0_rs) 0 impl_SumOf_x0_enc0 = iter (impl_SumOf_x0_st0 fuel) fuel := C.lp_iter fun g v => by kernel_rfl
def impl_SumOf_x0_pre (fuel : Nat) (X0 : impl_SumOf_x0_V0 → impl_SumOf_x0_R) (x0 : List Int) : impl_SumOf_x0_R :=
 X0 ((0 : Int), (zz (List.length x0)), x0, (0 : Int), (0 : Int), (0 : Int), (0 : Int), (0 : Int), (0 : Int), [], [], [], List.replicate (Int.toNat (8 : Int)) 0, List.replicate (Int.toNat (8 : Int)) 0, List.replicate (Int.toNat (8 : Int)) 0)
def impl_SumOf_x0_fn (fuel : Nat) (x : ((List Int) × Unit)) : impl_SumOf_x0_R := impl_SumOf_x0_pre fuel (iter (impl_SumOf_x0_st0 fuel) fuel) x.1
theorem impl_SumOf_x0_run (fuel : Nat) (x : Sh.T impl_SumOf_x0_ps) : run (impl_SumOf_x0_T fuel) 0 fuel impl_SumOf_x0_c (env0 (svS impl_SumOf_x0_ps x) 0) [] (endG impl_SumOf_x0_rv impl_SumOf_x0_rs) = impl_SumOf_x0_fn fuel x :=
  (show run (impl_SumOf_x0_T fuel) 0 fuel impl_SumOf_x0_c (env0 (svS impl_SumOf_x0_ps x) 0) [] (endG impl_SumOf_x0_rv impl_SumOf_x0_rs) = impl_SumOf_x0_pre fuel (impl_SumOf_x0_c.lp (impl_SumOf_x0_T fuel) 0 fuel (fun _ _ _ => none) (endG impl_SumOf_x0_rv impl_SumOf_x0_rs) 0 impl_SumOf_x0_enc0) x.1 by kernel_rfl).trans (by rw [impl_SumOf_x0_lp0]; rfl)
def impl_SumOf_x0_tf (fuel : Nat) : TG := ⟨impl_SumOf_x0_ps, impl_SumOf_x0_rs, true, impl_SumOf_x0_fn fuel⟩
theorem impl_SumOf_x0_spec (fuel : Nat) : FnSpecG Tryz.prog 30 (impl_SumOf_x0_tf fuel) :=
  fn_specG (T := impl_SumOf_x0_T fuel) (c := bodyOf Tryz.f30) (fn := Tryz.f30) (TabOK.ofI (entCons (impl_Sum_counted_x0_ok fuel) entNil) (methNil) (inlCons (impl_SumNew_x0_ok fuel) (inlNil))) mixed (by kernel_rfl) (by kernel_rfl) impl_SumOf_x0_l (by kernel_rfl) (Nat.le_of_ble_eq_true (by kernel_rfl)) (rv := impl_SumOf_x0_rv) (by kernel_rfl) (fun x y h => (impl_SumOf_x0_run fuel x).trans h)
theorem impl_SumOf_x0_ok (fuel : Nat) : EntryOK Tryz.prog 30 (impl_SumOf_x0_tf fuel).te := EntryOK.tg rfl (impl_SumOf_x0_spec fuel) (isFn (fn := Tryz.f30) (by kernel_rfl) (by kernel_rfl) (by kernel_rfl))
abbrev laws_toIntS_R := Option (((List Int) × Unit) × Unit)
def laws_toIntS_T (fuel : Nat) : Tab := Tab.of [] []
abbrev laws_toIntS_ps : List Pm := [{ cs := [(Kd.list I6, false)], ag := false }]
abbrev laws_toIntS_rs : List Pm := [{ cs := [(Kd.list I6, true)], ag := false }]
def laws_toIntS_ann : List Norm := [{ live := [4, 0, 3], fix := [] }]
noncomputable def laws_toIntS_c : C := irOf Tryz.prog Tryz.f68 [] laws_toIntS_ann []
theorem laws_toIntS_l : lightC Tryz.prog [] Tryz.f68.ntmps laws_toIntS_ann [] 0 (bodyOf Tryz.f68) = some (laws_toIntS_c, 1) := by kernel_rfl
def laws_toIntS_rv : List (Nat × Option (Nat × Bool)) := [(2, none)]
abbrev laws_toIntS_V0 := (Int) × (List Int) × (List Int)
def laws_toIntS_enc0 (v : laws_toIntS_V0) : Env × Heap := ([(4, SV.int .i64 v.1), (0, SV.es I6 v.2.1), (3, SV.own 0)], [Blk.arr I6 v.2.2 0])
def laws_toIntS_step0 (fuel : Nat) (g0 : laws_toIntS_V0 → laws_toIntS_R) (v : laws_toIntS_V0) : laws_toIntS_R :=
 cond (decide (v.1 < (zz (List.length v.2.1))))
 (tst (decide (0 ≤ v.1)) <|
  tst (decide (v.1 < (zz (List.length v.2.1)))) <|
  tst (decide (0 ≤ v.1)) <|
  tst (decide (v.1 < (zz (List.length v.2.2)))) <|
  tst (decide (Int.toNat v.1 < List.length v.2.2)) <|
  g0 (w64 (v.1 + (1 : Int)), v.2.1, List.set v.2.2 (Int.toNat v.1) (List.getD v.2.1 (Int.toNat v.1) 0)))
 (some (((v.2.2, ()), ())))
def laws_toIntS_st0 (fuel : Nat) (g0 : laws_toIntS_V0 → laws_toIntS_R) : laws_toIntS_V0 → laws_toIntS_R := laws_toIntS_step0 fuel g0
theorem laws_toIntS_lp0 (fuel : Nat) (G) : laws_toIntS_c.lp (laws_toIntS_T fuel) 0 fuel G (endF laws_toIntS_rv laws_toIntS_rs) 0 laws_toIntS_enc0 = iter (laws_toIntS_st0 fuel) fuel := C.lp_iter fun g v => by kernel_rfl
def laws_toIntS_pre (fuel : Nat) (X0 : laws_toIntS_V0 → laws_toIntS_R) (x0 : List Int) : laws_toIntS_R :=
 tst (decide (0 ≤ (zz (List.length x0)))) <|
 tst (decide ((zz (List.length x0)) ≤ (zz (List.length x0)))) <|
 tst (decide (Int.toNat (zz (List.length x0)) < LIM)) <|
 X0 ((0 : Int), x0, List.replicate (Int.toNat (zz (List.length x0))) 0)
def laws_toIntS_fn (fuel : Nat) (x : (((List Int) × Unit) × Unit)) : laws_toIntS_R := laws_toIntS_pre fuel (iter (laws_toIntS_st0 fuel) fuel) x.1.1
theorem laws_toIntS_run (fuel : Nat) (x : PsT laws_toIntS_ps) : run (laws_toIntS_T fuel) 0 fuel laws_toIntS_c (env0 (svPs laws_toIntS_ps x) 0) [] (endF laws_toIntS_rv laws_toIntS_rs) = laws_toIntS_fn fuel x :=
  (show run (laws_toIntS_T fuel) 0 fuel laws_toIntS_c (env0 (svPs laws_toIntS_ps x) 0) [] (endF laws_toIntS_rv laws_toIntS_rs) = laws_toIntS_pre fuel (laws_toIntS_c.lp (laws_toIntS_T fuel) 0 fuel (fun _ _ _ => none) (endF laws_toIntS_rv laws_toIntS_rs) 0 laws_toIntS_enc0) x.1.1 by kernel_rfl).trans (by rw [laws_toIntS_lp0]; rfl)
def laws_toIntS_tf (fuel : Nat) : TF := ⟨laws_toIntS_ps, laws_toIntS_rs, true, laws_toIntS_fn fuel⟩
theorem laws_toIntS_spec (fuel : Nat) : FnSpec Tryz.prog 68 (laws_toIntS_tf fuel) :=
  fn_spec (T := laws_toIntS_T fuel) (c := bodyOf Tryz.f68) (fn := Tryz.f68) (TabOK.of (entNil) (methNil)) mixed (by kernel_rfl) (by kernel_rfl) laws_toIntS_l (by kernel_rfl) (Nat.le_of_ble_eq_true (by kernel_rfl)) (rv := laws_toIntS_rv) (by kernel_rfl) (laws_toIntS_run fuel)
theorem laws_toIntS_ok (fuel : Nat) : EntryOK Tryz.prog 68 (laws_toIntS_tf fuel).te := EntryOK.tf rfl (laws_toIntS_spec fuel) (isFn (fn := Tryz.f68) (by kernel_rfl) (by kernel_rfl) (by kernel_rfl))
def laws_eqIntS_T (fuel : Nat) : Tab := Tab.of [] []
abbrev laws_eqIntS_ps : List Pm := [{ cs := [(Kd.list I6, false)], ag := false }, { cs := [(Kd.list I6, false)], ag := false }]
abbrev laws_eqIntS_rs : List Pm := [{ cs := [(Kd.bool, false)], ag := false }]
def laws_eqIntS_ann : List Norm := [{ live := [5, 0, 1], fix := [] }]
noncomputable def laws_eqIntS_c : C := irOf Tryz.prog Tryz.f70 [] laws_eqIntS_ann []
theorem laws_eqIntS_l : lightC Tryz.prog [] Tryz.f70.ntmps laws_eqIntS_ann [] 0 (bodyOf Tryz.f70) = some (laws_eqIntS_c, 1) := by kernel_rfl
def laws_eqIntS_rv : List (Nat × Option (Nat × Bool)) := [(4, none)]
abbrev laws_eqIntS_V0 := (Int) × (List Int) × (List Int)
def laws_eqIntS_enc0 (v : laws_eqIntS_V0) : Env × Heap := ([(5, SV.int .i64 v.1), (0, SV.es I6 v.2.1), (1, SV.es I6 v.2.2)], [])
def laws_eqIntS_step0 (fuel : Nat) (g0 : laws_eqIntS_V0 → Option ((Bool × Unit) × Unit)) (v : laws_eqIntS_V0) : Option ((Bool × Unit) × Unit) :=
 cond (decide (v.1 < (zz (List.length v.2.1))))
 (tst (decide (0 ≤ v.1)) <|
  tst (decide (v.1 < (zz (List.length v.2.1)))) <|
  tst (decide (0 ≤ v.1)) <|
  tst (decide (v.1 < (zz (List.length v.2.2)))) <|
  cond (List.getD v.2.1 (Int.toNat v.1) 0 != List.getD v.2.2 (Int.toNat v.1) 0)
  (some (((false, ()), ())))
  (g0 (w64 (v.1 + (1 : Int)), v.2.1, v.2.2)))
 (some (((true, ()), ())))
def laws_eqIntS_st0 (fuel : Nat) (g0 : laws_eqIntS_V0 → Option ((Bool × Unit) × Unit)) : laws_eqIntS_V0 → Option ((Bool × Unit) × Unit) := laws_eqIntS_step0 fuel g0
theorem laws_eqIntS_lp0 (fuel : Nat) (G) : laws_eqIntS_c.lp (laws_eqIntS_T fuel) 0 fuel G (endF laws_eqIntS_rv laws_eqIntS_rs) 0 laws_eqIntS_enc0 = iter (laws_eqIntS_st0 fuel) fuel := C.lp_iter fun g v => by kernel_rfl
def laws_eqIntS_pre (fuel : Nat) (X0 : laws_eqIntS_V0 → Option ((Bool × Unit) × Unit)) (x0 : List Int) (x1 : List Int) : Option ((Bool × Unit) × Unit) :=
 cond ((zz (List.length x0)) != (zz (List.length x1)))
 (some (((false, ()), ())))
 (X0 ((0 : Int), x0, x1))
def laws_eqIntS_fn (fuel : Nat) (x : (((List Int) × Unit) × (((List Int) × Unit) × Unit))) : Option ((Bool × Unit) × Unit) := laws_eqIntS_pre fuel (iter (laws_eqIntS_st0 fuel) fuel) x.1.1 x.2.1.1
theorem laws_eqIntS_run (fuel : Nat) (x : PsT laws_eqIntS_ps) : run (laws_eqIntS_T fuel) 0 fuel laws_eqIntS_c (env0 (svPs laws_eqIntS_ps x) 0) [] (endF laws_eqIntS_rv laws_eqIntS_rs) = laws_eqIntS_fn fuel x :=
  (show run (laws_eqIntS_T fuel) 0 fuel laws_eqIntS_c (env0 (svPs laws_eqIntS_ps x) 0) [] (endF laws_eqIntS_rv laws_eqIntS_rs) = laws_eqIntS_pre fuel (laws_eqIntS_c.lp (laws_eqIntS_T fuel) 0 fuel (fun _ _ _ => none) (endF laws_eqIntS_rv laws_eqIntS_rs) 0 laws_eqIntS_enc0) x.1.1 x.2.1.1 by kernel_rfl).trans (by rw [laws_eqIntS_lp0]; rfl)
def laws_eqIntS_tf (fuel : Nat) : TF := ⟨laws_eqIntS_ps, laws_eqIntS_rs, true, laws_eqIntS_fn fuel⟩
theorem laws_eqIntS_spec (fuel : Nat) : FnSpec Tryz.prog 70 (laws_eqIntS_tf fuel) :=
  fn_spec (T := laws_eqIntS_T fuel) (c := bodyOf Tryz.f70) (fn := Tryz.f70) (TabOK.of (entNil) (methNil)) mixed (by kernel_rfl) (by kernel_rfl) laws_eqIntS_l (by kernel_rfl) (Nat.le_of_ble_eq_true (by kernel_rfl)) (rv := laws_eqIntS_rv) (by kernel_rfl) (laws_eqIntS_run fuel)
theorem laws_eqIntS_ok (fuel : Nat) : EntryOK Tryz.prog 70 (laws_eqIntS_tf fuel).te := EntryOK.tf rfl (laws_eqIntS_spec fuel) (isFn (fn := Tryz.f70) (by kernel_rfl) (by kernel_rfl) (by kernel_rfl))
def laws_eqIntSS_T (fuel : Nat) : Tab := Tab.of [(70, (laws_eqIntS_tf fuel).te)] []
abbrev laws_eqIntSS_ps : List Pm := [{ cs := [(Kd.list (Kd.list I6), false)], ag := false }, { cs := [(Kd.list (Kd.list I6), false)], ag := false }]
abbrev laws_eqIntSS_rs : List Pm := [{ cs := [(Kd.bool, false)], ag := false }]
def laws_eqIntSS_ann : List Norm := [{ live := [5, 0, 1], fix := [] }]
noncomputable def laws_eqIntSS_c : C := irOf Tryz.prog Tryz.f165 [] laws_eqIntSS_ann []
theorem laws_eqIntSS_l : lightC Tryz.prog [] Tryz.f165.ntmps laws_eqIntSS_ann [] 0 (bodyOf Tryz.f165) = some (laws_eqIntSS_c, 1) := by kernel_rfl
def laws_eqIntSS_rv : List (Nat × Option (Nat × Bool)) := [(4, none)]
abbrev laws_eqIntSS_V0 := (Int) × (List (List Int)) × (List (List Int))
def laws_eqIntSS_enc0 (v : laws_eqIntSS_V0) : Env × Heap := ([(5, SV.int .i64 v.1), (0, SV.es (Kd.list I6) v.2.1), (1, SV.es (Kd.list I6) v.2.2)], [])
def laws_eqIntSS_step0 (fuel : Nat) (g0 : laws_eqIntSS_V0 → Option ((Bool × Unit) × Unit)) (v : laws_eqIntSS_V0) : Option ((Bool × Unit) × Unit) :=
 cond (decide (v.1 < (zz (List.length v.2.1))))
 (tst (decide (0 ≤ v.1)) <|
  tst (decide (v.1 < (zz (List.length v.2.1)))) <|
  tst (decide (0 ≤ v.1)) <|
  tst (decide (v.1 < (zz (List.length v.2.2)))) <|
  Option.bind (laws_eqIntS_fn fuel ((List.getD v.2.1 (Int.toNat v.1) [], ()), (List.getD v.2.2 (Int.toNat v.1) [], ()), ())) fun y_2 =>
  cond (!y_2.1.1)
   (some (((false, ()), ())))
   (g0 (w64 (v.1 + (1 : Int)), v.2.1, v.2.2)))
 (some (((true, ()), ())))
def laws_eqIntSS_st0 (fuel : Nat) (g0 : laws_eqIntSS_V0 → Option ((Bool × Unit) × Unit)) : laws_eqIntSS_V0 → Option ((Bool × Unit) × Unit) := laws_eqIntSS_step0 fuel g0
theorem laws_eqIntSS_lp0 (fuel : Nat) (G) : laws_eqIntSS_c.lp (laws_eqIntSS_T fuel) 0 fuel G (endF laws_eqIntSS_rv laws_eqIntSS_rs) 0 laws_eqIntSS_enc0 = iter (laws_eqIntSS_st0 fuel) fuel := C.lp_iter fun g v => by kernel_rfl
def laws_eqIntSS_pre (fuel : Nat) (X0 : laws_eqIntSS_V0 → Option ((Bool × Unit) × Unit)) (x0 : List (List Int)) (x1 : List (List Int)) : Option ((Bool × Unit) × Unit) :=
 cond ((zz (List.length x0)) != (zz (List.length x1)))
 (some (((false, ()), ())))
 (X0 ((0 : Int), x0, x1))
def laws_eqIntSS_fn (fuel : Nat) (x : (((List (List Int)) × Unit) × (((List (List Int)) × Unit) × Unit))) : Option ((Bool × Unit) × Unit) := laws_eqIntSS_pre fuel (iter (laws_eqIntSS_st0 fuel) fuel) x.1.1 x.2.1.1
theorem laws_eqIntSS_run (fuel : Nat) (x : PsT laws_eqIntSS_ps) : run (laws_eqIntSS_T fuel) 0 fuel laws_eqIntSS_c (env0 (svPs laws_eqIntSS_ps x) 0) [] (endF laws_eqIntSS_rv laws_eqIntSS_rs) = laws_eqIntSS_fn fuel x :=
  (show run (laws_eqIntSS_T fuel) 0 fuel laws_eqIntSS_c (env0 (svPs laws_eqIntSS_ps x) 0) [] (endF laws_eqIntSS_rv laws_eqIntSS_rs) = laws_eqIntSS_pre fuel (laws_eqIntSS_c.lp (laws_eqIntSS_T fuel) 0 fuel (fun _ _ _ => none) (endF laws_eqIntSS_rv laws_eqIntSS_rs) 0 laws_eqIntSS_enc0) x.1.1 x.2.1.1 by kernel_rfl).trans (by rw [laws_eqIntSS_lp0]; rfl)
def laws_eqIntSS_tf (fuel : Nat) : TF := ⟨laws_eqIntSS_ps, laws_eqIntSS_rs, true, laws_eqIntSS_fn fuel⟩
theorem laws_eqIntSS_spec (fuel : Nat) : FnSpec Tryz.prog 165 (laws_eqIntSS_tf fuel) :=
  fn_spec (T := laws_eqIntSS_T fuel) (c := bodyOf Tryz.f165) (fn := Tryz.f165) (TabOK.of (entCons (laws_eqIntS_ok fuel) entNil) (methNil)) mixed (by kernel_rfl) (by kernel_rfl) laws_eqIntSS_l (by kernel_rfl) (Nat.le_of_ble_eq_true (by kernel_rfl)) (rv := laws_eqIntSS_rv) (by kernel_rfl) (laws_eqIntSS_run fuel)
theorem laws_eqIntSS_ok (fuel : Nat) : EntryOK Tryz.prog 165 (laws_eqIntSS_tf fuel).te := EntryOK.tf rfl (laws_eqIntSS_spec fuel) (isFn (fn := Tryz.f165) (by kernel_rfl) (by kernel_rfl) (by kernel_rfl))
def laws_eqRough_T (fuel : Nat) : Tab := Tab.of [(165, (laws_eqIntSS_tf fuel).te)] []
abbrev laws_eqRough_ps : List Pm := [{ cs := [(Kd.list (Kd.list I6), false)], ag := true }, { cs := [(Kd.list (Kd.list I6), false)], ag := true }]
abbrev laws_eqRough_rs : List Pm := [{ cs := [(Kd.bool, false)], ag := false }]
def laws_eqRough_ann : List Norm := []
noncomputable def laws_eqRough_c : C := irOf Tryz.prog Tryz.f114 [] laws_eqRough_ann []
theorem laws_eqRough_l : lightC Tryz.prog [] Tryz.f114.ntmps laws_eqRough_ann [] 0 (bodyOf Tryz.f114) = some (laws_eqRough_c, 0) := by kernel_rfl
def laws_eqRough_rv : List (Nat × Option (Nat × Bool)) := [(4, none)]
def laws_eqRough_pre (fuel : Nat) (x0 : List (List Int)) (x1 : List (List Int)) : Option ((Bool × Unit) × Unit) :=
 Option.bind (laws_eqIntSS_fn fuel ((x0, ()), (x1, ()), ())) fun y_1 =>
 cond (!y_1.1.1)
  (some (((false, ()), ())))
  (some (((true, ()), ())))
def laws_eqRough_fn (fuel : Nat) (x : (((List (List Int)) × Unit) × (((List (List Int)) × Unit) × Unit))) : Option ((Bool × Unit) × Unit) := laws_eqRough_pre fuel x.1.1 x.2.1.1
theorem laws_eqRough_run (fuel : Nat) (x : PsT laws_eqRough_ps) : run (laws_eqRough_T fuel) 0 fuel laws_eqRough_c (env0 (svPs laws_eqRough_ps x) 0) [] (endF laws_eqRough_rv laws_eqRough_rs) = laws_eqRough_fn fuel x := by kernel_rfl
def laws_eqRough_tf (fuel : Nat) : TF := ⟨laws_eqRough_ps, laws_eqRough_rs, true, laws_eqRough_fn fuel⟩
theorem laws_eqRough_spec (fuel : Nat) : FnSpec Tryz.prog 114 (laws_eqRough_tf fuel) :=
  fn_spec (T := laws_eqRough_T fuel) (c := bodyOf Tryz.f114) (fn := Tryz.f114) (TabOK.of (entCons (laws_eqIntSS_ok fuel) entNil) (methNil)) mixed (by kernel_rfl) (by kernel_rfl) laws_eqRough_l (by kernel_rfl) (Nat.le_of_ble_eq_true (by kernel_rfl)) (rv := laws_eqRough_rv) (by kernel_rfl) (laws_eqRough_run fuel)
theorem laws_eqRough_ok (fuel : Nat) : EntryOK Tryz.prog 114 (laws_eqRough_tf fuel).te := EntryOK.tf rfl (laws_eqRough_spec fuel) (isFn (fn := Tryz.f114) (by kernel_rfl) (by kernel_rfl) (by kernel_rfl))
def laws_eqFew_T (fuel : Nat) : Tab := Tab.of [(70, (laws_eqIntS_tf fuel).te)] []
abbrev laws_eqFew_ps : List Pm := [{ cs := [(Kd.list I6, false)], ag := true }, { cs := [(Kd.list I6, false)], ag := true }]
abbrev laws_eqFew_rs : List Pm := [{ cs := [(Kd.bool, false)], ag := false }]
def laws_eqFew_ann : List Norm := []
noncomputable def laws_eqFew_c : C := irOf Tryz.prog Tryz.f115 [] laws_eqFew_ann []
theorem laws_eqFew_l : lightC Tryz.prog [] Tryz.f115.ntmps laws_eqFew_ann [] 0 (bodyOf Tryz.f115) = some (laws_eqFew_c, 0) := by kernel_rfl
def laws_eqFew_rv : List (Nat × Option (Nat × Bool)) := [(4, none)]
def laws_eqFew_pre (fuel : Nat) (x0 : List Int) (x1 : List Int) : Option ((Bool × Unit) × Unit) :=
 Option.bind (laws_eqIntS_fn fuel ((x0, ()), (x1, ()), ())) fun y_1 =>
 cond (!y_1.1.1)
  (some (((false, ()), ())))
  (some (((true, ()), ())))
def laws_eqFew_fn (fuel : Nat) (x : (((List Int) × Unit) × (((List Int) × Unit) × Unit))) : Option ((Bool × Unit) × Unit) := laws_eqFew_pre fuel x.1.1 x.2.1.1
theorem laws_eqFew_run (fuel : Nat) (x : PsT laws_eqFew_ps) : run (laws_eqFew_T fuel) 0 fuel laws_eqFew_c (env0 (svPs laws_eqFew_ps x) 0) [] (endF laws_eqFew_rv laws_eqFew_rs) = laws_eqFew_fn fuel x := by kernel_rfl
def laws_eqFew_tf (fuel : Nat) : TF := ⟨laws_eqFew_ps, laws_eqFew_rs, true, laws_eqFew_fn fuel⟩
theorem laws_eqFew_spec (fuel : Nat) : FnSpec Tryz.prog 115 (laws_eqFew_tf fuel) :=
  fn_spec (T := laws_eqFew_T fuel) (c := bodyOf Tryz.f115) (fn := Tryz.f115) (TabOK.of (entCons (laws_eqIntS_ok fuel) entNil) (methNil)) mixed (by kernel_rfl) (by kernel_rfl) laws_eqFew_l (by kernel_rfl) (Nat.le_of_ble_eq_true (by kernel_rfl)) (rv := laws_eqFew_rv) (by kernel_rfl) (laws_eqFew_run fuel)
theorem laws_eqFew_ok (fuel : Nat) : EntryOK Tryz.prog 115 (laws_eqFew_tf fuel).te := EntryOK.tf rfl (laws_eqFew_spec fuel) (isFn (fn := Tryz.f115) (by kernel_rfl) (by kernel_rfl) (by kernel_rfl))
def laws_eqPair_T (fuel : Nat) : Tab := Tab.of [] []
abbrev laws_eqPair_ps : List Pm := [{ cs := [(I6, false), (I6, false)], ag := true }, { cs := [(I6, false), (I6, false)], ag := true }]
abbrev laws_eqPair_rs : List Pm := [{ cs := [(Kd.bool, false)], ag := false }]
def laws_eqPair_ann : List Norm := []
noncomputable def laws_eqPair_c : C := irOf Tryz.prog Tryz.f189 [] laws_eqPair_ann []
theorem laws_eqPair_l : lightC Tryz.prog [] Tryz.f189.ntmps laws_eqPair_ann [] 0 (bodyOf Tryz.f189) = some (laws_eqPair_c, 0) := by kernel_rfl
def laws_eqPair_rv : List (Nat × Option (Nat × Bool)) := [(4, none)]
def laws_eqPair_pre (fuel : Nat) (x0 : Int) (x1 : Int) (x2 : Int) (x3 : Int) : Option ((Bool × Unit) × Unit) :=
 cond (x0 != x2)
 (some (((false, ()), ())))
 (cond (x1 != x3)
  (some (((false, ()), ())))
  (some (((true, ()), ()))))
def laws_eqPair_fn (fuel : Nat) (x : ((Int × (Int × Unit)) × ((Int × (Int × Unit)) × Unit))) : Option ((Bool × Unit) × Unit) := laws_eqPair_pre fuel x.1.1 x.1.2.1 x.2.1.1 x.2.1.2.1
theorem laws_eqPair_run (fuel : Nat) (x : PsT laws_eqPair_ps) : run (laws_eqPair_T fuel) 0 fuel laws_eqPair_c (env0 (svPs laws_eqPair_ps x) 0) [] (endF laws_eqPair_rv laws_eqPair_rs) = laws_eqPair_fn fuel x := by kernel_rfl
def laws_eqPair_tf (fuel : Nat) : TF := ⟨laws_eqPair_ps, laws_eqPair_rs, true, laws_eqPair_fn fuel⟩
theorem laws_eqPair_spec (fuel : Nat) : FnSpec Tryz.prog 189 (laws_eqPair_tf fuel) :=
  fn_spec (T := laws_eqPair_T fuel) (c := bodyOf Tryz.f189) (fn := Tryz.f189) (TabOK.of (entNil) (methNil)) mixed (by kernel_rfl) (by kernel_rfl) laws_eqPair_l (by kernel_rfl) (Nat.le_of_ble_eq_true (by kernel_rfl)) (rv := laws_eqPair_rv) (by kernel_rfl) (laws_eqPair_run fuel)
theorem laws_eqPair_ok (fuel : Nat) : EntryOK Tryz.prog 189 (laws_eqPair_tf fuel).te := EntryOK.tf rfl (laws_eqPair_spec fuel) (isFn (fn := Tryz.f189) (by kernel_rfl) (by kernel_rfl) (by kernel_rfl))
def laws_eqPairS_T (fuel : Nat) : Tab := Tab.of [(189, (laws_eqPair_tf fuel).te)] []
abbrev laws_eqPairS_ps : List Pm := [{ cs := [(Kd.list KP, false)], ag := false }, { cs := [(Kd.list KP, false)], ag := false }]
abbrev laws_eqPairS_rs : List Pm := [{ cs := [(Kd.bool, false)], ag := false }]
def laws_eqPairS_ann : List Norm := [{ live := [5, 0, 1], fix := [] }]
noncomputable def laws_eqPairS_c : C := irOf Tryz.prog Tryz.f166 [] laws_eqPairS_ann []
theorem laws_eqPairS_l : lightC Tryz.prog [] Tryz.f166.ntmps laws_eqPairS_ann [] 0 (bodyOf Tryz.f166) = some (laws_eqPairS_c, 1) := by kernel_rfl
def laws_eqPairS_rv : List (Nat × Option (Nat × Bool)) := [(4, none)]
abbrev laws_eqPairS_V0 := (Int) × LP × LP
def laws_eqPairS_enc0 (v : laws_eqPairS_V0) : Env × Heap := ([(5, SV.int .i64 v.1), (0, SV.es KP v.2.1), (1, SV.es KP v.2.2)], [])
def laws_eqPairS_step0 (fuel : Nat) (g0 : laws_eqPairS_V0 → Option ((Bool × Unit) × Unit)) (v : laws_eqPairS_V0) : Option ((Bool × Unit) × Unit) :=
 cond (decide (v.1 < (zz (List.length v.2.1))))
 (tst (decide (0 ≤ v.1)) <|
  tst (decide (v.1 < (zz (List.length v.2.1)))) <|
  tst (decide (0 ≤ v.1)) <|
  tst (decide (v.1 < (zz (List.length v.2.2)))) <|
  Option.bind (laws_eqPair_fn fuel (((List.getD v.2.1 (Int.toNat v.1) (0, (0, ()))).1, (List.getD v.2.1 (Int.toNat v.1) (0, (0, ()))).2.1, ()), ((List.getD v.2.2 (Int.toNat v.1) (0, (0, ()))).1, (List.getD v.2.2 (Int.toNat v.1) (0, (0, ()))).2.1, ()), ())) fun y_2 =>
  cond (!y_2.1.1)
   (some (((false, ()), ())))
   (g0 (w64 (v.1 + (1 : Int)), v.2.1, v.2.2)))
 (some (((true, ()), ())))
def laws_eqPairS_st0 (fuel : Nat) (g0 : laws_eqPairS_V0 → Option ((Bool × Unit) × Unit)) : laws_eqPairS_V0 → Option ((Bool × Unit) × Unit) := laws_eqPairS_step0 fuel g0
theorem laws_eqPairS_lp0 (fuel : Nat) (G) : laws_eqPairS_c.lp (laws_eqPairS_T fuel) 0 fuel G (endF laws_eqPairS_rv laws_eqPairS_rs) 0 laws_eqPairS_enc0 = iter (laws_eqPairS_st0 fuel) fuel := C.lp_iter fun g v => by kernel_rfl
def laws_eqPairS_pre (fuel : Nat) (X0 : laws_eqPairS_V0 → Option ((Bool × Unit) × Unit)) (x0 : LP) (x1 : LP) : Option ((Bool × Unit) × Unit) :=
 cond ((zz (List.length x0)) != (zz (List.length x1)))
 (some (((false, ()), ())))
 (X0 ((0 : Int), x0, x1))
def laws_eqPairS_fn (fuel : Nat) (x : ((LP × Unit) × ((LP × Unit) × Unit))) : Option ((Bool × Unit) × Unit) := laws_eqPairS_pre fuel (iter (laws_eqPairS_st0 fuel) fuel) x.1.1 x.2.1.1
theorem laws_eqPairS_run (fuel : Nat) (x : PsT laws_eqPairS_ps) : run (laws_eqPairS_T fuel) 0 fuel laws_eqPairS_c (env0 (svPs laws_eqPairS_ps x) 0) [] (endF laws_eqPairS_rv laws_eqPairS_rs) = laws_eqPairS_fn fuel x :=
  (show run (laws_eqPairS_T fuel) 0 fuel laws_eqPairS_c (env0 (svPs laws_eqPairS_ps x) 0) [] (endF laws_eqPairS_rv laws_eqPairS_rs) = laws_eqPairS_pre fuel (laws_eqPairS_c.lp (laws_eqPairS_T fuel) 0 fuel (fun _ _ _ => none) (endF laws_eqPairS_rv laws_eqPairS_rs) 0 laws_eqPairS_enc0) x.1.1 x.2.1.1 by kernel_rfl).trans (by rw [laws_eqPairS_lp0]; rfl)
def laws_eqPairS_tf (fuel : Nat) : TF := ⟨laws_eqPairS_ps, laws_eqPairS_rs, true, laws_eqPairS_fn fuel⟩
theorem laws_eqPairS_spec (fuel : Nat) : FnSpec Tryz.prog 166 (laws_eqPairS_tf fuel) :=
  fn_spec (T := laws_eqPairS_T fuel) (c := bodyOf Tryz.f166) (fn := Tryz.f166) (TabOK.of (entCons (laws_eqPair_ok fuel) entNil) (methNil)) mixed (by kernel_rfl) (by kernel_rfl) laws_eqPairS_l (by kernel_rfl) (Nat.le_of_ble_eq_true (by kernel_rfl)) (rv := laws_eqPairS_rv) (by kernel_rfl) (laws_eqPairS_run fuel)
theorem laws_eqPairS_ok (fuel : Nat) : EntryOK Tryz.prog 166 (laws_eqPairS_tf fuel).te := EntryOK.tf rfl (laws_eqPairS_spec fuel) (isFn (fn := Tryz.f166) (by kernel_rfl) (by kernel_rfl) (by kernel_rfl))
def laws_eqTop_T (fuel : Nat) : Tab := Tab.of [(166, (laws_eqPairS_tf fuel).te)] []
abbrev laws_eqTop_ps : List Pm := [{ cs := [(Kd.list KP, false), (I6, false), (I6, false)], ag := true }, { cs := [(Kd.list KP, false), (I6, false), (I6, false)], ag := true }]
abbrev laws_eqTop_rs : List Pm := [{ cs := [(Kd.bool, false)], ag := false }]
def laws_eqTop_ann : List Norm := []
noncomputable def laws_eqTop_c : C := irOf Tryz.prog Tryz.f116 [] laws_eqTop_ann []
theorem laws_eqTop_l : lightC Tryz.prog [] Tryz.f116.ntmps laws_eqTop_ann [] 0 (bodyOf Tryz.f116) = some (laws_eqTop_c, 0) := by kernel_rfl
def laws_eqTop_rv : List (Nat × Option (Nat × Bool)) := [(4, none)]
def laws_eqTop_pre (fuel : Nat) (x0 : LP) (x1 : Int) (x2 : Int) (x3 : LP) (x4 : Int) (x5 : Int) : Option ((Bool × Unit) × Unit) :=
 Option.bind (laws_eqPairS_fn fuel ((x0, ()), (x3, ()), ())) fun y_1 =>
 cond (!y_1.1.1)
  (some (((false, ()), ())))
  (cond (x1 != x4)
   (some (((false, ()), ())))
   (cond (x2 != x5)
    (some (((false, ()), ())))
    (some (((true, ()), ())))))
def laws_eqTop_fn (fuel : Nat) (x : ((LP × (Int × (Int × Unit))) × ((LP × (Int × (Int × Unit))) × Unit))) : Option ((Bool × Unit) × Unit) := laws_eqTop_pre fuel x.1.1 x.1.2.1 x.1.2.2.1 x.2.1.1 x.2.1.2.1 x.2.1.2.2.1
theorem laws_eqTop_run (fuel : Nat) (x : PsT laws_eqTop_ps) : run (laws_eqTop_T fuel) 0 fuel laws_eqTop_c (env0 (svPs laws_eqTop_ps x) 0) [] (endF laws_eqTop_rv laws_eqTop_rs) = laws_eqTop_fn fuel x := by kernel_rfl
def laws_eqTop_tf (fuel : Nat) : TF := ⟨laws_eqTop_ps, laws_eqTop_rs, true, laws_eqTop_fn fuel⟩
theorem laws_eqTop_spec (fuel : Nat) : FnSpec Tryz.prog 116 (laws_eqTop_tf fuel) :=
  fn_spec (T := laws_eqTop_T fuel) (c := bodyOf Tryz.f116) (fn := Tryz.f116) (TabOK.of (entCons (laws_eqPairS_ok fuel) entNil) (methNil)) mixed (by kernel_rfl) (by kernel_rfl) laws_eqTop_l (by kernel_rfl) (Nat.le_of_ble_eq_true (by kernel_rfl)) (rv := laws_eqTop_rv) (by kernel_rfl) (laws_eqTop_run fuel)
theorem laws_eqTop_ok (fuel : Nat) : EntryOK Tryz.prog 116 (laws_eqTop_tf fuel).te := EntryOK.tf rfl (laws_eqTop_spec fuel) (isFn (fn := Tryz.f116) (by kernel_rfl) (by kernel_rfl) (by kernel_rfl))
def laws_eqKnot_T (fuel : Nat) : Tab := Tab.of [] []
abbrev laws_eqKnot_ps : List Pm := [{ cs := [(I6, false), (I6, false)], ag := true }, { cs := [(I6, false), (I6, false)], ag := true }]
abbrev laws_eqKnot_rs : List Pm := [{ cs := [(Kd.bool, false)], ag := false }]
def laws_eqKnot_ann : List Norm := []
noncomputable def laws_eqKnot_c : C := irOf Tryz.prog Tryz.f190 [] laws_eqKnot_ann []
theorem laws_eqKnot_l : lightC Tryz.prog [] Tryz.f190.ntmps laws_eqKnot_ann [] 0 (bodyOf Tryz.f190) = some (laws_eqKnot_c, 0) := by kernel_rfl
def laws_eqKnot_rv : List (Nat × Option (Nat × Bool)) := [(4, none)]
def laws_eqKnot_pre (fuel : Nat) (x0 : Int) (x1 : Int) (x2 : Int) (x3 : Int) : Option ((Bool × Unit) × Unit) :=
 cond (x0 != x2)
 (some (((false, ()), ())))
 (cond (x1 != x3)
  (some (((false, ()), ())))
  (some (((true, ()), ()))))
def laws_eqKnot_fn (fuel : Nat) (x : ((Int × (Int × Unit)) × ((Int × (Int × Unit)) × Unit))) : Option ((Bool × Unit) × Unit) := laws_eqKnot_pre fuel x.1.1 x.1.2.1 x.2.1.1 x.2.1.2.1
theorem laws_eqKnot_run (fuel : Nat) (x : PsT laws_eqKnot_ps) : run (laws_eqKnot_T fuel) 0 fuel laws_eqKnot_c (env0 (svPs laws_eqKnot_ps x) 0) [] (endF laws_eqKnot_rv laws_eqKnot_rs) = laws_eqKnot_fn fuel x := by kernel_rfl
def laws_eqKnot_tf (fuel : Nat) : TF := ⟨laws_eqKnot_ps, laws_eqKnot_rs, true, laws_eqKnot_fn fuel⟩
theorem laws_eqKnot_spec (fuel : Nat) : FnSpec Tryz.prog 190 (laws_eqKnot_tf fuel) :=
  fn_spec (T := laws_eqKnot_T fuel) (c := bodyOf Tryz.f190) (fn := Tryz.f190) (TabOK.of (entNil) (methNil)) mixed (by kernel_rfl) (by kernel_rfl) laws_eqKnot_l (by kernel_rfl) (Nat.le_of_ble_eq_true (by kernel_rfl)) (rv := laws_eqKnot_rv) (by kernel_rfl) (laws_eqKnot_run fuel)
theorem laws_eqKnot_ok (fuel : Nat) : EntryOK Tryz.prog 190 (laws_eqKnot_tf fuel).te := EntryOK.tf rfl (laws_eqKnot_spec fuel) (isFn (fn := Tryz.f190) (by kernel_rfl) (by kernel_rfl) (by kernel_rfl))
def laws_eqKnotS_T (fuel : Nat) : Tab := Tab.of [(190, (laws_eqKnot_tf fuel).te)] []
abbrev laws_eqKnotS_ps : List Pm := [{ cs := [(Kd.list KP, false)], ag := false }, { cs := [(Kd.list KP, false)], ag := false }]
abbrev laws_eqKnotS_rs : List Pm := [{ cs := [(Kd.bool, false)], ag := false }]
def laws_eqKnotS_ann : List Norm := [{ live := [5, 0, 1], fix := [] }]
noncomputable def laws_eqKnotS_c : C := irOf Tryz.prog Tryz.f167 [] laws_eqKnotS_ann []
theorem laws_eqKnotS_l : lightC Tryz.prog [] Tryz.f167.ntmps laws_eqKnotS_ann [] 0 (bodyOf Tryz.f167) = some (laws_eqKnotS_c, 1) := by kernel_rfl
def laws_eqKnotS_rv : List (Nat × Option (Nat × Bool)) := [(4, none)]
abbrev laws_eqKnotS_V0 := (Int) × LP × LP
def laws_eqKnotS_enc0 (v : laws_eqKnotS_V0) : Env × Heap := ([(5, SV.int .i64 v.1), (0, SV.es KP v.2.1), (1, SV.es KP v.2.2)], [])
def laws_eqKnotS_step0 (fuel : Nat) (g0 : laws_eqKnotS_V0 → Option ((Bool × Unit) × Unit)) (v : laws_eqKnotS_V0) : Option ((Bool × Unit) × Unit) :=
 cond (decide (v.1 < (zz (List.length v.2.1))))
 (tst (decide (0 ≤ v.1)) <|
  tst (decide (v.1 < (zz (List.length v.2.1)))) <|
  tst (decide (0 ≤ v.1)) <|
  tst (decide (v.1 < (zz (List.length v.2.2)))) <|
  Option.bind (laws_eqKnot_fn fuel (((List.getD v.2.1 (Int.toNat v.1) (0, (0, ()))).1, (List.getD v.2.1 (Int.toNat v.1) (0, (0, ()))).2.1, ()), ((List.getD v.2.2 (Int.toNat v.1) (0, (0, ()))).1, (List.getD v.2.2 (Int.toNat v.1) (0, (0, ()))).2.1, ()), ())) fun y_2 =>
  cond (!y_2.1.1)
   (some (((false, ()), ())))
   (g0 (w64 (v.1 + (1 : Int)), v.2.1, v.2.2)))
 (some (((true, ()), ())))
def laws_eqKnotS_st0 (fuel : Nat) (g0 : laws_eqKnotS_V0 → Option ((Bool × Unit) × Unit)) : laws_eqKnotS_V0 → Option ((Bool × Unit) × Unit) := laws_eqKnotS_step0 fuel g0
theorem laws_eqKnotS_lp0 (fuel : Nat) (G) : laws_eqKnotS_c.lp (laws_eqKnotS_T fuel) 0 fuel G (endF laws_eqKnotS_rv laws_eqKnotS_rs) 0 laws_eqKnotS_enc0 = iter (laws_eqKnotS_st0 fuel) fuel := C.lp_iter fun g v => by kernel_rfl
def laws_eqKnotS_pre (fuel : Nat) (X0 : laws_eqKnotS_V0 → Option ((Bool × Unit) × Unit)) (x0 : LP) (x1 : LP) : Option ((Bool × Unit) × Unit) :=
 cond ((zz (List.length x0)) != (zz (List.length x1)))
 (some (((false, ()), ())))
 (X0 ((0 : Int), x0, x1))
def laws_eqKnotS_fn (fuel : Nat) (x : ((LP × Unit) × ((LP × Unit) × Unit))) : Option ((Bool × Unit) × Unit) := laws_eqKnotS_pre fuel (iter (laws_eqKnotS_st0 fuel) fuel) x.1.1 x.2.1.1
theorem laws_eqKnotS_run (fuel : Nat) (x : PsT laws_eqKnotS_ps) : run (laws_eqKnotS_T fuel) 0 fuel laws_eqKnotS_c (env0 (svPs laws_eqKnotS_ps x) 0) [] (endF laws_eqKnotS_rv laws_eqKnotS_rs) = laws_eqKnotS_fn fuel x :=
  (show run (laws_eqKnotS_T fuel) 0 fuel laws_eqKnotS_c (env0 (svPs laws_eqKnotS_ps x) 0) [] (endF laws_eqKnotS_rv laws_eqKnotS_rs) = laws_eqKnotS_pre fuel (laws_eqKnotS_c.lp (laws_eqKnotS_T fuel) 0 fuel (fun _ _ _ => none) (endF laws_eqKnotS_rv laws_eqKnotS_rs) 0 laws_eqKnotS_enc0) x.1.1 x.2.1.1 by kernel_rfl).trans (by rw [laws_eqKnotS_lp0]; rfl)
def laws_eqKnotS_tf (fuel : Nat) : TF := ⟨laws_eqKnotS_ps, laws_eqKnotS_rs, true, laws_eqKnotS_fn fuel⟩
theorem laws_eqKnotS_spec (fuel : Nat) : FnSpec Tryz.prog 167 (laws_eqKnotS_tf fuel) :=
  fn_spec (T := laws_eqKnotS_T fuel) (c := bodyOf Tryz.f167) (fn := Tryz.f167) (TabOK.of (entCons (laws_eqKnot_ok fuel) entNil) (methNil)) mixed (by kernel_rfl) (by kernel_rfl) laws_eqKnotS_l (by kernel_rfl) (Nat.le_of_ble_eq_true (by kernel_rfl)) (rv := laws_eqKnotS_rv) (by kernel_rfl) (laws_eqKnotS_run fuel)
theorem laws_eqKnotS_ok (fuel : Nat) : EntryOK Tryz.prog 167 (laws_eqKnotS_tf fuel).te := EntryOK.tf rfl (laws_eqKnotS_spec fuel) (isFn (fn := Tryz.f167) (by kernel_rfl) (by kernel_rfl) (by kernel_rfl))
def laws_eqRank_T (fuel : Nat) : Tab := Tab.of [(167, (laws_eqKnotS_tf fuel).te)] []
abbrev laws_eqRank_ps : List Pm := [{ cs := [(Kd.list KP, false), (I6, false)], ag := true }, { cs := [(Kd.list KP, false), (I6, false)], ag := true }]
abbrev laws_eqRank_rs : List Pm := [{ cs := [(Kd.bool, false)], ag := false }]
def laws_eqRank_ann : List Norm := []
noncomputable def laws_eqRank_c : C := irOf Tryz.prog Tryz.f117 [] laws_eqRank_ann []
theorem laws_eqRank_l : lightC Tryz.prog [] Tryz.f117.ntmps laws_eqRank_ann [] 0 (bodyOf Tryz.f117) = some (laws_eqRank_c, 0) := by kernel_rfl
def laws_eqRank_rv : List (Nat × Option (Nat × Bool)) := [(4, none)]
def laws_eqRank_pre (fuel : Nat) (x0 : LP) (x1 : Int) (x2 : LP) (x3 : Int) : Option ((Bool × Unit) × Unit) :=
 Option.bind (laws_eqKnotS_fn fuel ((x0, ()), (x2, ()), ())) fun y_1 =>
 cond (!y_1.1.1)
  (some (((false, ()), ())))
  (cond (x1 != x3)
   (some (((false, ()), ())))
   (some (((true, ()), ()))))
def laws_eqRank_fn (fuel : Nat) (x : ((LP × (Int × Unit)) × ((LP × (Int × Unit)) × Unit))) : Option ((Bool × Unit) × Unit) := laws_eqRank_pre fuel x.1.1 x.1.2.1 x.2.1.1 x.2.1.2.1
theorem laws_eqRank_run (fuel : Nat) (x : PsT laws_eqRank_ps) : run (laws_eqRank_T fuel) 0 fuel laws_eqRank_c (env0 (svPs laws_eqRank_ps x) 0) [] (endF laws_eqRank_rv laws_eqRank_rs) = laws_eqRank_fn fuel x := by kernel_rfl
def laws_eqRank_tf (fuel : Nat) : TF := ⟨laws_eqRank_ps, laws_eqRank_rs, true, laws_eqRank_fn fuel⟩
theorem laws_eqRank_spec (fuel : Nat) : FnSpec Tryz.prog 117 (laws_eqRank_tf fuel) :=
  fn_spec (T := laws_eqRank_T fuel) (c := bodyOf Tryz.f117) (fn := Tryz.f117) (TabOK.of (entCons (laws_eqKnotS_ok fuel) entNil) (methNil)) mixed (by kernel_rfl) (by kernel_rfl) laws_eqRank_l (by kernel_rfl) (Nat.le_of_ble_eq_true (by kernel_rfl)) (rv := laws_eqRank_rv) (by kernel_rfl) (laws_eqRank_run fuel)
theorem laws_eqRank_ok (fuel : Nat) : EntryOK Tryz.prog 117 (laws_eqRank_tf fuel).te := EntryOK.tf rfl (laws_eqRank_spec fuel) (isFn (fn := Tryz.f117) (by kernel_rfl) (by kernel_rfl) (by kernel_rfl))
def laws_eqSum_T (fuel : Nat) : Tab := Tab.of [(114, (laws_eqRough_tf fuel).te), (115, (laws_eqFew_tf fuel).te), (116, (laws_eqTop_tf fuel).te), (117, (laws_eqRank_tf fuel).te)] []
abbrev laws_eqSum_ps : List Pm := [{ cs := [(Kd.list (Kd.list I6), false), (Kd.list I6, false), (Kd.list KP, false), (I6, false), (I6, false), (Kd.list KP, false), (I6, false)], ag := true }, { cs := [(Kd.list (Kd.list I6), false), (Kd.list I6, false), (Kd.list KP, false), (I6, false), (I6, false), (Kd.list KP, false), (I6, false)], ag := true }]
abbrev laws_eqSum_rs : List Pm := [{ cs := [(Kd.bool, false)], ag := false }]
def laws_eqSum_ann : List Norm := []
noncomputable def laws_eqSum_c : C := irOf Tryz.prog Tryz.f69 [] laws_eqSum_ann []
theorem laws_eqSum_l : lightC Tryz.prog [] Tryz.f69.ntmps laws_eqSum_ann [] 0 (bodyOf Tryz.f69) = some (laws_eqSum_c, 0) := by kernel_rfl
def laws_eqSum_rv : List (Nat × Option (Nat × Bool)) := [(4, none)]
def laws_eqSum_pre (fuel : Nat) (x0 : List (List Int)) (x1 : List Int) (x2 : LP) (x3 : Int) (x4 : Int) (x5 : LP) (x6 : Int) (x7 : List (List Int)) (x8 : List Int) (x9 : LP) (x10 : Int) (x11 : Int) (x12 : LP) (x13 : Int) : Option ((Bool × Unit) × Unit) :=
 Option.bind (laws_eqRough_fn fuel ((x0, ()), (x7, ()), ())) fun y_1 =>
 cond (!y_1.1.1)
  (some (((false, ()), ())))
  (Option.bind (laws_eqFew_fn fuel ((x1, ()), (x8, ()), ())) fun y_3 =>
   cond (!y_3.1.1)
    (some (((false, ()), ())))
    (Option.bind (laws_eqTop_fn fuel ((x2, x3, x4, ()), (x9, x10, x11, ()), ())) fun y_5 =>
     cond (!y_5.1.1)
      (some (((false, ()), ())))
      (Option.bind (laws_eqRank_fn fuel ((x5, x6, ()), (x12, x13, ()), ())) fun y_7 =>
       cond (!y_7.1.1)
        (some (((false, ()), ())))
        (some (((true, ()), ()))))))
def laws_eqSum_fn (fuel : Nat) (x : (SumY × (SumY × Unit))) : Option ((Bool × Unit) × Unit) := laws_eqSum_pre fuel x.1.1 x.1.2.1 x.1.2.2.1 x.1.2.2.2.1 x.1.2.2.2.2.1 x.1.2.2.2.2.2.1 x.1.2.2.2.2.2.2.1 x.2.1.1 x.2.1.2.1 x.2.1.2.2.1 x.2.1.2.2.2.1 x.2.1.2.2.2.2.1 x.2.1.2.2.2.2.2.1 x.2.1.2.2.2.2.2.2.1
theorem laws_eqSum_run (fuel : Nat) (x : PsT laws_eqSum_ps) : run (laws_eqSum_T fuel) 0 fuel laws_eqSum_c (env0 (svPs laws_eqSum_ps x) 0) [] (endF laws_eqSum_rv laws_eqSum_rs) = laws_eqSum_fn fuel x := by kernel_rfl
def laws_eqSum_tf (fuel : Nat) : TF := ⟨laws_eqSum_ps, laws_eqSum_rs, true, laws_eqSum_fn fuel⟩
theorem laws_eqSum_spec (fuel : Nat) : FnSpec Tryz.prog 69 (laws_eqSum_tf fuel) :=
  fn_spec (T := laws_eqSum_T fuel) (c := bodyOf Tryz.f69) (fn := Tryz.f69) (TabOK.of (entCons (laws_eqRough_ok fuel) (entCons (laws_eqFew_ok fuel) (entCons (laws_eqTop_ok fuel) (entCons (laws_eqRank_ok fuel) entNil)))) (methNil)) mixed (by kernel_rfl) (by kernel_rfl) laws_eqSum_l (by kernel_rfl) (Nat.le_of_ble_eq_true (by kernel_rfl)) (rv := laws_eqSum_rv) (by kernel_rfl) (laws_eqSum_run fuel)
theorem laws_eqSum_ok (fuel : Nat) : EntryOK Tryz.prog 69 (laws_eqSum_tf fuel).te := EntryOK.tf rfl (laws_eqSum_spec fuel) (isFn (fn := Tryz.f69) (by kernel_rfl) (by kernel_rfl) (by kernel_rfl))
abbrev laws_markIntS_v0_R := Option ((List Int) × ((Int × Unit) × Unit))
def laws_markIntS_v0_T (fuel : Nat) : Tab := Tab.of [] []
abbrev laws_markIntS_v0_ps : List Pm := [{ cs := [(I6, false)], ag := false }]
abbrev laws_markIntS_v0_rs : List Pm := [{ cs := [(I6, false)], ag := false }]
def laws_markIntS_v0_ann : List Norm := [{ live := [5, 0, 1], fix := [] }]
noncomputable def laws_markIntS_v0_c : C := irOf Tryz.prog Tryz.f71 [] laws_markIntS_v0_ann []
theorem laws_markIntS_v0_l : lightC Tryz.prog [] Tryz.f71.ntmps laws_markIntS_v0_ann [] 0 (bodyOf Tryz.f71) = some (laws_markIntS_v0_c, 1) := by kernel_rfl
def laws_markIntS_v0_rv : List (Nat × Option (Nat × Bool)) := [(4, none)]
abbrev laws_markIntS_v0_V0 := (Int) × (Int) × (List Int)
def laws_markIntS_v0_enc0 (v : laws_markIntS_v0_V0) : Env × Heap := ([(5, SV.int .i64 v.1), (0, SV.own 0), (1, SV.int .i64 v.2.1)], [Blk.arr I6 v.2.2 0])
def laws_markIntS_v0_step0 (fuel : Nat) (g0 : laws_markIntS_v0_V0 → laws_markIntS_v0_R) (v : laws_markIntS_v0_V0) : laws_markIntS_v0_R :=
 cond (decide (v.1 < (zz (List.length v.2.2))))
 (tst (decide (0 ≤ v.1)) <|
  tst (decide (v.1 < (zz (List.length v.2.2)))) <|
  tst (decide (Int.toNat v.1 < List.length v.2.2)) <|
  g0 (w64 (v.1 + (1 : Int)), w64 (v.2.1 + (1 : Int)), List.set v.2.2 (Int.toNat v.1) v.2.1))
 (some ((v.2.2, (v.2.1, ()), ())))
def laws_markIntS_v0_st0 (fuel : Nat) (g0 : laws_markIntS_v0_V0 → laws_markIntS_v0_R) : laws_markIntS_v0_V0 → laws_markIntS_v0_R := laws_markIntS_v0_step0 fuel g0
theorem laws_markIntS_v0_lp0 (fuel : Nat) (G) : laws_markIntS_v0_c.lp (laws_markIntS_v0_T fuel) 1 fuel G (endS laws_markIntS_v0_rv I6 false laws_markIntS_v0_rs) 0 laws_markIntS_v0_enc0 = iter (laws_markIntS_v0_st0 fuel) fuel := C.lp_iter fun g v => by kernel_rfl
def laws_markIntS_v0_pre (fuel : Nat) (X0 : laws_markIntS_v0_V0 → laws_markIntS_v0_R) (d0 : List Int) (x0 : Int) : laws_markIntS_v0_R :=
 X0 ((0 : Int), x0, d0)
def laws_markIntS_v0_fn (fuel : Nat) (z : (List Int) × Unit × ((Int × Unit) × Unit)) : laws_markIntS_v0_R := laws_markIntS_v0_pre fuel (iter (laws_markIntS_v0_st0 fuel) fuel) z.1 z.2.2.1.1
theorem laws_markIntS_v0_run (fuel : Nat) (c : List (Kd.T I6)) (d : CsT []) (x : PsT laws_markIntS_v0_ps) : run (laws_markIntS_v0_T fuel) 1 fuel laws_markIntS_v0_c ((0, firstV false 0 (svCs [] d)) :: env0 (svPs laws_markIntS_v0_ps x) 1) [.arr I6 c 0] (endS laws_markIntS_v0_rv I6 false laws_markIntS_v0_rs) = laws_markIntS_v0_fn fuel (c, d, x) :=
  (show run (laws_markIntS_v0_T fuel) 1 fuel laws_markIntS_v0_c ((0, firstV false 0 (svCs [] d)) :: env0 (svPs laws_markIntS_v0_ps x) 1) [.arr I6 c 0] (endS laws_markIntS_v0_rv I6 false laws_markIntS_v0_rs) = laws_markIntS_v0_pre fuel (laws_markIntS_v0_c.lp (laws_markIntS_v0_T fuel) 1 fuel (fun _ _ _ => none) (endS laws_markIntS_v0_rv I6 false laws_markIntS_v0_rs) 0 laws_markIntS_v0_enc0) c x.1.1 by kernel_rfl).trans (by rw [laws_markIntS_v0_lp0]; rfl)
def laws_markIntS_v0_tf (fuel : Nat) : TFS := ⟨I6, false, [], laws_markIntS_v0_ps, laws_markIntS_v0_rs, false, laws_markIntS_v0_fn fuel⟩
theorem laws_markIntS_v0_spec (fuel : Nat) : FnSpecS Tryz.prog 71 (laws_markIntS_v0_tf fuel) :=
  fn_specS (T := laws_markIntS_v0_T fuel) (c := bodyOf Tryz.f71) (fn := Tryz.f71) (TabOK.of (entNil) (methNil)) mixed (by kernel_rfl) (by kernel_rfl) laws_markIntS_v0_l (by kernel_rfl) (Nat.le_of_ble_eq_true (by kernel_rfl)) (rv := laws_markIntS_v0_rv) (by kernel_rfl) (laws_markIntS_v0_run fuel)
theorem laws_markIntS_v0_ok (fuel : Nat) : EntryOK Tryz.prog 71 (laws_markIntS_v0_tf fuel).te := EntryOK.tfs (laws_markIntS_v0_spec fuel) (isFn (fn := Tryz.f71) (by kernel_rfl) (by kernel_rfl) (by kernel_rfl))
end Go.Proofs.YtdgdoeknpakmlaaGreat.Den
namespace Go.Proofs.YtdgdoeknpakmlaaGreat.Den
open Go Go.RowKit
set_option linter.unusedVariables false
set_option linter.unusedSimpArgs false
def laws_markIntS_v1_T (fuel : Nat) : Tab := Tab.of [] []
abbrev laws_markIntS_v1_ps : Sh := (.nls (.cell I6 0 .nil))
abbrev laws_markIntS_v1_rs : Sh := (.cell I6 0 .nil)
def laws_markIntS_v1_ann : List Norm := [{ live := [5, 0, 1], fix := [] }]
noncomputable def laws_markIntS_v1_c : C := irOf Tryz.prog Tryz.f71 [] laws_markIntS_v1_ann []
theorem laws_markIntS_v1_l : lightC Tryz.prog [] Tryz.f71.ntmps laws_markIntS_v1_ann [] 0 (bodyOf Tryz.f71) = some (laws_markIntS_v1_c, 1) := by kernel_rfl
def laws_markIntS_v1_rv : List (Nat × Option (Nat × Bool)) := [(4, none)]
abbrev laws_markIntS_v1_V0 := (Int) × (Int)
def laws_markIntS_v1_enc0 (v : laws_markIntS_v1_V0) : Env × Heap := ([(5, SV.int .i64 v.1), (0, SV.nils), (1, SV.int .i64 v.2)], [])
def laws_markIntS_v1_step0 (fuel : Nat) (g0 : laws_markIntS_v1_V0 → Option (Int × Unit)) (v : laws_markIntS_v1_V0) : Option (Int × Unit) :=
 cond (decide (v.1 < (zz 0)))
 (none)
 (some ((v.2, ())))
def laws_markIntS_v1_st0 (fuel : Nat) (g0 : laws_markIntS_v1_V0 → Option (Int × Unit)) : laws_markIntS_v1_V0 → Option (Int × Unit) := laws_markIntS_v1_step0 fuel g0
theorem laws_markIntS_v1_lp0 (fuel : Nat) (G) : laws_markIntS_v1_c.lp (laws_markIntS_v1_T fuel) 0 fuel G (endG laws_markIntS_v1_rv laws_markIntS_v1_rs) 0 laws_markIntS_v1_enc0 = iter (laws_markIntS_v1_st0 fuel) fuel := C.lp_iter fun g v => by kernel_rfl
def laws_markIntS_v1_pre (fuel : Nat) (X0 : laws_markIntS_v1_V0 → Option (Int × Unit)) (x0 : Int) : Option (Int × Unit) :=
 X0 ((0 : Int), x0)
def laws_markIntS_v1_fn (fuel : Nat) (x : (Int × Unit)) : Option (Int × Unit) := laws_markIntS_v1_pre fuel (iter (laws_markIntS_v1_st0 fuel) fuel) x.1
theorem laws_markIntS_v1_run (fuel : Nat) (x : Sh.T laws_markIntS_v1_ps) : run (laws_markIntS_v1_T fuel) 0 fuel laws_markIntS_v1_c (env0 (svS laws_markIntS_v1_ps x) 0) [] (endG laws_markIntS_v1_rv laws_markIntS_v1_rs) = laws_markIntS_v1_fn fuel x :=
  (show run (laws_markIntS_v1_T fuel) 0 fuel laws_markIntS_v1_c (env0 (svS laws_markIntS_v1_ps x) 0) [] (endG laws_markIntS_v1_rv laws_markIntS_v1_rs) = laws_markIntS_v1_pre fuel (laws_markIntS_v1_c.lp (laws_markIntS_v1_T fuel) 0 fuel (fun _ _ _ => none) (endG laws_markIntS_v1_rv laws_markIntS_v1_rs) 0 laws_markIntS_v1_enc0) x.1 by kernel_rfl).trans (by rw [laws_markIntS_v1_lp0]; rfl)
def laws_markIntS_v1_tf (fuel : Nat) : TG := ⟨laws_markIntS_v1_ps, laws_markIntS_v1_rs, true, laws_markIntS_v1_fn fuel⟩
theorem laws_markIntS_v1_spec (fuel : Nat) : FnSpecG Tryz.prog 71 (laws_markIntS_v1_tf fuel) :=
  fn_specG (T := laws_markIntS_v1_T fuel) (c := bodyOf Tryz.f71) (fn := Tryz.f71) (TabOK.of (entNil) (methNil)) mixed (by kernel_rfl) (by kernel_rfl) laws_markIntS_v1_l (by kernel_rfl) (Nat.le_of_ble_eq_true (by kernel_rfl)) (rv := laws_markIntS_v1_rv) (by kernel_rfl) (fun x y h => (laws_markIntS_v1_run fuel x).trans h)
theorem laws_markIntS_v1_ok (fuel : Nat) : EntryOK Tryz.prog 71 (laws_markIntS_v1_tf fuel).te := EntryOK.tg rfl (laws_markIntS_v1_spec fuel) (isFn (fn := Tryz.f71) (by kernel_rfl) (by kernel_rfl) (by kernel_rfl))
def laws_markIntSS_T (fuel : Nat) : Tab := Tab.of [(71, (laws_markIntS_v0_tf fuel).te), (71, (laws_markIntS_v1_tf fuel).te)] []
def laws_markIntSS_ann : List Norm := [{ live := [5, 0, 1], fix := [] }]
noncomputable def laws_markIntSS_c : C := irOf Tryz.prog Tryz.f168 [] laws_markIntSS_ann []
theorem laws_markIntSS_l : lightC Tryz.prog [] Tryz.f168.ntmps laws_markIntSS_ann [] 0 (bodyOf Tryz.f168) = some (laws_markIntSS_c, 1) := by kernel_rfl
def laws_markIntSS_rv : List (Nat × Option (Nat × Bool)) := [(4, none)]
noncomputable def laws_markIntSS_ie (fuel : Nat) : IE := inlIE 2 (laws_markIntSS_T fuel) (fuel + 6) laws_markIntSS_c laws_markIntSS_rv
theorem laws_markIntSS_ok (fuel : Nat) : ISound Tryz.prog 168 (laws_markIntSS_ie fuel) :=
  inl_sound (T := laws_markIntSS_T fuel) (c := bodyOf Tryz.f168) (fn := Tryz.f168) (TabOK.of (entCons (laws_markIntS_v0_ok fuel) (entCons (laws_markIntS_v1_ok fuel) entNil)) (methNil)) mixed (by kernel_rfl) (by kernel_rfl) laws_markIntSS_l (by kernel_rfl) (Nat.le_of_ble_eq_true (by kernel_rfl)) (rv := laws_markIntSS_rv) (by kernel_rfl) (isFn (fn := Tryz.f168) (by kernel_rfl) (by kernel_rfl) (by kernel_rfl))
noncomputable def laws_markRough_T (fuel : Nat) : Tab := Tab.ofI [] [] [(168, laws_markIntSS_ie fuel)]
def laws_markRough_ann : List Norm := []
noncomputable def laws_markRough_c : C := irOf Tryz.prog Tryz.f118 [8] laws_markRough_ann []
theorem laws_markRough_l : lightC Tryz.prog [8] Tryz.f118.ntmps laws_markRough_ann [] 0 (bodyOf Tryz.f118) = some (laws_markRough_c, 0) := by kernel_rfl
def laws_markRough_rv : List (Nat × Option (Nat × Bool)) := [(4, none)]
noncomputable def laws_markRough_ie (fuel : Nat) : IE := inlIE 2 (laws_markRough_T fuel) fuel laws_markRough_c laws_markRough_rv
theorem laws_markRough_ok (fuel : Nat) : ISound Tryz.prog 118 (laws_markRough_ie fuel) :=
  inl_sound (T := laws_markRough_T fuel) (c := bodyOf Tryz.f118) (fn := Tryz.f118) (TabOK.ofI (entNil) (methNil) (inlCons (laws_markIntSS_ok fuel) (inlNil))) mixed (by kernel_rfl) (by kernel_rfl) laws_markRough_l (by kernel_rfl) (Nat.le_of_ble_eq_true (by kernel_rfl)) (rv := laws_markRough_rv) (by kernel_rfl) (isFn (fn := Tryz.f118) (by kernel_rfl) (by kernel_rfl) (by kernel_rfl))
def laws_markFew_T (fuel : Nat) : Tab := Tab.of [(71, (laws_markIntS_v0_tf fuel).te), (71, (laws_markIntS_v1_tf fuel).te)] []
def laws_markFew_ann : List Norm := []
noncomputable def laws_markFew_c : C := irOf Tryz.prog Tryz.f119 [] laws_markFew_ann []
theorem laws_markFew_l : lightC Tryz.prog [] Tryz.f119.ntmps laws_markFew_ann [] 0 (bodyOf Tryz.f119) = some (laws_markFew_c, 0) := by kernel_rfl
def laws_markFew_rv : List (Nat × Option (Nat × Bool)) := [(4, none)]
noncomputable def laws_markFew_ie (fuel : Nat) : IE := inlIE 2 (laws_markFew_T fuel) fuel laws_markFew_c laws_markFew_rv
theorem laws_markFew_ok (fuel : Nat) : ISound Tryz.prog 119 (laws_markFew_ie fuel) :=
  inl_sound (T := laws_markFew_T fuel) (c := bodyOf Tryz.f119) (fn := Tryz.f119) (TabOK.of (entCons (laws_markIntS_v0_ok fuel) (entCons (laws_markIntS_v1_ok fuel) entNil)) (methNil)) mixed (by kernel_rfl) (by kernel_rfl) laws_markFew_l (by kernel_rfl) (Nat.le_of_ble_eq_true (by kernel_rfl)) (rv := laws_markFew_rv) (by kernel_rfl) (isFn (fn := Tryz.f119) (by kernel_rfl) (by kernel_rfl) (by kernel_rfl))
abbrev laws_markPairS_v0_R := Option (LP × ((Int × Unit) × Unit))
def laws_markPairS_v0_T (fuel : Nat) : Tab := Tab.of [] []
abbrev laws_markPairS_v0_ps : List Pm := [{ cs := [(I6, false)], ag := false }]
abbrev laws_markPairS_v0_rs : List Pm := [{ cs := [(I6, false)], ag := false }]
def laws_markPairS_v0_ann : List Norm := [{ live := [5, 0, 1], fix := [] }]
noncomputable def laws_markPairS_v0_c : C := irOf Tryz.prog Tryz.f169 [] laws_markPairS_v0_ann []
theorem laws_markPairS_v0_l : lightC Tryz.prog [] Tryz.f169.ntmps laws_markPairS_v0_ann [] 0 (bodyOf Tryz.f169) = some (laws_markPairS_v0_c, 1) := by kernel_rfl
def laws_markPairS_v0_rv : List (Nat × Option (Nat × Bool)) := [(4, none)]
abbrev laws_markPairS_v0_V0 := (Int) × (Int) × LP
def laws_markPairS_v0_enc0 (v : laws_markPairS_v0_V0) : Env × Heap := ([(5, SV.int .i64 v.1), (0, SV.own 0), (1, SV.int .i64 v.2.1)], [Blk.arr KP v.2.2 0])
def laws_markPairS_v0_step0 (fuel : Nat) (g0 : laws_markPairS_v0_V0 → laws_markPairS_v0_R) (v : laws_markPairS_v0_V0) : laws_markPairS_v0_R :=
 cond (decide (v.1 < (zz (List.length v.2.2))))
 (tst (decide (0 ≤ v.1)) <|
  tst (decide (v.1 < (zz (List.length v.2.2)))) <|
  tst (decide (Int.toNat v.1 < List.length v.2.2)) <|
  tst (decide (0 ≤ v.1)) <|
  tst (decide (v.1 < (zz (List.length (List.set v.2.2 (Int.toNat v.1) (v.2.1, (List.getD v.2.2 (Int.toNat v.1) (0, (0, ()))).2.1, ())))))) <|
  tst (decide (Int.toNat v.1 < List.length (List.set v.2.2 (Int.toNat v.1) (v.2.1, (List.getD v.2.2 (Int.toNat v.1) (0, (0, ()))).2.1, ())))) <|
  g0 (w64 (v.1 + (1 : Int)), w64 (w64 (v.2.1 + (1 : Int)) + (1 : Int)), List.set (List.set v.2.2 (Int.toNat v.1) (v.2.1, (List.getD v.2.2 (Int.toNat v.1) (0, (0, ()))).2.1, ())) (Int.toNat v.1) ((List.getD (List.set v.2.2 (Int.toNat v.1) (v.2.1, (List.getD v.2.2 (Int.toNat v.1) (0, (0, ()))).2.1, ())) (Int.toNat v.1) (0, (0, ()))).1, w64 (v.2.1 + (1 : Int)), ())))
 (some ((v.2.2, (v.2.1, ()), ())))
def laws_markPairS_v0_st0 (fuel : Nat) (g0 : laws_markPairS_v0_V0 → laws_markPairS_v0_R) : laws_markPairS_v0_V0 → laws_markPairS_v0_R := laws_markPairS_v0_step0 fuel g0
theorem laws_markPairS_v0_lp0 (fuel : Nat) (G) : laws_markPairS_v0_c.lp (laws_markPairS_v0_T fuel) 1 fuel G (endS laws_markPairS_v0_rv KP false laws_markPairS_v0_rs) 0 laws_markPairS_v0_enc0 = iter (laws_markPairS_v0_st0 fuel) fuel := C.lp_iter fun g v => by kernel_rfl
def laws_markPairS_v0_pre (fuel : Nat) (X0 : laws_markPairS_v0_V0 → laws_markPairS_v0_R) (d0 : LP) (x0 : Int) : laws_markPairS_v0_R :=
 X0 ((0 : Int), x0, d0)
def laws_markPairS_v0_fn (fuel : Nat) (z : LP × Unit × ((Int × Unit) × Unit)) : laws_markPairS_v0_R := laws_markPairS_v0_pre fuel (iter (laws_markPairS_v0_st0 fuel) fuel) z.1 z.2.2.1.1
theorem laws_markPairS_v0_run (fuel : Nat) (c : List (Kd.T KP)) (d : CsT []) (x : PsT laws_markPairS_v0_ps) : run (laws_markPairS_v0_T fuel) 1 fuel laws_markPairS_v0_c ((0, firstV false 0 (svCs [] d)) :: env0 (svPs laws_markPairS_v0_ps x) 1) [.arr KP c 0] (endS laws_markPairS_v0_rv KP false laws_markPairS_v0_rs) = laws_markPairS_v0_fn fuel (c, d, x) :=
  (show run (laws_markPairS_v0_T fuel) 1 fuel laws_markPairS_v0_c ((0, firstV false 0 (svCs [] d)) :: env0 (svPs laws_markPairS_v0_ps x) 1) [.arr KP c 0] (endS laws_markPairS_v0_rv KP false laws_markPairS_v0_rs) = laws_markPairS_v0_pre fuel (laws_markPairS_v0_c.lp (laws_markPairS_v0_T fuel) 1 fuel (fun _ _ _ => none) (endS laws_markPairS_v0_rv KP false laws_markPairS_v0_rs) 0 laws_markPairS_v0_enc0) c x.1.1 by kernel_rfl).trans (by rw [laws_markPairS_v0_lp0]; rfl)
def laws_markPairS_v0_tf (fuel : Nat) : TFS := ⟨KP, false, [], laws_markPairS_v0_ps, laws_markPairS_v0_rs, false, laws_markPairS_v0_fn fuel⟩
theorem laws_markPairS_v0_spec (fuel : Nat) : FnSpecS Tryz.prog 169 (laws_markPairS_v0_tf fuel) :=
  fn_specS (T := laws_markPairS_v0_T fuel) (c := bodyOf Tryz.f169) (fn := Tryz.f169) (TabOK.of (entNil) (methNil)) mixed (by kernel_rfl) (by kernel_rfl) laws_markPairS_v0_l (by kernel_rfl) (Nat.le_of_ble_eq_true (by kernel_rfl)) (rv := laws_markPairS_v0_rv) (by kernel_rfl) (laws_markPairS_v0_run fuel)
theorem laws_markPairS_v0_ok (fuel : Nat) : EntryOK Tryz.prog 169 (laws_markPairS_v0_tf fuel).te := EntryOK.tfs (laws_markPairS_v0_spec fuel) (isFn (fn := Tryz.f169) (by kernel_rfl) (by kernel_rfl) (by kernel_rfl))
def laws_markPairS_v1_T (fuel : Nat) : Tab := Tab.of [] []
abbrev laws_markPairS_v1_ps : Sh := (.nls (.cell I6 0 .nil))
abbrev laws_markPairS_v1_rs : Sh := (.cell I6 0 .nil)
def laws_markPairS_v1_ann : List Norm := [{ live := [5, 0, 1], fix := [] }]
noncomputable def laws_markPairS_v1_c : C := irOf Tryz.prog Tryz.f169 [] laws_markPairS_v1_ann []
theorem laws_markPairS_v1_l : lightC Tryz.prog [] Tryz.f169.ntmps laws_markPairS_v1_ann [] 0 (bodyOf Tryz.f169) = some (laws_markPairS_v1_c, 1) := by kernel_rfl
def laws_markPairS_v1_rv : List (Nat × Option (Nat × Bool)) := [(4, none)]
abbrev laws_markPairS_v1_V0 := (Int) × (Int)
def laws_markPairS_v1_enc0 (v : laws_markPairS_v1_V0) : Env × Heap := ([(5, SV.int .i64 v.1), (0, SV.nils), (1, SV.int .i64 v.2)], [])
def laws_markPairS_v1_step0 (fuel : Nat) (g0 : laws_markPairS_v1_V0 → Option (Int × Unit)) (v : laws_markPairS_v1_V0) : Option (Int × Unit) :=
 cond (decide (v.1 < (zz 0)))
 (none)
 (some ((v.2, ())))
def laws_markPairS_v1_st0 (fuel : Nat) (g0 : laws_markPairS_v1_V0 → Option (Int × Unit)) : laws_markPairS_v1_V0 → Option (Int × Unit) := laws_markPairS_v1_step0 fuel g0
theorem laws_markPairS_v1_lp0 (fuel : Nat) (G) : laws_markPairS_v1_c.lp (laws_markPairS_v1_T fuel) 0 fuel G (endG laws_markPairS_v1_rv laws_markPairS_v1_rs) 0 laws_markPairS_v1_enc0 = iter (laws_markPairS_v1_st0 fuel) fuel := C.lp_iter fun g v => by kernel_rfl
def laws_markPairS_v1_pre (fuel : Nat) (X0 : laws_markPairS_v1_V0 → Option (Int × Unit)) (x0 : Int) : Option (Int × Unit) :=
 X0 ((0 : Int), x0)
def laws_markPairS_v1_fn (fuel : Nat) (x : (Int × Unit)) : Option (Int × Unit) := laws_markPairS_v1_pre fuel (iter (laws_markPairS_v1_st0 fuel) fuel) x.1
theorem laws_markPairS_v1_run (fuel : Nat) (x : Sh.T laws_markPairS_v1_ps) : run (laws_markPairS_v1_T fuel) 0 fuel laws_markPairS_v1_c (env0 (svS laws_markPairS_v1_ps x) 0) [] (endG laws_markPairS_v1_rv laws_markPairS_v1_rs) = laws_markPairS_v1_fn fuel x :=
  (show run (laws_markPairS_v1_T fuel) 0 fuel laws_markPairS_v1_c (env0 (svS laws_markPairS_v1_ps x) 0) [] (endG laws_markPairS_v1_rv laws_markPairS_v1_rs) = laws_markPairS_v1_pre fuel (laws_markPairS_v1_c.lp (laws_markPairS_v1_T fuel) 0 fuel (fun _ _ _ => none) (endG laws_markPairS_v1_rv laws_markPairS_v1_rs) 0 laws_markPairS_v1_enc0) x.1 by kernel_rfl).trans (by rw [laws_markPairS_v1_lp0]; rfl)
def laws_markPairS_v1_tf (fuel : Nat) : TG := ⟨laws_markPairS_v1_ps, laws_markPairS_v1_rs, true, laws_markPairS_v1_fn fuel⟩
theorem laws_markPairS_v1_spec (fuel : Nat) : FnSpecG Tryz.prog 169 (laws_markPairS_v1_tf fuel) :=
  fn_specG (T := laws_markPairS_v1_T fuel) (c := bodyOf Tryz.f169) (fn := Tryz.f169) (TabOK.of (entNil) (methNil)) mixed (by kernel_rfl) (by kernel_rfl) laws_markPairS_v1_l (by kernel_rfl) (Nat.le_of_ble_eq_true (by kernel_rfl)) (rv := laws_markPairS_v1_rv) (by kernel_rfl) (fun x y h => (laws_markPairS_v1_run fuel x).trans h)
theorem laws_markPairS_v1_ok (fuel : Nat) : EntryOK Tryz.prog 169 (laws_markPairS_v1_tf fuel).te := EntryOK.tg rfl (laws_markPairS_v1_spec fuel) (isFn (fn := Tryz.f169) (by kernel_rfl) (by kernel_rfl) (by kernel_rfl))
def laws_markTop_T (fuel : Nat) : Tab := Tab.of [(169, (laws_markPairS_v0_tf fuel).te), (169, (laws_markPairS_v1_tf fuel).te)] []
def laws_markTop_ann : List Norm := []
noncomputable def laws_markTop_c : C := irOf Tryz.prog Tryz.f120 [] laws_markTop_ann []
theorem laws_markTop_l : lightC Tryz.prog [] Tryz.f120.ntmps laws_markTop_ann [] 0 (bodyOf Tryz.f120) = some (laws_markTop_c, 0) := by kernel_rfl
def laws_markTop_rv : List (Nat × Option (Nat × Bool)) := [(4, none)]
noncomputable def laws_markTop_ie (fuel : Nat) : IE := inlIE 2 (laws_markTop_T fuel) fuel laws_markTop_c laws_markTop_rv
theorem laws_markTop_ok (fuel : Nat) : ISound Tryz.prog 120 (laws_markTop_ie fuel) :=
  inl_sound (T := laws_markTop_T fuel) (c := bodyOf Tryz.f120) (fn := Tryz.f120) (TabOK.of (entCons (laws_markPairS_v0_ok fuel) (entCons (laws_markPairS_v1_ok fuel) entNil)) (methNil)) mixed (by kernel_rfl) (by kernel_rfl) laws_markTop_l (by kernel_rfl) (Nat.le_of_ble_eq_true (by kernel_rfl)) (rv := laws_markTop_rv) (by kernel_rfl) (isFn (fn := Tryz.f120) (by kernel_rfl) (by kernel_rfl) (by kernel_rfl))
abbrev laws_markKnotS_v0_R := Option (LP × ((Int × Unit) × Unit))
def laws_markKnotS_v0_T (fuel : Nat) : Tab := Tab.of [] []
abbrev laws_markKnotS_v0_ps : List Pm := [{ cs := [(I6, false)], ag := false }]
abbrev laws_markKnotS_v0_rs : List Pm := [{ cs := [(I6, false)], ag := false }]
def laws_markKnotS_v0_ann : List Norm := [{ live := [5, 0, 1], fix := [] }]
noncomputable def laws_markKnotS_v0_c : C := irOf Tryz.prog Tryz.f170 [] laws_markKnotS_v0_ann []
theorem laws_markKnotS_v0_l : lightC Tryz.prog [] Tryz.f170.ntmps laws_markKnotS_v0_ann [] 0 (bodyOf Tryz.f170) = some (laws_markKnotS_v0_c, 1) := by kernel_rfl
def laws_markKnotS_v0_rv : List (Nat × Option (Nat × Bool)) := [(4, none)]
abbrev laws_markKnotS_v0_V0 := (Int) × (Int) × LP
def laws_markKnotS_v0_enc0 (v : laws_markKnotS_v0_V0) : Env × Heap := ([(5, SV.int .i64 v.1), (0, SV.own 0), (1, SV.int .i64 v.2.1)], [Blk.arr KP v.2.2 0])
def laws_markKnotS_v0_step0 (fuel : Nat) (g0 : laws_markKnotS_v0_V0 → laws_markKnotS_v0_R) (v : laws_markKnotS_v0_V0) : laws_markKnotS_v0_R :=
 cond (decide (v.1 < (zz (List.length v.2.2))))
 (tst (decide (0 ≤ v.1)) <|
  tst (decide (v.1 < (zz (List.length v.2.2)))) <|
  tst (decide (Int.toNat v.1 < List.length v.2.2)) <|
  tst (decide (0 ≤ v.1)) <|
  tst (decide (v.1 < (zz (List.length (List.set v.2.2 (Int.toNat v.1) (v.2.1, (List.getD v.2.2 (Int.toNat v.1) (0, (0, ()))).2.1, ())))))) <|
  tst (decide (Int.toNat v.1 < List.length (List.set v.2.2 (Int.toNat v.1) (v.2.1, (List.getD v.2.2 (Int.toNat v.1) (0, (0, ()))).2.1, ())))) <|
  g0 (w64 (v.1 + (1 : Int)), w64 (w64 (v.2.1 + (1 : Int)) + (1 : Int)), List.set (List.set v.2.2 (Int.toNat v.1) (v.2.1, (List.getD v.2.2 (Int.toNat v.1) (0, (0, ()))).2.1, ())) (Int.toNat v.1) ((List.getD (List.set v.2.2 (Int.toNat v.1) (v.2.1, (List.getD v.2.2 (Int.toNat v.1) (0, (0, ()))).2.1, ())) (Int.toNat v.1) (0, (0, ()))).1, w64 (v.2.1 + (1 : Int)), ())))
 (some ((v.2.2, (v.2.1, ()), ())))
def laws_markKnotS_v0_st0 (fuel : Nat) (g0 : laws_markKnotS_v0_V0 → laws_markKnotS_v0_R) : laws_markKnotS_v0_V0 → laws_markKnotS_v0_R := laws_markKnotS_v0_step0 fuel g0
theorem laws_markKnotS_v0_lp0 (fuel : Nat) (G) : laws_markKnotS_v0_c.lp (laws_markKnotS_v0_T fuel) 1 fuel G (endS laws_markKnotS_v0_rv KP false laws_markKnotS_v0_rs) 0 laws_markKnotS_v0_enc0 = iter (laws_markKnotS_v0_st0 fuel) fuel := C.lp_iter fun g v => by kernel_rfl
def laws_markKnotS_v0_pre (fuel : Nat) (X0 : laws_markKnotS_v0_V0 → laws_markKnotS_v0_R) (d0 : LP) (x0 : Int) : laws_markKnotS_v0_R :=
 X0 ((0 : Int), x0, d0)
def laws_markKnotS_v0_fn (fuel : Nat) (z : LP × Unit × ((Int × Unit) × Unit)) : laws_markKnotS_v0_R := laws_markKnotS_v0_pre fuel (iter (laws_markKnotS_v0_st0 fuel) fuel) z.1 z.2.2.1.1
theorem laws_markKnotS_v0_run (fuel : Nat) (c : List (Kd.T KP)) (d : CsT []) (x : PsT laws_markKnotS_v0_ps) : run (laws_markKnotS_v0_T fuel) 1 fuel laws_markKnotS_v0_c ((0, firstV false 0 (svCs [] d)) :: env0 (svPs laws_markKnotS_v0_ps x) 1) [.arr KP c 0] (endS laws_markKnotS_v0_rv KP false laws_markKnotS_v0_rs) = laws_markKnotS_v0_fn fuel (c, d, x) :=
  (show run (laws_markKnotS_v0_T fuel) 1 fuel laws_markKnotS_v0_c ((0, firstV false 0 (svCs [] d)) :: env0 (svPs laws_markKnotS_v0_ps x) 1) [.arr KP c 0] (endS laws_markKnotS_v0_rv KP false laws_markKnotS_v0_rs) = laws_markKnotS_v0_pre fuel (laws_markKnotS_v0_c.lp (laws_markKnotS_v0_T fuel) 1 fuel (fun _ _ _ => none) (endS laws_markKnotS_v0_rv KP false laws_markKnotS_v0_rs) 0 laws_markKnotS_v0_enc0) c x.1.1 by kernel_rfl).trans (by rw [laws_markKnotS_v0_lp0]; rfl)
def laws_markKnotS_v0_tf (fuel : Nat) : TFS := ⟨KP, false, [], laws_markKnotS_v0_ps, laws_markKnotS_v0_rs, false, laws_markKnotS_v0_fn fuel⟩
theorem laws_markKnotS_v0_spec (fuel : Nat) : FnSpecS Tryz.prog 170 (laws_markKnotS_v0_tf fuel) :=
  fn_specS (T := laws_markKnotS_v0_T fuel) (c := bodyOf Tryz.f170) (fn := Tryz.f170) (TabOK.of (entNil) (methNil)) mixed (by kernel_rfl) (by kernel_rfl) laws_markKnotS_v0_l (by kernel_rfl) (Nat.le_of_ble_eq_true (by kernel_rfl)) (rv := laws_markKnotS_v0_rv) (by kernel_rfl) (laws_markKnotS_v0_run fuel)
theorem laws_markKnotS_v0_ok (fuel : Nat) : EntryOK Tryz.prog 170 (laws_markKnotS_v0_tf fuel).te := EntryOK.tfs (laws_markKnotS_v0_spec fuel) (isFn (fn := Tryz.f170) (by kernel_rfl) (by kernel_rfl) (by kernel_rfl))
def laws_markKnotS_v1_T (fuel : Nat) : Tab := Tab.of [] []
abbrev laws_markKnotS_v1_ps : Sh := (.nls (.cell I6 0 .nil))
abbrev laws_markKnotS_v1_rs : Sh := (.cell I6 0 .nil)
def laws_markKnotS_v1_ann : List Norm := [{ live := [5, 0, 1], fix := [] }]
noncomputable def laws_markKnotS_v1_c : C := irOf Tryz.prog Tryz.f170 [] laws_markKnotS_v1_ann []
theorem laws_markKnotS_v1_l : lightC Tryz.prog [] Tryz.f170.ntmps laws_markKnotS_v1_ann [] 0 (bodyOf Tryz.f170) = some (laws_markKnotS_v1_c, 1) := by kernel_rfl
def laws_markKnotS_v1_rv : List (Nat × Option (Nat × Bool)) := [(4, none)]
abbrev laws_markKnotS_v1_V0 := (Int) × (Int)
def laws_markKnotS_v1_enc0 (v : laws_markKnotS_v1_V0) : Env × Heap := ([(5, SV.int .i64 v.1), (0, SV.nils), (1, SV.int .i64 v.2)], [])
def laws_markKnotS_v1_step0 (fuel : Nat) (g0 : laws_markKnotS_v1_V0 → Option (Int × Unit)) (v : laws_markKnotS_v1_V0) : Option (Int × Unit) :=
 cond (decide (v.1 < (zz 0)))
 (none)
 (some ((v.2, ())))
def laws_markKnotS_v1_st0 (fuel : Nat) (g0 : laws_markKnotS_v1_V0 → Option (Int × Unit)) : laws_markKnotS_v1_V0 → Option (Int × Unit) := laws_markKnotS_v1_step0 fuel g0
theorem laws_markKnotS_v1_lp0 (fuel : Nat) (G) : laws_markKnotS_v1_c.lp (laws_markKnotS_v1_T fuel) 0 fuel G (endG laws_markKnotS_v1_rv laws_markKnotS_v1_rs) 0 laws_markKnotS_v1_enc0 = iter (laws_markKnotS_v1_st0 fuel) fuel := C.lp_iter fun g v => by kernel_rfl
def laws_markKnotS_v1_pre (fuel : Nat) (X0 : laws_markKnotS_v1_V0 → Option (Int × Unit)) (x0 : Int) : Option (Int × Unit) :=
 X0 ((0 : Int), x0)
def laws_markKnotS_v1_fn (fuel : Nat) (x : (Int × Unit)) : Option (Int × Unit) := laws_markKnotS_v1_pre fuel (iter (laws_markKnotS_v1_st0 fuel) fuel) x.1
theorem laws_markKnotS_v1_run (fuel : Nat) (x : Sh.T laws_markKnotS_v1_ps) : run (laws_markKnotS_v1_T fuel) 0 fuel laws_markKnotS_v1_c (env0 (svS laws_markKnotS_v1_ps x) 0) [] (endG laws_markKnotS_v1_rv laws_markKnotS_v1_rs) = laws_markKnotS_v1_fn fuel x :=
  (show run (laws_markKnotS_v1_T fuel) 0 fuel laws_markKnotS_v1_c (env0 (svS laws_markKnotS_v1_ps x) 0) [] (endG laws_markKnotS_v1_rv laws_markKnotS_v1_rs) = laws_markKnotS_v1_pre fuel (laws_markKnotS_v1_c.lp (laws_markKnotS_v1_T fuel) 0 fuel (fun _ _ _ => none) (endG laws_markKnotS_v1_rv laws_markKnotS_v1_rs) 0 laws_markKnotS_v1_enc0) x.1 by kernel_rfl).trans (by rw [laws_markKnotS_v1_lp0]; rfl)
def laws_markKnotS_v1_tf (fuel : Nat) : TG := ⟨laws_markKnotS_v1_ps, laws_markKnotS_v1_rs, true, laws_markKnotS_v1_fn fuel⟩
theorem laws_markKnotS_v1_spec (fuel : Nat) : FnSpecG Tryz.prog 170 (laws_markKnotS_v1_tf fuel) :=
  fn_specG (T := laws_markKnotS_v1_T fuel) (c := bodyOf Tryz.f170) (fn := Tryz.f170) (TabOK.of (entNil) (methNil)) mixed (by kernel_rfl) (by kernel_rfl) laws_markKnotS_v1_l (by kernel_rfl) (Nat.le_of_ble_eq_true (by kernel_rfl)) (rv := laws_markKnotS_v1_rv) (by kernel_rfl) (fun x y h => (laws_markKnotS_v1_run fuel x).trans h)
theorem laws_markKnotS_v1_ok (fuel : Nat) : EntryOK Tryz.prog 170 (laws_markKnotS_v1_tf fuel).te := EntryOK.tg rfl (laws_markKnotS_v1_spec fuel) (isFn (fn := Tryz.f170) (by kernel_rfl) (by kernel_rfl) (by kernel_rfl))
def laws_markRank_T (fuel : Nat) : Tab := Tab.of [(170, (laws_markKnotS_v0_tf fuel).te), (170, (laws_markKnotS_v1_tf fuel).te)] []
def laws_markRank_ann : List Norm := []
noncomputable def laws_markRank_c : C := irOf Tryz.prog Tryz.f121 [] laws_markRank_ann []
theorem laws_markRank_l : lightC Tryz.prog [] Tryz.f121.ntmps laws_markRank_ann [] 0 (bodyOf Tryz.f121) = some (laws_markRank_c, 0) := by kernel_rfl
def laws_markRank_rv : List (Nat × Option (Nat × Bool)) := [(4, none)]
noncomputable def laws_markRank_ie (fuel : Nat) : IE := inlIE 2 (laws_markRank_T fuel) fuel laws_markRank_c laws_markRank_rv
theorem laws_markRank_ok (fuel : Nat) : ISound Tryz.prog 121 (laws_markRank_ie fuel) :=
  inl_sound (T := laws_markRank_T fuel) (c := bodyOf Tryz.f121) (fn := Tryz.f121) (TabOK.of (entCons (laws_markKnotS_v0_ok fuel) (entCons (laws_markKnotS_v1_ok fuel) entNil)) (methNil)) mixed (by kernel_rfl) (by kernel_rfl) laws_markRank_l (by kernel_rfl) (Nat.le_of_ble_eq_true (by kernel_rfl)) (rv := laws_markRank_rv) (by kernel_rfl) (isFn (fn := Tryz.f121) (by kernel_rfl) (by kernel_rfl) (by kernel_rfl))
noncomputable def laws_markSum_T (fuel : Nat) : Tab := Tab.ofI [] [] [(118, laws_markRough_ie fuel), (119, laws_markFew_ie fuel), (120, laws_markTop_ie fuel), (121, laws_markRank_ie fuel)]
def laws_markSum_ann : List Norm := []
noncomputable def laws_markSum_c : C := irOf Tryz.prog Tryz.f72 [8, 12, 16, 20] laws_markSum_ann []
theorem laws_markSum_l : lightC Tryz.prog [8, 12, 16, 20] Tryz.f72.ntmps laws_markSum_ann [] 0 (bodyOf Tryz.f72) = some (laws_markSum_c, 0) := by kernel_rfl
def laws_markSum_rv : List (Nat × Option (Nat × Bool)) := [(4, none)]
noncomputable def laws_markSum_ie (fuel : Nat) : IE := inlIE 2 (laws_markSum_T fuel) fuel laws_markSum_c laws_markSum_rv
theorem laws_markSum_ok (fuel : Nat) : ISound Tryz.prog 72 (laws_markSum_ie fuel) :=
  inl_sound (T := laws_markSum_T fuel) (c := bodyOf Tryz.f72) (fn := Tryz.f72) (TabOK.ofI (entNil) (methNil) (inlCons (laws_markRough_ok fuel) (inlCons (laws_markFew_ok fuel) (inlCons (laws_markTop_ok fuel) (inlCons (laws_markRank_ok fuel) (inlNil)))))) mixed (by kernel_rfl) (by kernel_rfl) laws_markSum_l (by kernel_rfl) (Nat.le_of_ble_eq_true (by kernel_rfl)) (rv := laws_markSum_rv) (by kernel_rfl) (isFn (fn := Tryz.f72) (by kernel_rfl) (by kernel_rfl) (by kernel_rfl))
def laws_heldIntS_T (fuel : Nat) : Tab := Tab.of [] []
abbrev laws_heldIntS_ps : List Pm := [{ cs := [(Kd.list I6, false)], ag := false }, { cs := [(I6, false)], ag := false }]
abbrev laws_heldIntS_rs : List Pm := [{ cs := [(I6, false)], ag := false }]
def laws_heldIntS_ann : List Norm := [{ live := [5, 0, 1], fix := [] }]
noncomputable def laws_heldIntS_c : C := irOf Tryz.prog Tryz.f172 [] laws_heldIntS_ann []
theorem laws_heldIntS_l : lightC Tryz.prog [] Tryz.f172.ntmps laws_heldIntS_ann [] 0 (bodyOf Tryz.f172) = some (laws_heldIntS_c, 1) := by kernel_rfl
def laws_heldIntS_rv : List (Nat × Option (Nat × Bool)) := [(4, none)]
abbrev laws_heldIntS_V0 := (Int) × (List Int) × (Int)
def laws_heldIntS_enc0 (v : laws_heldIntS_V0) : Env × Heap := ([(5, SV.int .i64 v.1), (0, SV.es I6 v.2.1), (1, SV.int .i64 v.2.2)], [])
def laws_heldIntS_step0 (fuel : Nat) (g0 : laws_heldIntS_V0 → Option ((Int × Unit) × Unit)) (v : laws_heldIntS_V0) : Option ((Int × Unit) × Unit) :=
 cond (decide (v.1 < (zz (List.length v.2.1))))
 (tst (decide (0 ≤ v.1)) <|
  tst (decide (v.1 < (zz (List.length v.2.1)))) <|
  cond (List.getD v.2.1 (Int.toNat v.1) 0 != v.2.2)
  (some ((((-1 : Int), ()), ())))
  (g0 (w64 (v.1 + (1 : Int)), v.2.1, w64 (v.2.2 + (1 : Int)))))
 (some (((v.2.2, ()), ())))
def laws_heldIntS_st0 (fuel : Nat) (g0 : laws_heldIntS_V0 → Option ((Int × Unit) × Unit)) : laws_heldIntS_V0 → Option ((Int × Unit) × Unit) := laws_heldIntS_step0 fuel g0
theorem laws_heldIntS_lp0 (fuel : Nat) (G) : laws_heldIntS_c.lp (laws_heldIntS_T fuel) 0 fuel G (endF laws_heldIntS_rv laws_heldIntS_rs) 0 laws_heldIntS_enc0 = iter (laws_heldIntS_st0 fuel) fuel := C.lp_iter fun g v => by kernel_rfl
def laws_heldIntS_pre (fuel : Nat) (X0 : laws_heldIntS_V0 → Option ((Int × Unit) × Unit)) (x0 : List Int) (x1 : Int) : Option ((Int × Unit) × Unit) :=
 X0 ((0 : Int), x0, x1)
def laws_heldIntS_fn (fuel : Nat) (x : (((List Int) × Unit) × ((Int × Unit) × Unit))) : Option ((Int × Unit) × Unit) := laws_heldIntS_pre fuel (iter (laws_heldIntS_st0 fuel) fuel) x.1.1 x.2.1.1
theorem laws_heldIntS_run (fuel : Nat) (x : PsT laws_heldIntS_ps) : run (laws_heldIntS_T fuel) 0 fuel laws_heldIntS_c (env0 (svPs laws_heldIntS_ps x) 0) [] (endF laws_heldIntS_rv laws_heldIntS_rs) = laws_heldIntS_fn fuel x :=
  (show run (laws_heldIntS_T fuel) 0 fuel laws_heldIntS_c (env0 (svPs laws_heldIntS_ps x) 0) [] (endF laws_heldIntS_rv laws_heldIntS_rs) = laws_heldIntS_pre fuel (laws_heldIntS_c.lp (laws_heldIntS_T fuel) 0 fuel (fun _ _ _ => none) (endF laws_heldIntS_rv laws_heldIntS_rs) 0 laws_heldIntS_enc0) x.1.1 x.2.1.1 by kernel_rfl).trans (by rw [laws_heldIntS_lp0]; rfl)
def laws_heldIntS_tf (fuel : Nat) : TF := ⟨laws_heldIntS_ps, laws_heldIntS_rs, true, laws_heldIntS_fn fuel⟩
theorem laws_heldIntS_spec (fuel : Nat) : FnSpec Tryz.prog 172 (laws_heldIntS_tf fuel) :=
  fn_spec (T := laws_heldIntS_T fuel) (c := bodyOf Tryz.f172) (fn := Tryz.f172) (TabOK.of (entNil) (methNil)) mixed (by kernel_rfl) (by kernel_rfl) laws_heldIntS_l (by kernel_rfl) (Nat.le_of_ble_eq_true (by kernel_rfl)) (rv := laws_heldIntS_rv) (by kernel_rfl) (laws_heldIntS_run fuel)
theorem laws_heldIntS_ok (fuel : Nat) : EntryOK Tryz.prog 172 (laws_heldIntS_tf fuel).te := EntryOK.tf rfl (laws_heldIntS_spec fuel) (isFn (fn := Tryz.f172) (by kernel_rfl) (by kernel_rfl) (by kernel_rfl))
def laws_heldIntSS_T (fuel : Nat) : Tab := Tab.of [(172, (laws_heldIntS_tf fuel).te)] []
abbrev laws_heldIntSS_ps : List Pm := [{ cs := [(Kd.list (Kd.list I6), false)], ag := false }, { cs := [(I6, false)], ag := false }]
abbrev laws_heldIntSS_rs : List Pm := [{ cs := [(I6, false)], ag := false }]
def laws_heldIntSS_ann : List Norm := [{ live := [5, 0, 1], fix := [] }]
noncomputable def laws_heldIntSS_c : C := irOf Tryz.prog Tryz.f171 [] laws_heldIntSS_ann []
theorem laws_heldIntSS_l : lightC Tryz.prog [] Tryz.f171.ntmps laws_heldIntSS_ann [] 0 (bodyOf Tryz.f171) = some (laws_heldIntSS_c, 1) := by kernel_rfl
def laws_heldIntSS_rv : List (Nat × Option (Nat × Bool)) := [(4, none)]
abbrev laws_heldIntSS_V0 := (Int) × (List (List Int)) × (Int)
def laws_heldIntSS_enc0 (v : laws_heldIntSS_V0) : Env × Heap := ([(5, SV.int .i64 v.1), (0, SV.es (Kd.list I6) v.2.1), (1, SV.int .i64 v.2.2)], [])
def laws_heldIntSS_step0 (fuel : Nat) (g0 : laws_heldIntSS_V0 → Option ((Int × Unit) × Unit)) (v : laws_heldIntSS_V0) : Option ((Int × Unit) × Unit) :=
 cond (decide (v.1 < (zz (List.length v.2.1))))
 (tst (decide (0 ≤ v.1)) <|
  tst (decide (v.1 < (zz (List.length v.2.1)))) <|
  Option.bind (laws_heldIntS_fn fuel ((List.getD v.2.1 (Int.toNat v.1) [], ()), (v.2.2, ()), ())) fun y_2 =>
  cond (decide (y_2.1.1 < (0 : Int)))
   (some ((((-1 : Int), ()), ())))
   (g0 (w64 (v.1 + (1 : Int)), v.2.1, y_2.1.1)))
 (some (((v.2.2, ()), ())))
def laws_heldIntSS_st0 (fuel : Nat) (g0 : laws_heldIntSS_V0 → Option ((Int × Unit) × Unit)) : laws_heldIntSS_V0 → Option ((Int × Unit) × Unit) := laws_heldIntSS_step0 fuel g0
theorem laws_heldIntSS_lp0 (fuel : Nat) (G) : laws_heldIntSS_c.lp (laws_heldIntSS_T fuel) 0 fuel G (endF laws_heldIntSS_rv laws_heldIntSS_rs) 0 laws_heldIntSS_enc0 = iter (laws_heldIntSS_st0 fuel) fuel := C.lp_iter fun g v => by kernel_rfl
def laws_heldIntSS_pre (fuel : Nat) (X0 : laws_heldIntSS_V0 → Option ((Int × Unit) × Unit)) (x0 : List (List Int)) (x1 : Int) : Option ((Int × Unit) × Unit) :=
 X0 ((0 : Int), x0, x1)
def laws_heldIntSS_fn (fuel : Nat) (x : (((List (List Int)) × Unit) × ((Int × Unit) × Unit))) : Option ((Int × Unit) × Unit) := laws_heldIntSS_pre fuel (iter (laws_heldIntSS_st0 fuel) fuel) x.1.1 x.2.1.1
theorem laws_heldIntSS_run (fuel : Nat) (x : PsT laws_heldIntSS_ps) : run (laws_heldIntSS_T fuel) 0 fuel laws_heldIntSS_c (env0 (svPs laws_heldIntSS_ps x) 0) [] (endF laws_heldIntSS_rv laws_heldIntSS_rs) = laws_heldIntSS_fn fuel x :=
  (show run (laws_heldIntSS_T fuel) 0 fuel laws_heldIntSS_c (env0 (svPs laws_heldIntSS_ps x) 0) [] (endF laws_heldIntSS_rv laws_heldIntSS_rs) = laws_heldIntSS_pre fuel (laws_heldIntSS_c.lp (laws_heldIntSS_T fuel) 0 fuel (fun _ _ _ => none) (endF laws_heldIntSS_rv laws_heldIntSS_rs) 0 laws_heldIntSS_enc0) x.1.1 x.2.1.1 by kernel_rfl).trans (by rw [laws_heldIntSS_lp0]; rfl)
def laws_heldIntSS_tf (fuel : Nat) : TF := ⟨laws_heldIntSS_ps, laws_heldIntSS_rs, true, laws_heldIntSS_fn fuel⟩
theorem laws_heldIntSS_spec (fuel : Nat) : FnSpec Tryz.prog 171 (laws_heldIntSS_tf fuel) :=
  fn_spec (T := laws_heldIntSS_T fuel) (c := bodyOf Tryz.f171) (fn := Tryz.f171) (TabOK.of (entCons (laws_heldIntS_ok fuel) entNil) (methNil)) mixed (by kernel_rfl) (by kernel_rfl) laws_heldIntSS_l (by kernel_rfl) (Nat.le_of_ble_eq_true (by kernel_rfl)) (rv := laws_heldIntSS_rv) (by kernel_rfl) (laws_heldIntSS_run fuel)
theorem laws_heldIntSS_ok (fuel : Nat) : EntryOK Tryz.prog 171 (laws_heldIntSS_tf fuel).te := EntryOK.tf rfl (laws_heldIntSS_spec fuel) (isFn (fn := Tryz.f171) (by kernel_rfl) (by kernel_rfl) (by kernel_rfl))
def laws_heldRough_T (fuel : Nat) : Tab := Tab.of [(171, (laws_heldIntSS_tf fuel).te)] []
abbrev laws_heldRough_ps : List Pm := [{ cs := [(Kd.list (Kd.list I6), false)], ag := true }, { cs := [(I6, false)], ag := false }]
abbrev laws_heldRough_rs : List Pm := [{ cs := [(I6, false)], ag := false }]
def laws_heldRough_ann : List Norm := []
noncomputable def laws_heldRough_c : C := irOf Tryz.prog Tryz.f122 [] laws_heldRough_ann []
theorem laws_heldRough_l : lightC Tryz.prog [] Tryz.f122.ntmps laws_heldRough_ann [] 0 (bodyOf Tryz.f122) = some (laws_heldRough_c, 0) := by kernel_rfl
def laws_heldRough_rv : List (Nat × Option (Nat × Bool)) := [(4, none)]
def laws_heldRough_pre (fuel : Nat) (x0 : List (List Int)) (x1 : Int) : Option ((Int × Unit) × Unit) :=
 Option.bind (laws_heldIntSS_fn fuel ((x0, ()), (x1, ()), ())) fun y_1 =>
 cond (decide (y_1.1.1 < (0 : Int)))
  (some ((((-1 : Int), ()), ())))
  (some (((y_1.1.1, ()), ())))
def laws_heldRough_fn (fuel : Nat) (x : (((List (List Int)) × Unit) × ((Int × Unit) × Unit))) : Option ((Int × Unit) × Unit) := laws_heldRough_pre fuel x.1.1 x.2.1.1
theorem laws_heldRough_run (fuel : Nat) (x : PsT laws_heldRough_ps) : run (laws_heldRough_T fuel) 0 fuel laws_heldRough_c (env0 (svPs laws_heldRough_ps x) 0) [] (endF laws_heldRough_rv laws_heldRough_rs) = laws_heldRough_fn fuel x := by kernel_rfl
def laws_heldRough_tf (fuel : Nat) : TF := ⟨laws_heldRough_ps, laws_heldRough_rs, true, laws_heldRough_fn fuel⟩
theorem laws_heldRough_spec (fuel : Nat) : FnSpec Tryz.prog 122 (laws_heldRough_tf fuel) :=
  fn_spec (T := laws_heldRough_T fuel) (c := bodyOf Tryz.f122) (fn := Tryz.f122) (TabOK.of (entCons (laws_heldIntSS_ok fuel) entNil) (methNil)) mixed (by kernel_rfl) (by kernel_rfl) laws_heldRough_l (by kernel_rfl) (Nat.le_of_ble_eq_true (by kernel_rfl)) (rv := laws_heldRough_rv) (by kernel_rfl) (laws_heldRough_run fuel)
theorem laws_heldRough_ok (fuel : Nat) : EntryOK Tryz.prog 122 (laws_heldRough_tf fuel).te := EntryOK.tf rfl (laws_heldRough_spec fuel) (isFn (fn := Tryz.f122) (by kernel_rfl) (by kernel_rfl) (by kernel_rfl))
end Go.Proofs.YtdgdoeknpakmlaaGreat.Den
namespace Go.Proofs.YtdgdoeknpakmlaaGreat.Den
open Go Go.RowKit
set_option linter.unusedVariables false
set_option linter.unusedSimpArgs false
def laws_heldFew_T (fuel : Nat) : Tab := Tab.of [(172, (laws_heldIntS_tf fuel).te)] []
abbrev laws_heldFew_ps : List Pm := [{ cs := [(Kd.list I6, false)], ag := true }, { cs := [(I6, false)], ag := false }]
abbrev laws_heldFew_rs : List Pm := [{ cs := [(I6, false)], ag := false }]
def laws_heldFew_ann : List Norm := []
noncomputable def laws_heldFew_c : C := irOf Tryz.prog Tryz.f123 [] laws_heldFew_ann []
theorem laws_heldFew_l : lightC Tryz.prog [] Tryz.f123.ntmps laws_heldFew_ann [] 0 (bodyOf Tryz.f123) = some (laws_heldFew_c, 0) := by kernel_rfl
def laws_heldFew_rv : List (Nat × Option (Nat × Bool)) := [(4, none)]
def laws_heldFew_pre (fuel : Nat) (x0 : List Int) (x1 : Int) : Option ((Int × Unit) × Unit) :=
 Option.bind (laws_heldIntS_fn fuel ((x0, ()), (x1, ()), ())) fun y_1 =>
 cond (decide (y_1.1.1 < (0 : Int)))
  (some ((((-1 : Int), ()), ())))
  (some (((y_1.1.1, ()), ())))
def laws_heldFew_fn (fuel : Nat) (x : (((List Int) × Unit) × ((Int × Unit) × Unit))) : Option ((Int × Unit) × Unit) := laws_heldFew_pre fuel x.1.1 x.2.1.1
theorem laws_heldFew_run (fuel : Nat) (x : PsT laws_heldFew_ps) : run (laws_heldFew_T fuel) 0 fuel laws_heldFew_c (env0 (svPs laws_heldFew_ps x) 0) [] (endF laws_heldFew_rv laws_heldFew_rs) = laws_heldFew_fn fuel x := by kernel_rfl
def laws_heldFew_tf (fuel : Nat) : TF := ⟨laws_heldFew_ps, laws_heldFew_rs, true, laws_heldFew_fn fuel⟩
theorem laws_heldFew_spec (fuel : Nat) : FnSpec Tryz.prog 123 (laws_heldFew_tf fuel) :=
  fn_spec (T := laws_heldFew_T fuel) (c := bodyOf Tryz.f123) (fn := Tryz.f123) (TabOK.of (entCons (laws_heldIntS_ok fuel) entNil) (methNil)) mixed (by kernel_rfl) (by kernel_rfl) laws_heldFew_l (by kernel_rfl) (Nat.le_of_ble_eq_true (by kernel_rfl)) (rv := laws_heldFew_rv) (by kernel_rfl) (laws_heldFew_run fuel)
theorem laws_heldFew_ok (fuel : Nat) : EntryOK Tryz.prog 123 (laws_heldFew_tf fuel).te := EntryOK.tf rfl (laws_heldFew_spec fuel) (isFn (fn := Tryz.f123) (by kernel_rfl) (by kernel_rfl) (by kernel_rfl))
def laws_heldPairS_T (fuel : Nat) : Tab := Tab.of [] []
abbrev laws_heldPairS_ps : List Pm := [{ cs := [(Kd.list KP, false)], ag := false }, { cs := [(I6, false)], ag := false }]
abbrev laws_heldPairS_rs : List Pm := [{ cs := [(I6, false)], ag := false }]
def laws_heldPairS_ann : List Norm := [{ live := [5, 0, 1], fix := [] }]
noncomputable def laws_heldPairS_c : C := irOf Tryz.prog Tryz.f173 [] laws_heldPairS_ann []
theorem laws_heldPairS_l : lightC Tryz.prog [] Tryz.f173.ntmps laws_heldPairS_ann [] 0 (bodyOf Tryz.f173) = some (laws_heldPairS_c, 1) := by kernel_rfl
def laws_heldPairS_rv : List (Nat × Option (Nat × Bool)) := [(4, none)]
abbrev laws_heldPairS_V0 := (Int) × LP × (Int)
def laws_heldPairS_enc0 (v : laws_heldPairS_V0) : Env × Heap := ([(5, SV.int .i64 v.1), (0, SV.es KP v.2.1), (1, SV.int .i64 v.2.2)], [])
def laws_heldPairS_step0 (fuel : Nat) (g0 : laws_heldPairS_V0 → Option ((Int × Unit) × Unit)) (v : laws_heldPairS_V0) : Option ((Int × Unit) × Unit) :=
 cond (decide (v.1 < (zz (List.length v.2.1))))
 (tst (decide (0 ≤ v.1)) <|
  tst (decide (v.1 < (zz (List.length v.2.1)))) <|
  cond ((List.getD v.2.1 (Int.toNat v.1) (0, (0, ()))).1 != v.2.2)
  (some ((((-1 : Int), ()), ())))
  (tst (decide (0 ≤ v.1)) <|
   tst (decide (v.1 < (zz (List.length v.2.1)))) <|
   cond ((List.getD v.2.1 (Int.toNat v.1) (0, (0, ()))).2.1 != w64 (v.2.2 + (1 : Int)))
   (some ((((-1 : Int), ()), ())))
   (g0 (w64 (v.1 + (1 : Int)), v.2.1, w64 (w64 (v.2.2 + (1 : Int)) + (1 : Int))))))
 (some (((v.2.2, ()), ())))
def laws_heldPairS_st0 (fuel : Nat) (g0 : laws_heldPairS_V0 → Option ((Int × Unit) × Unit)) : laws_heldPairS_V0 → Option ((Int × Unit) × Unit) := laws_heldPairS_step0 fuel g0
theorem laws_heldPairS_lp0 (fuel : Nat) (G) : laws_heldPairS_c.lp (laws_heldPairS_T fuel) 0 fuel G (endF laws_heldPairS_rv laws_heldPairS_rs) 0 laws_heldPairS_enc0 = iter (laws_heldPairS_st0 fuel) fuel := C.lp_iter fun g v => by kernel_rfl
def laws_heldPairS_pre (fuel : Nat) (X0 : laws_heldPairS_V0 → Option ((Int × Unit) × Unit)) (x0 : LP) (x1 : Int) : Option ((Int × Unit) × Unit) :=
 X0 ((0 : Int), x0, x1)
def laws_heldPairS_fn (fuel : Nat) (x : ((LP × Unit) × ((Int × Unit) × Unit))) : Option ((Int × Unit) × Unit) := laws_heldPairS_pre fuel (iter (laws_heldPairS_st0 fuel) fuel) x.1.1 x.2.1.1
theorem laws_heldPairS_run (fuel : Nat) (x : PsT laws_heldPairS_ps) : run (laws_heldPairS_T fuel) 0 fuel laws_heldPairS_c (env0 (svPs laws_heldPairS_ps x) 0) [] (endF laws_heldPairS_rv laws_heldPairS_rs) = laws_heldPairS_fn fuel x :=
  (show run (laws_heldPairS_T fuel) 0 fuel laws_heldPairS_c (env0 (svPs laws_heldPairS_ps x) 0) [] (endF laws_heldPairS_rv laws_heldPairS_rs) = laws_heldPairS_pre fuel (laws_heldPairS_c.lp (laws_heldPairS_T fuel) 0 fuel (fun _ _ _ => none) (endF laws_heldPairS_rv laws_heldPairS_rs) 0 laws_heldPairS_enc0) x.1.1 x.2.1.1 by kernel_rfl).trans (by rw [laws_heldPairS_lp0]; rfl)
def laws_heldPairS_tf (fuel : Nat) : TF := ⟨laws_heldPairS_ps, laws_heldPairS_rs, true, laws_heldPairS_fn fuel⟩
theorem laws_heldPairS_spec (fuel : Nat) : FnSpec Tryz.prog 173 (laws_heldPairS_tf fuel) :=
  fn_spec (T := laws_heldPairS_T fuel) (c := bodyOf Tryz.f173) (fn := Tryz.f173) (TabOK.of (entNil) (methNil)) mixed (by kernel_rfl) (by kernel_rfl) laws_heldPairS_l (by kernel_rfl) (Nat.le_of_ble_eq_true (by kernel_rfl)) (rv := laws_heldPairS_rv) (by kernel_rfl) (laws_heldPairS_run fuel)
theorem laws_heldPairS_ok (fuel : Nat) : EntryOK Tryz.prog 173 (laws_heldPairS_tf fuel).te := EntryOK.tf rfl (laws_heldPairS_spec fuel) (isFn (fn := Tryz.f173) (by kernel_rfl) (by kernel_rfl) (by kernel_rfl))
def laws_heldTop_T (fuel : Nat) : Tab := Tab.of [(173, (laws_heldPairS_tf fuel).te)] []
abbrev laws_heldTop_ps : List Pm := [{ cs := [(Kd.list KP, false), (I6, false), (I6, false)], ag := true }, { cs := [(I6, false)], ag := false }]
abbrev laws_heldTop_rs : List Pm := [{ cs := [(I6, false)], ag := false }]
def laws_heldTop_ann : List Norm := []
noncomputable def laws_heldTop_c : C := irOf Tryz.prog Tryz.f124 [] laws_heldTop_ann []
theorem laws_heldTop_l : lightC Tryz.prog [] Tryz.f124.ntmps laws_heldTop_ann [] 0 (bodyOf Tryz.f124) = some (laws_heldTop_c, 0) := by kernel_rfl
def laws_heldTop_rv : List (Nat × Option (Nat × Bool)) := [(4, none)]
def laws_heldTop_pre (fuel : Nat) (x0 : LP) (x1 : Int) (x2 : Int) (x3 : Int) : Option ((Int × Unit) × Unit) :=
 Option.bind (laws_heldPairS_fn fuel ((x0, ()), (x3, ()), ())) fun y_1 =>
 cond (decide (y_1.1.1 < (0 : Int)))
  (some ((((-1 : Int), ()), ())))
  (some (((y_1.1.1, ()), ())))
def laws_heldTop_fn (fuel : Nat) (x : ((LP × (Int × (Int × Unit))) × ((Int × Unit) × Unit))) : Option ((Int × Unit) × Unit) := laws_heldTop_pre fuel x.1.1 x.1.2.1 x.1.2.2.1 x.2.1.1
theorem laws_heldTop_run (fuel : Nat) (x : PsT laws_heldTop_ps) : run (laws_heldTop_T fuel) 0 fuel laws_heldTop_c (env0 (svPs laws_heldTop_ps x) 0) [] (endF laws_heldTop_rv laws_heldTop_rs) = laws_heldTop_fn fuel x := by kernel_rfl
def laws_heldTop_tf (fuel : Nat) : TF := ⟨laws_heldTop_ps, laws_heldTop_rs, true, laws_heldTop_fn fuel⟩
theorem laws_heldTop_spec (fuel : Nat) : FnSpec Tryz.prog 124 (laws_heldTop_tf fuel) :=
  fn_spec (T := laws_heldTop_T fuel) (c := bodyOf Tryz.f124) (fn := Tryz.f124) (TabOK.of (entCons (laws_heldPairS_ok fuel) entNil) (methNil)) mixed (by kernel_rfl) (by kernel_rfl) laws_heldTop_l (by kernel_rfl) (Nat.le_of_ble_eq_true (by kernel_rfl)) (rv := laws_heldTop_rv) (by kernel_rfl) (laws_heldTop_run fuel)
theorem laws_heldTop_ok (fuel : Nat) : EntryOK Tryz.prog 124 (laws_heldTop_tf fuel).te := EntryOK.tf rfl (laws_heldTop_spec fuel) (isFn (fn := Tryz.f124) (by kernel_rfl) (by kernel_rfl) (by kernel_rfl))
def laws_heldKnotS_T (fuel : Nat) : Tab := Tab.of [] []
abbrev laws_heldKnotS_ps : List Pm := [{ cs := [(Kd.list KP, false)], ag := false }, { cs := [(I6, false)], ag := false }]
abbrev laws_heldKnotS_rs : List Pm := [{ cs := [(I6, false)], ag := false }]
def laws_heldKnotS_ann : List Norm := [{ live := [5, 0, 1], fix := [] }]
noncomputable def laws_heldKnotS_c : C := irOf Tryz.prog Tryz.f174 [] laws_heldKnotS_ann []
theorem laws_heldKnotS_l : lightC Tryz.prog [] Tryz.f174.ntmps laws_heldKnotS_ann [] 0 (bodyOf Tryz.f174) = some (laws_heldKnotS_c, 1) := by kernel_rfl
def laws_heldKnotS_rv : List (Nat × Option (Nat × Bool)) := [(4, none)]
abbrev laws_heldKnotS_V0 := (Int) × LP × (Int)
def laws_heldKnotS_enc0 (v : laws_heldKnotS_V0) : Env × Heap := ([(5, SV.int .i64 v.1), (0, SV.es KP v.2.1), (1, SV.int .i64 v.2.2)], [])
def laws_heldKnotS_step0 (fuel : Nat) (g0 : laws_heldKnotS_V0 → Option ((Int × Unit) × Unit)) (v : laws_heldKnotS_V0) : Option ((Int × Unit) × Unit) :=
 cond (decide (v.1 < (zz (List.length v.2.1))))
 (tst (decide (0 ≤ v.1)) <|
  tst (decide (v.1 < (zz (List.length v.2.1)))) <|
  cond ((List.getD v.2.1 (Int.toNat v.1) (0, (0, ()))).1 != v.2.2)
  (some ((((-1 : Int), ()), ())))
  (tst (decide (0 ≤ v.1)) <|
   tst (decide (v.1 < (zz (List.length v.2.1)))) <|
   cond ((List.getD v.2.1 (Int.toNat v.1) (0, (0, ()))).2.1 != w64 (v.2.2 + (1 : Int)))
   (some ((((-1 : Int), ()), ())))
   (g0 (w64 (v.1 + (1 : Int)), v.2.1, w64 (w64 (v.2.2 + (1 : Int)) + (1 : Int))))))
 (some (((v.2.2, ()), ())))
def laws_heldKnotS_st0 (fuel : Nat) (g0 : laws_heldKnotS_V0 → Option ((Int × Unit) × Unit)) : laws_heldKnotS_V0 → Option ((Int × Unit) × Unit) := laws_heldKnotS_step0 fuel g0
theorem laws_heldKnotS_lp0 (fuel : Nat) (G) : laws_heldKnotS_c.lp (laws_heldKnotS_T fuel) 0 fuel G (endF laws_heldKnotS_rv laws_heldKnotS_rs) 0 laws_heldKnotS_enc0 = iter (laws_heldKnotS_st0 fuel) fuel := C.lp_iter fun g v => by kernel_rfl
def laws_heldKnotS_pre (fuel : Nat) (X0 : laws_heldKnotS_V0 → Option ((Int × Unit) × Unit)) (x0 : LP) (x1 : Int) : Option ((Int × Unit) × Unit) :=
 X0 ((0 : Int), x0, x1)
def laws_heldKnotS_fn (fuel : Nat) (x : ((LP × Unit) × ((Int × Unit) × Unit))) : Option ((Int × Unit) × Unit) := laws_heldKnotS_pre fuel (iter (laws_heldKnotS_st0 fuel) fuel) x.1.1 x.2.1.1
theorem laws_heldKnotS_run (fuel : Nat) (x : PsT laws_heldKnotS_ps) : run (laws_heldKnotS_T fuel) 0 fuel laws_heldKnotS_c (env0 (svPs laws_heldKnotS_ps x) 0) [] (endF laws_heldKnotS_rv laws_heldKnotS_rs) = laws_heldKnotS_fn fuel x :=
  (show run (laws_heldKnotS_T fuel) 0 fuel laws_heldKnotS_c (env0 (svPs laws_heldKnotS_ps x) 0) [] (endF laws_heldKnotS_rv laws_heldKnotS_rs) = laws_heldKnotS_pre fuel (laws_heldKnotS_c.lp (laws_heldKnotS_T fuel) 0 fuel (fun _ _ _ => none) (endF laws_heldKnotS_rv laws_heldKnotS_rs) 0 laws_heldKnotS_enc0) x.1.1 x.2.1.1 by kernel_rfl).trans (by rw [laws_heldKnotS_lp0]; rfl)
def laws_heldKnotS_tf (fuel : Nat) : TF := ⟨laws_heldKnotS_ps, laws_heldKnotS_rs, true, laws_heldKnotS_fn fuel⟩
theorem laws_heldKnotS_spec (fuel : Nat) : FnSpec Tryz.prog 174 (laws_heldKnotS_tf fuel) :=
  fn_spec (T := laws_heldKnotS_T fuel) (c := bodyOf Tryz.f174) (fn := Tryz.f174) (TabOK.of (entNil) (methNil)) mixed (by kernel_rfl) (by kernel_rfl) laws_heldKnotS_l (by kernel_rfl) (Nat.le_of_ble_eq_true (by kernel_rfl)) (rv := laws_heldKnotS_rv) (by kernel_rfl) (laws_heldKnotS_run fuel)
theorem laws_heldKnotS_ok (fuel : Nat) : EntryOK Tryz.prog 174 (laws_heldKnotS_tf fuel).te := EntryOK.tf rfl (laws_heldKnotS_spec fuel) (isFn (fn := Tryz.f174) (by kernel_rfl) (by kernel_rfl) (by kernel_rfl))
def laws_heldRank_T (fuel : Nat) : Tab := Tab.of [(174, (laws_heldKnotS_tf fuel).te)] []
abbrev laws_heldRank_ps : List Pm := [{ cs := [(Kd.list KP, false), (I6, false)], ag := true }, { cs := [(I6, false)], ag := false }]
abbrev laws_heldRank_rs : List Pm := [{ cs := [(I6, false)], ag := false }]
def laws_heldRank_ann : List Norm := []
noncomputable def laws_heldRank_c : C := irOf Tryz.prog Tryz.f125 [] laws_heldRank_ann []
theorem laws_heldRank_l : lightC Tryz.prog [] Tryz.f125.ntmps laws_heldRank_ann [] 0 (bodyOf Tryz.f125) = some (laws_heldRank_c, 0) := by kernel_rfl
def laws_heldRank_rv : List (Nat × Option (Nat × Bool)) := [(4, none)]
def laws_heldRank_pre (fuel : Nat) (x0 : LP) (x1 : Int) (x2 : Int) : Option ((Int × Unit) × Unit) :=
 Option.bind (laws_heldKnotS_fn fuel ((x0, ()), (x2, ()), ())) fun y_1 =>
 cond (decide (y_1.1.1 < (0 : Int)))
  (some ((((-1 : Int), ()), ())))
  (some (((y_1.1.1, ()), ())))
def laws_heldRank_fn (fuel : Nat) (x : ((LP × (Int × Unit)) × ((Int × Unit) × Unit))) : Option ((Int × Unit) × Unit) := laws_heldRank_pre fuel x.1.1 x.1.2.1 x.2.1.1
theorem laws_heldRank_run (fuel : Nat) (x : PsT laws_heldRank_ps) : run (laws_heldRank_T fuel) 0 fuel laws_heldRank_c (env0 (svPs laws_heldRank_ps x) 0) [] (endF laws_heldRank_rv laws_heldRank_rs) = laws_heldRank_fn fuel x := by kernel_rfl
def laws_heldRank_tf (fuel : Nat) : TF := ⟨laws_heldRank_ps, laws_heldRank_rs, true, laws_heldRank_fn fuel⟩
theorem laws_heldRank_spec (fuel : Nat) : FnSpec Tryz.prog 125 (laws_heldRank_tf fuel) :=
  fn_spec (T := laws_heldRank_T fuel) (c := bodyOf Tryz.f125) (fn := Tryz.f125) (TabOK.of (entCons (laws_heldKnotS_ok fuel) entNil) (methNil)) mixed (by kernel_rfl) (by kernel_rfl) laws_heldRank_l (by kernel_rfl) (Nat.le_of_ble_eq_true (by kernel_rfl)) (rv := laws_heldRank_rv) (by kernel_rfl) (laws_heldRank_run fuel)
theorem laws_heldRank_ok (fuel : Nat) : EntryOK Tryz.prog 125 (laws_heldRank_tf fuel).te := EntryOK.tf rfl (laws_heldRank_spec fuel) (isFn (fn := Tryz.f125) (by kernel_rfl) (by kernel_rfl) (by kernel_rfl))
def laws_heldSum_T (fuel : Nat) : Tab := Tab.of [(122, (laws_heldRough_tf fuel).te), (123, (laws_heldFew_tf fuel).te), (124, (laws_heldTop_tf fuel).te), (125, (laws_heldRank_tf fuel).te)] []
abbrev laws_heldSum_ps : List Pm := [{ cs := [(Kd.list (Kd.list I6), false), (Kd.list I6, false), (Kd.list KP, false), (I6, false), (I6, false), (Kd.list KP, false), (I6, false)], ag := true }, { cs := [(I6, false)], ag := false }]
abbrev laws_heldSum_rs : List Pm := [{ cs := [(I6, false)], ag := false }]
def laws_heldSum_ann : List Norm := []
noncomputable def laws_heldSum_c : C := irOf Tryz.prog Tryz.f73 [] laws_heldSum_ann []
theorem laws_heldSum_l : lightC Tryz.prog [] Tryz.f73.ntmps laws_heldSum_ann [] 0 (bodyOf Tryz.f73) = some (laws_heldSum_c, 0) := by kernel_rfl
def laws_heldSum_rv : List (Nat × Option (Nat × Bool)) := [(4, none)]
def laws_heldSum_pre (fuel : Nat) (x0 : List (List Int)) (x1 : List Int) (x2 : LP) (x3 : Int) (x4 : Int) (x5 : LP) (x6 : Int) (x7 : Int) : Option ((Int × Unit) × Unit) :=
 Option.bind (laws_heldRough_fn fuel ((x0, ()), (x7, ()), ())) fun y_1 =>
 cond (decide (y_1.1.1 < (0 : Int)))
  (some ((((-1 : Int), ()), ())))
  (Option.bind (laws_heldFew_fn fuel ((x1, ()), (y_1.1.1, ()), ())) fun y_3 =>
   cond (decide (y_3.1.1 < (0 : Int)))
    (some ((((-1 : Int), ()), ())))
    (Option.bind (laws_heldTop_fn fuel ((x2, x3, x4, ()), (y_3.1.1, ()), ())) fun y_5 =>
     cond (decide (y_5.1.1 < (0 : Int)))
      (some ((((-1 : Int), ()), ())))
      (Option.bind (laws_heldRank_fn fuel ((x5, x6, ()), (y_5.1.1, ()), ())) fun y_7 =>
       cond (decide (y_7.1.1 < (0 : Int)))
        (some ((((-1 : Int), ()), ())))
        (some (((y_7.1.1, ()), ()))))))
def laws_heldSum_fn (fuel : Nat) (x : (SumY × ((Int × Unit) × Unit))) : Option ((Int × Unit) × Unit) := laws_heldSum_pre fuel x.1.1 x.1.2.1 x.1.2.2.1 x.1.2.2.2.1 x.1.2.2.2.2.1 x.1.2.2.2.2.2.1 x.1.2.2.2.2.2.2.1 x.2.1.1
theorem laws_heldSum_run (fuel : Nat) (x : PsT laws_heldSum_ps) : run (laws_heldSum_T fuel) 0 fuel laws_heldSum_c (env0 (svPs laws_heldSum_ps x) 0) [] (endF laws_heldSum_rv laws_heldSum_rs) = laws_heldSum_fn fuel x := by kernel_rfl
def laws_heldSum_tf (fuel : Nat) : TF := ⟨laws_heldSum_ps, laws_heldSum_rs, true, laws_heldSum_fn fuel⟩
theorem laws_heldSum_spec (fuel : Nat) : FnSpec Tryz.prog 73 (laws_heldSum_tf fuel) :=
  fn_spec (T := laws_heldSum_T fuel) (c := bodyOf Tryz.f73) (fn := Tryz.f73) (TabOK.of (entCons (laws_heldRough_ok fuel) (entCons (laws_heldFew_ok fuel) (entCons (laws_heldTop_ok fuel) (entCons (laws_heldRank_ok fuel) entNil)))) (methNil)) mixed (by kernel_rfl) (by kernel_rfl) laws_heldSum_l (by kernel_rfl) (Nat.le_of_ble_eq_true (by kernel_rfl)) (rv := laws_heldSum_rv) (by kernel_rfl) (laws_heldSum_run fuel)
theorem laws_heldSum_ok (fuel : Nat) : EntryOK Tryz.prog 73 (laws_heldSum_tf fuel).te := EntryOK.tf rfl (laws_heldSum_spec fuel) (isFn (fn := Tryz.f73) (by kernel_rfl) (by kernel_rfl) (by kernel_rfl))
abbrev impl_SumOf_x1_R := Option ((Int × (Int × (Int × Unit))) × (Bool × Unit))
def impl_SumOf_x1_T (fuel : Nat) : Tab := Tab.of [(36, (impl_SumNew_tf fuel).te), (80, (impl_Sum_counted_tf fuel).te)] []
abbrev impl_SumOf_x1_ps : Sh := (.cell (Kd.list I6) 0 .nil)
abbrev impl_SumOf_x1_rs : Sh := (.agg (.nls (.nls (.nls (.cell I6 0 (.cell I6 0 (.nls (.cell I6 0 .nil))))))) (.cell Kd.bool 0 .nil))
def impl_SumOf_x1_ann : List Norm := [{ live := [12, 11, 10, 4, 2], fix := [] }]
noncomputable def impl_SumOf_x1_c : C := irOf Tryz.prog Tryz.f30 [9, 19] impl_SumOf_x1_ann []
theorem impl_SumOf_x1_l : lightC Tryz.prog [9, 19] Tryz.f30.ntmps impl_SumOf_x1_ann [] 0 (bodyOf Tryz.f30) = some (impl_SumOf_x1_c, 1) := by kernel_rfl
def impl_SumOf_x1_rv : List (Nat × Option (Nat × Bool)) := [(2, some (7, true)), (3, none)]
abbrev impl_SumOf_x1_V0 := (Int) × (Int) × (List Int) × (List (List Int)) × (List Int) × LP × (Int) × (Int) × LP × (Int) × (Int) × (Int) × (Int)
def impl_SumOf_x1_enc0 (v : impl_SumOf_x1_V0) : Env × Heap := ([(12, SV.int .i64 v.1), (11, SV.int .i64 v.2.1), (10, SV.es I6 v.2.2.1), (4, SV.ptr 0 0), (2, SV.ptr 1 0)], [Blk.cells [SV.es (Kd.list I6) v.2.2.2.1, SV.es I6 v.2.2.2.2.1, SV.es KP v.2.2.2.2.2.1, SV.int .i64 v.2.2.2.2.2.2.1, SV.int .i64 v.2.2.2.2.2.2.2.1, SV.es KP v.2.2.2.2.2.2.2.2.1, SV.int .i64 v.2.2.2.2.2.2.2.2.2.1] 0 7, Blk.cells [SV.nils, SV.nils, SV.nils, SV.int .i64 v.2.2.2.2.2.2.2.2.2.2.1, SV.int .i64 v.2.2.2.2.2.2.2.2.2.2.2.1, SV.nils, SV.int .i64 v.2.2.2.2.2.2.2.2.2.2.2.2] 0 7])
def impl_SumOf_x1_step0 (fuel : Nat) (g0 : impl_SumOf_x1_V0 → impl_SumOf_x1_R) (v : impl_SumOf_x1_V0) : impl_SumOf_x1_R :=
 cond (decide (v.1 < v.2.1))
 (tst (decide (0 ≤ v.1)) <|
  tst (decide (v.1 < (zz (List.length v.2.2.1)))) <|
  Option.bind (impl_Sum_counted_fn fuel ((v.2.2.2.1, v.2.2.2.2.1, v.2.2.2.2.2.1, v.2.2.2.2.2.2.1, v.2.2.2.2.2.2.2.1, v.2.2.2.2.2.2.2.2.1, v.2.2.2.2.2.2.2.2.2.1, ()), (List.getD v.2.2.1 (Int.toNat v.1) 0, ()), ())) fun y_2 =>
  cond (!y_2.2.1.1)
   (some ((((0 : Int), (0 : Int), (0 : Int), ()), false, ())))
   (g0 (w64 (v.1 + (1 : Int)), v.2.1, v.2.2.1, y_2.1.1, y_2.1.2.1, y_2.1.2.2.1, y_2.1.2.2.2.1, y_2.1.2.2.2.2.1, y_2.1.2.2.2.2.2.1, y_2.1.2.2.2.2.2.2.1, v.2.2.2.2.2.2.2.2.2.2.1, v.2.2.2.2.2.2.2.2.2.2.2.1, v.2.2.2.2.2.2.2.2.2.2.2.2)))
 (none)
def impl_SumOf_x1_st0 (fuel : Nat) (g0 : impl_SumOf_x1_V0 → impl_SumOf_x1_R) : impl_SumOf_x1_V0 → impl_SumOf_x1_R := impl_SumOf_x1_step0 fuel g0
theorem impl_SumOf_x1_lp0 (fuel : Nat) (G) : impl_SumOf_x1_c.lp (impl_SumOf_x1_T fuel) 0 fuel G (endG impl_SumOf_x1_rv impl_SumOf_x1_rs) 0 impl_SumOf_x1_enc0 = iter (impl_SumOf_x1_st0 fuel) fuel := C.lp_iter fun g v => by kernel_rfl
def impl_SumOf_x1_pre (fuel : Nat) (X0 : impl_SumOf_x1_V0 → impl_SumOf_x1_R) (x0 : List Int) : impl_SumOf_x1_R :=
 Option.bind (impl_SumNew_fn fuel ()) fun y_1 =>
 X0 ((0 : Int), (zz (List.length x0)), x0, y_1.1.1, y_1.1.2.1, y_1.1.2.2.1, y_1.1.2.2.2.1, y_1.1.2.2.2.2.1, y_1.1.2.2.2.2.2.1, y_1.1.2.2.2.2.2.2.1, (0 : Int), (0 : Int), (0 : Int))
def impl_SumOf_x1_fn (fuel : Nat) (x : ((List Int) × Unit)) : impl_SumOf_x1_R := impl_SumOf_x1_pre fuel (iter (impl_SumOf_x1_st0 fuel) fuel) x.1
theorem impl_SumOf_x1_run (fuel : Nat) (x : Sh.T impl_SumOf_x1_ps) : run (impl_SumOf_x1_T fuel) 0 fuel impl_SumOf_x1_c (env0 (svS impl_SumOf_x1_ps x) 0) [] (endG impl_SumOf_x1_rv impl_SumOf_x1_rs) = impl_SumOf_x1_fn fuel x :=
  (show run (impl_SumOf_x1_T fuel) 0 fuel impl_SumOf_x1_c (env0 (svS impl_SumOf_x1_ps x) 0) [] (endG impl_SumOf_x1_rv impl_SumOf_x1_rs) = impl_SumOf_x1_pre fuel (impl_SumOf_x1_c.lp (impl_SumOf_x1_T fuel) 0 fuel (fun _ _ _ => none) (endG impl_SumOf_x1_rv impl_SumOf_x1_rs) 0 impl_SumOf_x1_enc0) x.1 by kernel_rfl).trans (by rw [impl_SumOf_x1_lp0]; rfl)
def impl_SumOf_x1_tf (fuel : Nat) : TG := ⟨impl_SumOf_x1_ps, impl_SumOf_x1_rs, true, impl_SumOf_x1_fn fuel⟩
theorem impl_SumOf_x1_spec (fuel : Nat) : FnSpecG Tryz.prog 30 (impl_SumOf_x1_tf fuel) :=
  fn_specG (T := impl_SumOf_x1_T fuel) (c := bodyOf Tryz.f30) (fn := Tryz.f30) (TabOK.of (entCons (impl_SumNew_ok fuel) (entCons (impl_Sum_counted_ok fuel) entNil)) (methNil)) mixed (by kernel_rfl) (by kernel_rfl) impl_SumOf_x1_l (by kernel_rfl) (Nat.le_of_ble_eq_true (by kernel_rfl)) (rv := impl_SumOf_x1_rv) (by kernel_rfl) (fun x y h => (impl_SumOf_x1_run fuel x).trans h)
theorem impl_SumOf_x1_ok (fuel : Nat) : EntryOK Tryz.prog 30 (impl_SumOf_x1_tf fuel).te := EntryOK.tg rfl (impl_SumOf_x1_spec fuel) (isFn (fn := Tryz.f30) (by kernel_rfl) (by kernel_rfl) (by kernel_rfl))
end Go.Proofs.YtdgdoeknpakmlaaGreat.Den
namespace Go.Proofs.YtdgdoeknpakmlaaGreat.Den
open Go Go.RowKit
set_option linter.unusedVariables false
set_option linter.unusedSimpArgs false
noncomputable def laws_FnExactSumOf_T (fuel : Nat) : Tab := Tab.ofI [(29, (spec_SumOf_tf fuel).te), (30, (impl_SumOf_x0_tf fuel).te), (68, (laws_toIntS_tf fuel).te), (69, (laws_eqSum_tf fuel).te), (70, (laws_eqIntS_tf fuel).te), (71, (laws_markIntS_v0_tf fuel).te), (71, (laws_markIntS_v1_tf fuel).te), (73, (laws_heldSum_tf fuel).te)] [] [(72, laws_markSum_ie fuel)]
abbrev laws_FnExactSumOf_ps : List Pm := [{ cs := [(Kd.list I6, false)], ag := false }]
abbrev laws_FnExactSumOf_rs : List Pm := [{ cs := [(Kd.bool, false)], ag := false }]
def laws_FnExactSumOf_ann : List Norm := []
noncomputable def laws_FnExactSumOf_c : C := irOf Tryz.prog Tryz.f25 [18, 61] laws_FnExactSumOf_ann []
theorem laws_FnExactSumOf_l : lightC Tryz.prog [18, 61] Tryz.f25.ntmps laws_FnExactSumOf_ann [] 0 (bodyOf Tryz.f25) = some (laws_FnExactSumOf_c, 0) := by kernel_rfl
def laws_FnExactSumOf_rv : List (Nat × Option (Nat × Bool)) := [(2, none)]
def laws_FnExactSumOf_pre (fuel : Nat) (x0 : List Int) : Option ((Bool × Unit) × Unit) :=
 cond (decide ((zz (List.length x0)) > (1048576 : Int)))
 (some (((true, ()), ())))
 (Option.bind (laws_toIntS_fn fuel ((x0, ()), ())) fun y_2 =>
  Option.bind (spec_SumOf_fn fuel ((y_2.1.1, ()), ())) fun y_3 =>
   Option.bind (laws_toIntS_fn fuel ((x0, ()), ())) fun y_4 =>
    Option.bind (impl_SumOf_x0_fn fuel (y_4.1.1, ())) fun y_5 =>
     Option.bind (laws_eqSum_fn fuel (([List.getD y_5.1.1 0 [], List.getD y_5.1.1 1 [], List.getD y_5.1.1 2 []], y_5.1.2.1, y_5.1.2.2.1, y_5.1.2.2.2.1, y_5.1.2.2.2.2.1, y_5.1.2.2.2.2.2.1, y_5.1.2.2.2.2.2.2.1, ()), (y_3.1.1, y_3.1.2.1, y_3.1.2.2.1, y_3.1.2.2.2.1, y_3.1.2.2.2.2.1, y_3.1.2.2.2.2.2.1, y_3.1.2.2.2.2.2.2.1, ()), ())) fun y_6 =>
      cond (!y_6.1.1)
       (some (((false, ()), ())))
       (cond (!y_5.2.1 == y_3.2.1.1)
        (some (((false, ()), ())))
        (Option.bind (laws_toIntS_fn fuel ((x0, ()), ())) fun y_9 =>
         Option.bind (laws_eqIntS_fn fuel ((y_4.1.1, ()), (y_9.1.1, ()), ())) fun y_10 =>
          cond (!y_10.1.1)
           (some (((false, ()), ())))
           (Option.bind (laws_markIntS_v0_fn fuel (y_4.1.1, (), ((1 : Int), ()), ())) fun y_12 =>
            cond (decide (y_12.2.1.1 < (0 : Int)))
             (some (((false, ()), ())))
             (Option.bind (laws_eqSum_fn fuel (([List.getD y_5.1.1 0 [], List.getD y_5.1.1 1 [], List.getD y_5.1.1 2 []], y_5.1.2.1, y_5.1.2.2.1, y_5.1.2.2.2.1, y_5.1.2.2.2.2.1, y_5.1.2.2.2.2.2.1, y_5.1.2.2.2.2.2.2.1, ()), (y_3.1.1, y_3.1.2.1, y_3.1.2.2.1, y_3.1.2.2.2.1, y_3.1.2.2.2.2.1, y_3.1.2.2.2.2.2.1, y_3.1.2.2.2.2.2.2.1, ()), ())) fun y_14 =>
              cond (!y_14.1.1)
               (some (((false, ()), ())))
               (cond (!y_5.2.1 == y_3.2.1.1)
                (some (((false, ()), ())))
                (Option.bind (laws_markIntS_v0_fn fuel (List.getD y_5.1.1 0 [], (), ((1 : Int), ()), ())) fun y_17 =>
                 Option.bind (laws_markIntS_v0_fn fuel (List.getD y_5.1.1 1 [], (), (y_17.2.1.1, ()), ())) fun y_18 =>
                  Option.bind (laws_markIntS_v0_fn fuel (List.getD y_5.1.1 2 [], (), (y_18.2.1.1, ()), ())) fun y_19 =>
                   Option.bind (laws_markIntS_v0_fn fuel (y_5.1.2.1, (), (y_19.2.1.1, ()), ())) fun y_20 =>
                    Option.bind (laws_markPairS_v0_fn fuel (y_5.1.2.2.1, (), (y_20.2.1.1, ()), ())) fun y_21 =>
                     Option.bind (laws_markKnotS_v0_fn fuel (y_5.1.2.2.2.2.2.1, (), (y_21.2.1.1, ()), ())) fun y_22 =>
                      Option.bind (laws_heldSum_fn fuel (([y_17.1, y_18.1, y_19.1], y_20.1, y_21.1, y_5.1.2.2.2.1, y_5.1.2.2.2.2.1, y_22.1, y_5.1.2.2.2.2.2.2.1, ()), ((1 : Int), ()), ())) fun y_23 =>
                       cond (decide (y_23.1.1 < (0 : Int)))
                        (some (((false, ()), ())))
                        (cond (y_23.1.1 != y_22.2.1.1)
                         (some (((false, ()), ())))
                         (Option.bind (laws_toIntS_fn fuel ((x0, ()), ())) fun y_26 =>
                          Option.bind (impl_SumOf_x0_fn fuel (y_26.1.1, ())) fun y_27 =>
                           Option.bind (laws_eqSum_fn fuel (([List.getD y_27.1.1 0 [], List.getD y_27.1.1 1 [], List.getD y_27.1.1 2 []], y_27.1.2.1, y_27.1.2.2.1, y_27.1.2.2.2.1, y_27.1.2.2.2.2.1, y_27.1.2.2.2.2.2.1, y_27.1.2.2.2.2.2.2.1, ()), (y_3.1.1, y_3.1.2.1, y_3.1.2.2.1, y_3.1.2.2.2.1, y_3.1.2.2.2.2.1, y_3.1.2.2.2.2.2.1, y_3.1.2.2.2.2.2.2.1, ()), ())) fun y_28 =>
                            cond (!y_28.1.1)
                             (some (((false, ()), ())))
                             (cond (!y_27.2.1 == y_3.2.1.1)
                              (some (((false, ()), ())))
                              (Option.bind (laws_heldSum_fn fuel (([y_17.1, y_18.1, y_19.1], y_20.1, y_21.1, y_5.1.2.2.2.1, y_5.1.2.2.2.2.1, y_22.1, y_5.1.2.2.2.2.2.2.1, ()), ((1 : Int), ()), ())) fun y_31 =>
                               cond (decide (y_31.1.1 < (0 : Int)))
                                (some (((false, ()), ())))
                                (cond (y_31.1.1 != y_22.2.1.1)
                                 (some (((false, ()), ())))
                                 (some (((true, ()), ())))))))))))))))
def laws_FnExactSumOf_fn (fuel : Nat) (x : (((List Int) × Unit) × Unit)) : Option ((Bool × Unit) × Unit) := laws_FnExactSumOf_pre fuel x.1.1
theorem laws_FnExactSumOf_run (fuel : Nat) (x : PsT laws_FnExactSumOf_ps) : run (laws_FnExactSumOf_T fuel) 0 fuel laws_FnExactSumOf_c (env0 (svPs laws_FnExactSumOf_ps x) 0) [] (endF laws_FnExactSumOf_rv laws_FnExactSumOf_rs) = laws_FnExactSumOf_fn fuel x := by kernel_rfl
def laws_FnExactSumOf_tf (fuel : Nat) : TF := ⟨laws_FnExactSumOf_ps, laws_FnExactSumOf_rs, true, laws_FnExactSumOf_fn fuel⟩
theorem laws_FnExactSumOf_spec (fuel : Nat) : FnSpec Tryz.prog 25 (laws_FnExactSumOf_tf fuel) :=
  fn_spec (T := laws_FnExactSumOf_T fuel) (c := bodyOf Tryz.f25) (fn := Tryz.f25) (TabOK.ofI (entCons (spec_SumOf_ok fuel) (entCons (impl_SumOf_x0_ok fuel) (entCons (laws_toIntS_ok fuel) (entCons (laws_eqSum_ok fuel) (entCons (laws_eqIntS_ok fuel) (entCons (laws_markIntS_v0_ok fuel) (entCons (laws_markIntS_v1_ok fuel) (entCons (laws_heldSum_ok fuel) entNil)))))))) (methNil) (inlCons (laws_markSum_ok fuel) (inlNil))) mixed (by kernel_rfl) (by kernel_rfl) laws_FnExactSumOf_l (by kernel_rfl) (Nat.le_of_ble_eq_true (by kernel_rfl)) (rv := laws_FnExactSumOf_rv) (by kernel_rfl) (laws_FnExactSumOf_run fuel)
noncomputable def laws_FnExactSumOf_x0_T (fuel : Nat) : Tab := Tab.ofI [(29, (spec_SumOf_tf fuel).te), (30, (impl_SumOf_x1_tf fuel).te), (68, (laws_toIntS_tf fuel).te), (69, (laws_eqSum_tf fuel).te), (70, (laws_eqIntS_tf fuel).te), (71, (laws_markIntS_v0_tf fuel).te), (71, (laws_markIntS_v1_tf fuel).te), (73, (laws_heldSum_tf fuel).te)] [] [(72, laws_markSum_ie fuel)]
abbrev laws_FnExactSumOf_x0_ps : List Pm := [{ cs := [(Kd.list I6, false)], ag := false }]
abbrev laws_FnExactSumOf_x0_rs : List Pm := [{ cs := [(Kd.bool, false)], ag := false }]
def laws_FnExactSumOf_x0_ann : List Norm := []
noncomputable def laws_FnExactSumOf_x0_c : C := irOf Tryz.prog Tryz.f25 [18, 61] laws_FnExactSumOf_x0_ann []
theorem laws_FnExactSumOf_x0_l : lightC Tryz.prog [18, 61] Tryz.f25.ntmps laws_FnExactSumOf_x0_ann [] 0 (bodyOf Tryz.f25) = some (laws_FnExactSumOf_x0_c, 0) := by kernel_rfl
def laws_FnExactSumOf_x0_rv : List (Nat × Option (Nat × Bool)) := [(2, none)]
def laws_FnExactSumOf_x0_pre (fuel : Nat) (x0 : List Int) : Option ((Bool × Unit) × Unit) :=
 cond (decide ((zz (List.length x0)) > (1048576 : Int)))
 (some (((true, ()), ())))
 (Option.bind (laws_toIntS_fn fuel ((x0, ()), ())) fun y_2 =>
  Option.bind (spec_SumOf_fn fuel ((y_2.1.1, ()), ())) fun y_3 =>
   Option.bind (laws_toIntS_fn fuel ((x0, ()), ())) fun y_4 =>
    Option.bind (impl_SumOf_x1_fn fuel (y_4.1.1, ())) fun y_5 =>
     Option.bind (laws_eqSum_fn fuel (([], [], [], y_5.1.1, y_5.1.2.1, [], y_5.1.2.2.1, ()), (y_3.1.1, y_3.1.2.1, y_3.1.2.2.1, y_3.1.2.2.2.1, y_3.1.2.2.2.2.1, y_3.1.2.2.2.2.2.1, y_3.1.2.2.2.2.2.2.1, ()), ())) fun y_6 =>
      cond (!y_6.1.1)
       (some (((false, ()), ())))
       (cond (!y_5.2.1 == y_3.2.1.1)
        (some (((false, ()), ())))
        (Option.bind (laws_toIntS_fn fuel ((x0, ()), ())) fun y_9 =>
         Option.bind (laws_eqIntS_fn fuel ((y_4.1.1, ()), (y_9.1.1, ()), ())) fun y_10 =>
          cond (!y_10.1.1)
           (some (((false, ()), ())))
           (Option.bind (laws_markIntS_v0_fn fuel (y_4.1.1, (), ((1 : Int), ()), ())) fun y_12 =>
            cond (decide (y_12.2.1.1 < (0 : Int)))
             (some (((false, ()), ())))
             (Option.bind (laws_eqSum_fn fuel (([], [], [], y_5.1.1, y_5.1.2.1, [], y_5.1.2.2.1, ()), (y_3.1.1, y_3.1.2.1, y_3.1.2.2.1, y_3.1.2.2.2.1, y_3.1.2.2.2.2.1, y_3.1.2.2.2.2.2.1, y_3.1.2.2.2.2.2.2.1, ()), ())) fun y_14 =>
              cond (!y_14.1.1)
               (some (((false, ()), ())))
               (cond (!y_5.2.1 == y_3.2.1.1)
                (some (((false, ()), ())))
                (Option.bind (laws_markIntS_v1_fn fuel ((1 : Int), ())) fun y_17 =>
                 Option.bind (laws_markPairS_v1_fn fuel (y_17.1, ())) fun y_18 =>
                  Option.bind (laws_markKnotS_v1_fn fuel (y_18.1, ())) fun y_19 =>
                   Option.bind (laws_heldSum_fn fuel (([], [], [], y_5.1.1, y_5.1.2.1, [], y_5.1.2.2.1, ()), ((1 : Int), ()), ())) fun y_20 =>
                    cond (decide (y_20.1.1 < (0 : Int)))
                     (some (((false, ()), ())))
                     (cond (y_20.1.1 != y_19.1)
                      (some (((false, ()), ())))
                      (Option.bind (laws_toIntS_fn fuel ((x0, ()), ())) fun y_23 =>
                       Option.bind (impl_SumOf_x1_fn fuel (y_23.1.1, ())) fun y_24 =>
                        Option.bind (laws_eqSum_fn fuel (([], [], [], y_24.1.1, y_24.1.2.1, [], y_24.1.2.2.1, ()), (y_3.1.1, y_3.1.2.1, y_3.1.2.2.1, y_3.1.2.2.2.1, y_3.1.2.2.2.2.1, y_3.1.2.2.2.2.2.1, y_3.1.2.2.2.2.2.2.1, ()), ())) fun y_25 =>
                         cond (!y_25.1.1)
                          (some (((false, ()), ())))
                          (cond (!y_24.2.1 == y_3.2.1.1)
                           (some (((false, ()), ())))
                           (Option.bind (laws_heldSum_fn fuel (([], [], [], y_5.1.1, y_5.1.2.1, [], y_5.1.2.2.1, ()), ((1 : Int), ()), ())) fun y_28 =>
                            cond (decide (y_28.1.1 < (0 : Int)))
                             (some (((false, ()), ())))
                             (cond (y_28.1.1 != y_19.1)
                              (some (((false, ()), ())))
                              (some (((true, ()), ())))))))))))))))
def laws_FnExactSumOf_x0_fn (fuel : Nat) (x : (((List Int) × Unit) × Unit)) : Option ((Bool × Unit) × Unit) := laws_FnExactSumOf_x0_pre fuel x.1.1
theorem laws_FnExactSumOf_x0_run (fuel : Nat) (x : PsT laws_FnExactSumOf_x0_ps) : run (laws_FnExactSumOf_x0_T fuel) 0 fuel laws_FnExactSumOf_x0_c (env0 (svPs laws_FnExactSumOf_x0_ps x) 0) [] (endF laws_FnExactSumOf_x0_rv laws_FnExactSumOf_x0_rs) = laws_FnExactSumOf_x0_fn fuel x := by kernel_rfl
def laws_FnExactSumOf_x0_tf (fuel : Nat) : TF := ⟨laws_FnExactSumOf_x0_ps, laws_FnExactSumOf_x0_rs, true, laws_FnExactSumOf_x0_fn fuel⟩
theorem laws_FnExactSumOf_x0_spec (fuel : Nat) : FnSpec Tryz.prog 25 (laws_FnExactSumOf_x0_tf fuel) :=
  fn_spec (T := laws_FnExactSumOf_x0_T fuel) (c := bodyOf Tryz.f25) (fn := Tryz.f25) (TabOK.ofI (entCons (spec_SumOf_ok fuel) (entCons (impl_SumOf_x1_ok fuel) (entCons (laws_toIntS_ok fuel) (entCons (laws_eqSum_ok fuel) (entCons (laws_eqIntS_ok fuel) (entCons (laws_markIntS_v0_ok fuel) (entCons (laws_markIntS_v1_ok fuel) (entCons (laws_heldSum_ok fuel) entNil)))))))) (methNil) (inlCons (laws_markSum_ok fuel) (inlNil))) mixed (by kernel_rfl) (by kernel_rfl) laws_FnExactSumOf_x0_l (by kernel_rfl) (Nat.le_of_ble_eq_true (by kernel_rfl)) (rv := laws_FnExactSumOf_x0_rv) (by kernel_rfl) (laws_FnExactSumOf_x0_run fuel)
end Go.Proofs.YtdgdoeknpakmlaaGreat.Den


namespace Go.Proofs.YtdgdoeknpakmlaaGreat.Den
open Go
set_option linter.unusedVariables false
set_option linter.unusedSimpArgs false
abbrev Knot := Int × Int × Unit
theorem in_eq (f : Nat) (n lo hi : Int) : spec_l6In_fn f ((n, ()), (lo, ()), (hi, ()), ()) = some ((decide (lo ≤ n ∧ n ≤ hi), ()), ()) := by
  unfold spec_l6In_fn spec_l6In_pre
  by_cases h : lo ≤ n
  · simp [h]
  · simp [h]
theorem isThing_eq (f : Nat) (n : Int) : impl_isThing_fn f ((n, ()), ()) = some ((decide (0 ≤ n ∧ n ≤ 63), ()), ()) := by
  unfold impl_isThing_fn impl_isThing_pre
  by_cases h : 0 ≤ n
  · have e : (n < 64) ↔ (n ≤ 63) := by omega
    simp [h, e]
  · simp [h]
def okGo (all : Int) : List Knot → Int → Int → Bool
  | [], _, sum => sum == all
  | k :: r, before, sum => if k.1 ≤ before ∨ 128 ≤ k.1 ∨ k.2.1 < 1 ∨ 2000 < k.2.1 ∨ (k.1 < 64 ∧ w64 (all.tdiv 8) < k.2.1) then false else okGo all r k.1 (w64 (sum + k.2.1))
def okB (ks : List Knot) (all : Int) : Bool := if all < 0 ∨ 2000 < all then false else okGo all ks 0 0
theorem drop_cons {α : Type} {ks : List α} {i : Nat} (d : α) (h : i < ks.length) : ks.drop i = ks.getD i d :: ks.drop (i + 1) := by
  rw [List.drop_eq_getElem_cons h, List.getD_eq_getElem?_getD, List.getElem?_eq_getElem h]; rfl
theorem impl_ok_loop (f : Nat) (ks : List Knot) (all : Int) (hl : ks.length < 4294967296) : ∀ (d i : Nat) (before sum : Int) (fuel : Nat), i + d = ks.length → d < fuel →
    iter (impl_RankOk_st0 f) fuel ((i : Int), (ks.length : Int), ks, before, sum, ks, all) = some ((okGo all (ks.drop i) before sum, ()), ())
  | 0, i, before, sum, fuel + 1, hi, hf => by
    rw [iter]
    show impl_RankOk_step0 f _ _ = _
    unfold impl_RankOk_step0
    have h1 : ¬ ((i : Int) < (ks.length : Int)) := by omega
    have h2 : ks.drop i = [] := List.drop_eq_nil_of_le (by omega)
    simp [h1, h2, okGo]
  | d + 1, i, before, sum, fuel + 1, hi, hf => by
    rw [iter]
    show impl_RankOk_step0 f _ _ = _
    unfold impl_RankOk_step0
    have h1 : (i : Int) < (ks.length : Int) := by omega
    have h2 : (0 : Int) ≤ (i : Int) := by omega
    have h3 : w64 ((i : Int) + 1) = (i : Int) + 1 := by rw [w64_id] <;> omega
    have ih : ∀ before sum, iter (impl_RankOk_st0 f) fuel ((i : Int) + 1, (ks.length : Int), ks, before, sum, ks, all) = some ((okGo all (ks.drop (i + 1)) before sum, ()), ()) := fun b s => by
      exact_mod_cast impl_ok_loop f ks all hl d (i + 1) b s fuel (by omega) (by omega)
    rw [drop_cons (0, 0, ()) (show i < ks.length by omega)]
    simp only [h1, h2, h3, zz_eq, Int.toNat_natCast, decide_true, cond_true]
    obtain ⟨k, hk⟩ : ∃ k : Knot, ks.getD i (0, 0, ()) = k := ⟨_, rfl⟩
    simp only [hk]
    unfold okGo
    by_cases c1 : k.1 ≤ before
    · simp [c1]
    by_cases c2 : 128 ≤ k.1
    · simp [c1, c2]
    by_cases c3 : k.2.1 < 1
    · simp [c1, c2, c3]
    by_cases c4 : 2000 < k.2.1
    · simp [c1, c2, c3, c4]
    by_cases c5 : k.1 < 64
    · by_cases c6 : w64 (all.tdiv 8) < k.2.1
      · simp [c1, c2, c3, c4, c5, c6]
      · simp [c1, c2, c3, c4, c5, c6, ih]
    · simp [c1, c2, c3, c4, c5, ih]
theorem implOk_eq (f : Nat) (ks : List Knot) (all : Int) (hl : ks.length < 4294967296) (hf : ks.length < f) : impl_RankOk_fn f ((ks, all, ()), ()) = some ((okB ks all, ()), ()) := by
  unfold impl_RankOk_fn impl_RankOk_pre okB
  by_cases c1 : all < 0
  · simp [c1]
  by_cases c2 : 2000 < all
  · simp [c1, c2]
  have := impl_ok_loop f ks all hl ks.length 0 0 0 f (by omega) hf
  simp [c1, c2, zz_eq]
  simpa using this
theorem spec_ok_loop (f : Nat) (ks : List Knot) (all : Int) (hl : ks.length < 4294967296) : ∀ (d i : Nat) (before sum : Int) (fuel : Nat), i + d = ks.length → (i = 0 → before = 0) → (0 < i → before = (ks.getD (i - 1) (0, 0, ())).1 ∧ 1 ≤ before) → d < fuel →
    iter (spec_RankOk_st0 f) fuel ((i : Int), sum, ks, all) = some ((okGo all (ks.drop i) before sum, ()), ())
  | 0, i, before, sum, fuel + 1, hi, hb0, hb1, hf => by
    rw [iter]
    show spec_RankOk_step0 f _ _ = _
    unfold spec_RankOk_step0
    have h1 : ¬ ((i : Int) < (ks.length : Int)) := by omega
    have h2 : ks.drop i = [] := List.drop_eq_nil_of_le (by omega)
    simp [h1, h2, okGo, zz_eq]
  | d + 1, i, before, sum, fuel + 1, hi, hb0, hb1, hf => by
    rw [iter]
    show spec_RankOk_step0 f _ _ = _
    unfold spec_RankOk_step0
    have h1 : (i : Int) < (ks.length : Int) := by omega
    have h2 : (0 : Int) ≤ (i : Int) := by omega
    have h3 : w64 ((i : Int) + 1) = (i : Int) + 1 := by rw [w64_id] <;> omega
    have ih : ∀ sum, 1 ≤ (ks.getD i (0, 0, ())).1 → iter (spec_RankOk_st0 f) fuel ((i : Int) + 1, sum, ks, all) = some ((okGo all (ks.drop (i + 1)) (ks.getD i (0, 0, ())).1 sum, ()), ()) := fun sum h => by
      exact_mod_cast spec_ok_loop f ks all hl d (i + 1) _ sum fuel (by omega) (by omega) (fun _ => ⟨rfl, h⟩) (by omega)
    rw [drop_cons (0, 0, ()) (show i < ks.length by omega)]
    simp only [h1, h2, h3, zz_eq, Int.toNat_natCast, decide_true, cond_true, in_eq, Option.bind_some]
    have hpos : (decide ((i : Int) > 0) = true → 0 < i ∧ (0 : Int) ≤ w64 ((i : Int) - 1) ∧ w64 ((i : Int) - 1) < (ks.length : Int) ∧ (w64 ((i : Int) - 1)).toNat = i - 1) := by
      intro h
      have h0 : 0 < i := by simpa using h
      have e : w64 ((i : Int) - 1) = ((i - 1 : Nat) : Int) := by rw [w64_id] <;> omega
      rw [e]; omega
    obtain ⟨k, hk⟩ : ∃ k : Knot, ks.getD i (0, 0, ()) = k := ⟨_, rfl⟩
    simp only [hk] at ih ⊢
    unfold okGo
    by_cases c1 : 1 ≤ k.1 ∧ k.1 ≤ 127
    · by_cases c2 : 1 ≤ k.2.1 ∧ k.2.1 ≤ 2000
      · have d2 : ¬ 128 ≤ k.1 := by omega
        have d3 : ¬ k.2.1 < 1 := by omega
        have d4 : ¬ 2000 < k.2.1 := by omega
        have ih' := fun s => ih s c1.1
        simp only [c1, c2, and_self, decide_true, Bool.not_true, cond_false, d2, d3, d4, false_or]
        cases hz : decide ((i : Int) > 0) with
        | true =>
          obtain ⟨g0, g1, g2, g3⟩ := hpos hz
          obtain ⟨g4, g5⟩ := hb1 g0
          simp only [cond_true, g1, g2, g3, decide_true, ← g4]
          by_cases c3 : k.1 ≤ before
          · simp [c3]
          · by_cases c5 : k.1 < 64
            · by_cases c6 : w64 (all.tdiv 8) < k.2.1
              · simp [c3, c5, c6]
              · simp [c3, c5, c6, ih']
            · simp [c3, c5, ih']
        | false =>
          have g0 : i = 0 := by have : ¬ (i : Int) > 0 := of_decide_eq_false hz; omega
          have g1 := hb0 g0
          have c3 : ¬ k.1 ≤ before := by omega
          by_cases c5 : k.1 < 64
          · by_cases c6 : w64 (all.tdiv 8) < k.2.1
            · simp [c3, c5, c6]
            · simp [c3, c5, c6, ih']
          · simp [c3, c5, ih']
      · have : k.1 ≤ before ∨ 128 ≤ k.1 ∨ k.2.1 < 1 ∨ 2000 < k.2.1 ∨ (k.1 < 64 ∧ w64 (all.tdiv 8) < k.2.1) := by omega
        simp [c1, c2, this]
    · have hbp : 0 ≤ before := by
        rcases Nat.eq_zero_or_pos i with h | h
        · rw [hb0 h]; omega
        · have := (hb1 h).2; omega
      have : k.1 ≤ before ∨ 128 ≤ k.1 ∨ k.2.1 < 1 ∨ 2000 < k.2.1 ∨ (k.1 < 64 ∧ w64 (all.tdiv 8) < k.2.1) := by omega
      simp [c1, this]
theorem specOk_eq (f : Nat) (ks : List Knot) (all : Int) (hl : ks.length < 4294967296) (hf : ks.length < f) : spec_RankOk_fn f ((ks, all, ()), ()) = some ((okB ks all, ()), ()) := by
  unfold spec_RankOk_fn spec_RankOk_pre okB
  simp only [in_eq, Option.bind_some]
  by_cases c : 0 ≤ all ∧ all ≤ 2000
  · have c1 : ¬ (all < 0 ∨ 2000 < all) := by omega
    have := spec_ok_loop f ks all hl ks.length 0 0 0 f (by omega) (fun _ => rfl) (by omega) hf
    simp only [c, c1, and_self, decide_true, Bool.not_true, cond_false, if_false]
    simpa using this
  · have c1 : all < 0 ∨ 2000 < all := by omega
    simp [c, c1]
end Go.Proofs.YtdgdoeknpakmlaaGreat.Den
namespace Go.Proofs.YtdgdoeknpakmlaaGreat.Den
open Go
set_option linter.unusedVariables false
set_option linter.unusedSimpArgs false
def isum (l : List Int) : Int := l.foldl (fun s x => w64 (s + x)) 0
def rng (x : Int) : Bool := decide (0 ≤ x ∧ x ≤ 2000)
theorem isum_eq (f : Nat) (l : List Int) (hl : l.length < 4294967296) (hf : l.length < f) : spec_l1Sum_fn f ((l, ()), ()) = some ((isum l, ()), ()) := by
  show iter (spec_l1Sum_st0 f) f ((0 : Int), l, (0 : Int)) = _
  refine (iter_list (st := spec_l1Sum_st0 f) (enc := fun i s => ((i : Int), l, s)) (fun x k s => k (w64 (s + x))) (fun s => some ((s, ()), ())) l 0 ?_ ?_ f 0 hf).trans (fold_go (fun s x => w64 (s + x)) (fun _ _ _ => rfl) l 0)
  · intro i s g hi
    show spec_l1Sum_step0 f g _ = _
    unfold spec_l1Sum_step0
    simp only [zz_eq, lt_cast hi, le_cast, decide_true, cond_true, Int.toNat_natCast, w64_up (Nat.lt_trans hi hl)]
  · intro s g
    show spec_l1Sum_step0 f g _ = _
    unfold spec_l1Sum_step0
    simp only [zz_eq, nlt_cast, decide_false, cond_false]
def rowB (row : List Int) : Bool := decide (row.length = 8) && (row.all rng && decide (isum row ≤ 2000))
def roughB (rs : List (List Int)) : Bool := decide (rs.length = 3) && rs.all fun row => rowB row && (isum row == isum (rs.getD 0 []))
theorem rowAll_eq (f : Nat) (l : List Int) (hf : 8 < f) : impl_rowAll_fn f ((l, ()), ()) = some (cond (decide (l.length = 8) && l.all rng) ((isum l, ()), (decide (isum l ≤ 2000), ()), ()) ((0, ()), (false, ()), ())) := by
  show impl_rowAll_pre f (iter (impl_rowAll_st0 f) f) l = _
  unfold impl_rowAll_pre
  by_cases h : l.length = 8
  · have hl : l.length < 4294967296 := by omega
    have e : (zz l.length != (8 : Int)) = false := by simp [zz_eq, h]
    rw [e, cond_false, zz_eq]
    have := iter_list (st := impl_rowAll_st0 f) (enc := fun i s => ((i : Int), (l.length : Int), l, s)) (fun x k s => cond (rng x) (k (w64 (s + x))) (some ((0, ()), (false, ()), ()))) (fun s => some ((s, ()), (decide (s ≤ 2000), ()), ())) l 0 ?_ ?_ f 0 (by omega)
    · refine this.trans ?_
      have : ∀ (l : List Int) (s : Int), goL (R := ((Int × Unit) × ((Bool × Unit) × Unit))) (fun x k s => cond (rng x) (k (w64 (s + x))) (some ((0, ()), (false, ()), ()))) (fun s => some ((s, ()), (decide (s ≤ 2000), ()), ())) l s = some (cond (l.all rng) ((l.foldl (fun s x => w64 (s + x)) s, ()), (decide (l.foldl (fun s x => w64 (s + x)) s ≤ 2000), ()), ()) ((0, ()), (false, ()), ())) := by
        intro l
        induction l with
        | nil => intro s; rfl
        | cons x l ih =>
          intro s
          show cond (rng x) (goL _ _ l _) _ = _
          rw [ih, List.all_cons]
          cases rng x <;> rfl
      rw [this]
      simp only [h, decide_true, Bool.true_and]
      rfl
    · intro i s g hi
      show impl_rowAll_step0 f g _ = _
      unfold impl_rowAll_step0
      simp only [zz_eq, lt_cast hi, le_cast, decide_true, cond_true, Int.toNat_natCast, w64_up (Nat.lt_trans hi hl)]
      obtain ⟨x, hx⟩ : ∃ x : Int, l.getD i 0 = x := ⟨_, rfl⟩
      simp only [hx]
      unfold rng
      by_cases c1 : x < 0
      · have : ¬ (0 ≤ x ∧ x ≤ 2000) := by omega
        simp [c1, this]
      · by_cases c2 : x > 2000
        · have : ¬ (0 ≤ x ∧ x ≤ 2000) := by omega
          simp [c1, c2, this]
        · have : (0 ≤ x ∧ x ≤ 2000) := by omega
          simp [c1, c2, this]
    · intro s g
      show impl_rowAll_step0 f g _ = _
      unfold impl_rowAll_step0
      simp only [nlt_cast, decide_false, cond_false]
  · have e : (zz l.length != (8 : Int)) = true := by simp [zz_eq]; omega
    rw [e, cond_true]
    simp [h]
theorem three {α : Type} {rs : List α} (h : rs.length = 3) : ∃ a b c, rs = [a, b, c] := by
  match rs, h with
  | [a, b, c], _ => exact ⟨a, b, c, rfl⟩
theorem implRough_eq (f : Nat) (rs : List (List Int)) (hf : 8 < f) : impl_RoughOk_fn f ((rs, ()), ()) = some ((roughB rs, ()), ()) := by
  show impl_RoughOk_pre f (iter (impl_RoughOk_st0 f) f) rs = _
  unfold impl_RoughOk_pre
  by_cases h : rs.length = 3
  · have e : ((rs.length : Int) != (3 : Int)) = false := by simp [h]
    have e0 : (0 : Int) < (rs.length : Int) := by omega
    simp only [zz_eq, e, cond_false, e0, decide_true, cond_true, rowAll_eq f _ hf, Option.bind_some]
    obtain ⟨w, hw⟩ : ∃ w : Int, (cond (decide ((rs.getD (Int.toNat 0) []).length = 8) && (rs.getD (Int.toNat 0) []).all rng) ((isum (rs.getD (Int.toNat 0) []), ()), (decide (isum (rs.getD (Int.toNat 0) []) ≤ 2000), ()), ()) ((0, ()), (false, ()), ()) : ((Int × Unit) × ((Bool × Unit) × Unit))).fst.fst = w := ⟨_, rfl⟩
    rw [hw]
    have := iter_list (st := impl_RoughOk_st0 f) (enc := fun i (s : Unit) => ((i : Int), (rs.length : Int), rs, w)) (fun row k s => cond (rowB row && (isum row == w)) (k s) (some ((false, ()), ()))) (fun s => some ((true, ()), ())) rs [] ?_ ?_ f () (by omega)
    · refine this.trans ?_
      rw [all_go _ _ (fun _ _ _ => rfl)]
      obtain ⟨a, b, c, rfl⟩ := three h
      unfold roughB
      simp only [List.all_cons, List.all_nil, List.getD_cons_zero, Int.toNat_zero, decide_true, Bool.true_and, List.length_cons, List.length_nil, Bool.and_true] at hw ⊢
      by_cases ha : rowB a = true
      · have ha' := ha
        unfold rowB at ha'
        have : (decide (a.length = 8) && a.all rng) = true := by
          revert ha'; cases decide (a.length = 8) <;> cases a.all rng <;> simp
        rw [this, cond_true] at hw
        rw [← hw, ha]
        simp only [beq_self_eq_true, Bool.and_self, Bool.true_and]
        cases (rowB b && (isum b == isum a)) <;> cases (rowB c && (isum c == isum a)) <;> rfl
      · have : rowB a = false := by simpa using ha
        simp [this]
    · intro i s g hi
      show impl_RoughOk_step0 f g _ = _
      unfold impl_RoughOk_step0
      simp only [zz_eq, lt_cast hi, le_cast, decide_true, cond_true, Int.toNat_natCast, w64_up (show i < 4294967296 by omega), rowAll_eq f _ hf, Option.bind_some]
      obtain ⟨x, hx⟩ : ∃ x : List Int, rs.getD i [] = x := ⟨_, rfl⟩
      simp only [hx]
      unfold rowB
      rw [← Bool.and_assoc]
      cases (decide (x.length = 8) && x.all rng) with
      | false => rfl
      | true =>
        simp only [cond_true, bne]
        cases decide (isum x ≤ 2000) <;> cases (isum x == w) <;> rfl
    · intro s g
      show impl_RoughOk_step0 f g _ = _
      unfold impl_RoughOk_step0
      simp only [nlt_cast, decide_false, cond_false]
  · have e : (zz rs.length != (3 : Int)) = true := by simp [zz_eq]; omega
    rw [e, cond_true]
    unfold roughB
    simp [h]
theorem specRough_eq (f : Nat) (rs : List (List Int)) (hf : 8 < f) (hr : ∀ r ∈ rs, r.length < f ∧ r.length < 4294967296) : spec_RoughOk_fn f ((rs, ()), ()) = some ((roughB rs, ()), ()) := by
  show spec_RoughOk_pre f (iter (spec_RoughOk_st0 f) f) rs = _
  unfold spec_RoughOk_pre
  by_cases h : rs.length = 3
  · have e : (zz rs.length != (3 : Int)) = false := by simp [zz_eq, h]
    rw [e, cond_false]
    have := iter_list (st := spec_RoughOk_st0 f) (enc := fun i (s : Unit) => ((i : Int), rs)) (fun row k s => cond (rowB row && (isum row == isum (rs.getD 0 []))) (k s) (some ((false, ()), ()))) (fun s => some ((true, ()), ())) rs [] ?_ ?_ f () (by omega)
    · refine this.trans ?_
      rw [all_go _ _ (fun _ _ _ => rfl)]
      unfold roughB
      simp only [h, decide_true, Bool.true_and]
      cases (rs.all fun row => rowB row && (isum row == isum (rs.getD 0 []))) <;> rfl
    · intro i s g hi
      show spec_RoughOk_step0 f _ g _ = _
      unfold spec_RoughOk_step0
      have l3 : (i : Int) < 3 := by omega
      simp only [zz_eq, lt_cast hi, l3, le_cast, decide_true, cond_true, Int.toNat_natCast]
      obtain ⟨x, hx⟩ : ∃ x : List Int, rs.getD i [] = x := ⟨_, rfl⟩
      simp only [hx]
      by_cases c1 : x.length = 8
      · have e8 : ((x.length : Int) != 8) = false := by simp [c1]
        rw [e8, cond_false]
        have := iter_list (st := spec_RoughOk_st1 f g) (enc := fun k (s : Unit) => ((k : Int), (i : Int), rs)) (fun y k s => cond (rng y) (k s) (some ((false, ()), ()))) (fun s => cond (isum x == isum (rs.getD 0 []) && decide (isum x ≤ 2000)) (g (((i + 1 : Nat) : Int), rs)) (some ((false, ()), ()))) x 0 ?_ ?_ f () (by omega)
        · refine this.trans ?_
          rw [all_go _ _ (fun _ _ _ => rfl)]
          unfold rowB
          simp only [c1, decide_true, Bool.true_and]
          cases x.all rng <;> cases (isum x == isum (rs.getD 0 [])) <;> cases decide (isum x ≤ 2000) <;> rfl
        · intro k s g' hk
          show spec_RoughOk_step1 f _ g' _ = _
          unfold spec_RoughOk_step1
          have l8 : (k : Int) < 8 := by omega
          simp only [zz_eq, lt_cast hi, lt_cast hk, l8, le_cast, decide_true, cond_true, Int.toNat_natCast, hx, in_eq, Option.bind_some, w64_up (show k < 4294967296 by omega)]
          unfold rng
          cases decide (0 ≤ x.getD k 0 ∧ x.getD k 0 ≤ 2000) <;> rfl
        · intro s g'
          show spec_RoughOk_step1 f _ g' _ = _
          unfold spec_RoughOk_step1
          have l8 : ¬ ((x.length : Int) < 8) := by omega
          have l0 : (0 : Int) < (rs.length : Int) := by omega
          have ix : spec_l1Sum_fn f ((x, ()), ()) = some ((isum x, ()), ()) := isum_eq f x (by omega) (by omega)
          simp only [zz_eq, l8, decide_false, cond_false, lt_cast hi, l0, le_cast, decide_true, cond_true, Int.toNat_natCast, hx, ix, Option.bind_some, w64_up (show i < 4294967296 by omega)]
          obtain ⟨g1, g2⟩ : (rs.getD 0 []).length < f ∧ (rs.getD 0 []).length < 4294967296 := by
            obtain ⟨a, b, c, rfl⟩ := three h
            exact hr a (by simp)
          have i0 : spec_l1Sum_fn f ((rs.getD 0 [], ()), ()) = some ((isum (rs.getD 0 []), ()), ()) := isum_eq f _ g2 g1
          simp only [Int.toNat_zero, i0, Option.bind_some]
          by_cases c3 : isum x = isum (rs.getD 0 [])
          · simp only [c3, bne_self_eq_false, cond_false, beq_self_eq_true, Bool.true_and]
            by_cases c : isum (rs.getD 0 []) ≤ 2000
            · have : ¬ isum (rs.getD 0 []) > 2000 := by omega
              simp only [c, this, decide_true, decide_false, cond_true, cond_false]
            · have : isum (rs.getD 0 []) > 2000 := by omega
              simp only [c, this, decide_true, decide_false, cond_true, cond_false]
          · have c4 : (isum x == isum (rs.getD 0 [])) = false := by simpa using c3
            simp only [bne, c4, Bool.not_false, Bool.false_and, cond_true, cond_false]
      · have e8 : ((x.length : Int) != 8) = true := by simp; omega
        rw [e8, cond_true]
        unfold rowB
        simp [c1]
    · intro s g
      show spec_RoughOk_step0 f _ g _ = _
      unfold spec_RoughOk_step0
      have l3 : ¬ ((rs.length : Int) < 3) := by omega
      simp only [l3, decide_false, cond_false]
  · have e : (zz rs.length != (3 : Int)) = true := by simp [zz_eq]; omega
    rw [e, cond_true]
    unfold roughB
    simp [h]
end Go.Proofs.YtdgdoeknpakmlaaGreat.Den
