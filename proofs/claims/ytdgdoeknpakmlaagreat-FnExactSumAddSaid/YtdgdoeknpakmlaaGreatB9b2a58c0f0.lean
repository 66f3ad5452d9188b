/- Part 12 of the texts behind the row. -/
import Derived.Test.YtdgdoeknpakmlaaGreatBc90ea285ef
set_option linter.unusedVariables false
set_option linter.unusedSimpArgs false
namespace Go.Proofs.YtdgdoeknpakmlaaGreat.Den
open Go Go.RowKit
abbrev zaZ := Option ((LP × (Int × (Int × Unit))) × Unit)
def ze2 (fuel : Nat) : Tab := Tab.of [(182, (zeP fuel).te), (183, (zb4 fuel).te), (183, (zb6 fuel).te)] []
abbrev zi7 : List Pm := [{ cs := [(Kd.list KP, false), (I6, false), (I6, false)], ag := true }]
abbrev ze3 : List Pm := [{ cs := [(Kd.list KP, false), (I6, false), (I6, false)], ag := true }]
def zvQ : List Norm := [{ live := [26, 25, 24, 4, 5, 1, 2], fix := [] }]
noncomputable def ze4 : C := irOf Tryz.prog Tryz.f136 [] zvQ []
theorem zIF : lightC Tryz.prog [] Tryz.f136.ntmps zvQ [] 0 (bodyOf Tryz.f136) = some (ze4, 1) := by kernel_rfl
def ze5 : List (Nat × Option (Nat × Bool)) := [(2, some (3, true))]
abbrev zb7 := (Int) × (Int) × LP × (Int) × LP × LP × (Int) × (Int) × (Int) × (Int)
def zvR (v : zb7) : Env × Heap := ([(26, SV.int .i64 v.1), (25, SV.int .i64 v.2.1), (24, SV.es KP v.2.2.1), (4, SV.int .i64 v.2.2.2.1), (5, SV.own 0), (1, SV.ptr 1 0), (2, SV.ptr 2 0)], [Blk.arr KP v.2.2.2.2.1 0, Blk.cells [SV.es KP v.2.2.2.2.2.1, SV.int .i64 v.2.2.2.2.2.2.1, SV.int .i64 v.2.2.2.2.2.2.2.1] 0 3, Blk.cells [SV.nils, SV.int .i64 v.2.2.2.2.2.2.2.2.1, SV.int .i64 v.2.2.2.2.2.2.2.2.2] 0 3])
def ze6 (fuel : Nat) (g0 : zb7 → zaZ) (v : zb7) : zaZ :=
 cond (decide (v.1 < v.2.1))
 (tst (decide (0 ≤ v.1)) <|
 tst (decide (v.1 < (zz (List.length v.2.2.1)))) <|
 cond (decide ((List.getD v.2.2.1 (Int.toNat v.1) (0, (0, ()))).2.1 > v.2.2.2.1))
 (tst (decide (List.length v.2.2.2.2.1 + 1 < LIM)) <|
 g0 (w64 (v.1 + (1 : Int)), v.2.1, v.2.2.1, v.2.2.2.1, v.2.2.2.2.1 ++ [((List.getD v.2.2.1 (Int.toNat v.1) (0, (0, ()))).1, w64 ((List.getD v.2.2.1 (Int.toNat v.1) (0, (0, ()))).2.1 - v.2.2.2.1), ())], v.2.2.2.2.2.1, v.2.2.2.2.2.2.1, v.2.2.2.2.2.2.2.1, v.2.2.2.2.2.2.2.2.1, v.2.2.2.2.2.2.2.2.2))
 (g0 (w64 (v.1 + (1 : Int)), v.2.1, v.2.2.1, v.2.2.2.1, v.2.2.2.2.1, v.2.2.2.2.2.1, v.2.2.2.2.2.2.1, v.2.2.2.2.2.2.2.1, v.2.2.2.2.2.2.2.2.1, v.2.2.2.2.2.2.2.2.2)))
 (some (((v.2.2.2.2.1, w64 (v.2.2.2.2.2.2.1 + v.2.2.2.1), v.2.2.2.2.2.2.2.1, ()), ())))
def zb8 (fuel : Nat) (g0 : zb7 → zaZ) : zb7 → zaZ := ze6 fuel g0
theorem zIG (fuel : Nat) (G) : ze4.lp (ze2 fuel) 0 fuel G (endF ze5 ze3) 0 zvR = iter (zb8 fuel) fuel := C.lp_iter fun g v => by kernel_rfl
def zaz (fuel : Nat) (X0 : zb7 → zaZ) (x0 : LP) (x1 : Int) (x2 : Int) : zaZ :=
 cond (decide ((zz (List.length x0)) ≤ (4 : Int)))
 (some (((x0, x1, x2, ()), ())))
 (Option.bind (zbU fuel ((x0, ()), ())) fun y_2 =>
 Option.bind (zb5 fuel (y_2.1.1, (), ())) fun y_3 =>
 tst (decide ((4 : Int) < (zz (List.length y_3.1)))) <|
 tst (decide (Int.toNat (4 : Int) < List.length y_3.1)) <|
 X0 ((0 : Int), (zz (List.length x0)), x0, (List.getD y_3.1 (Int.toNat (4 : Int)) (0, (0, ()))).2.1, List.replicate (Int.toNat (0 : Int)) (0, (0, ())), x0, x1, x2, (0 : Int), (0 : Int)))
def zb9 (fuel : Nat) (x : ((LP × (Int × (Int × Unit))) × Unit)) : zaZ := zaz fuel (iter (zb8 fuel) fuel) x.1.1 x.1.2.1 x.1.2.2.1
theorem zIH (fuel : Nat) (x : PsT zi7) : run (ze2 fuel) 0 fuel ze4 (env0 (svPs zi7 x) 0) [] (endF ze5 ze3) = zb9 fuel x :=
  (show run (ze2 fuel) 0 fuel ze4 (env0 (svPs zi7 x) 0) [] (endF ze5 ze3) = zaz fuel (ze4.lp (ze2 fuel) 0 fuel (fun _ _ _ => none) (endF ze5 ze3) 0 zvR) x.1.1 x.1.2.1 x.1.2.2.1 by kernel_rfl).trans (by rw [zIG]; rfl)
def znD (fuel : Nat) : TF := ⟨zi7, ze3, false, zb9 fuel⟩
theorem zII (fuel : Nat) : FnSpec Tryz.prog 136 (znD fuel) :=
  fn_spec (T := ze2 fuel) (c := bodyOf Tryz.f136) (fn := Tryz.f136) (TabOK.of (entCons (znc fuel) (entCons (zi5 fuel) (entCons (zi6 fuel) entNil))) (methNil)) mixed (by kernel_rfl) (by kernel_rfl) zIF (by kernel_rfl) (Nat.le_of_ble_eq_true (by kernel_rfl)) (rv := ze5) (by kernel_rfl) (zIH fuel)
theorem zIJ (fuel : Nat) : EntryOK Tryz.prog 136 (znD fuel).te := EntryOK.tf rfl (zII fuel) (isFn (fn := Tryz.f136) (by kernel_rfl) (by kernel_rfl) (by kernel_rfl))
def zvS (fuel : Nat) : Tab := Tab.of [] []
abbrev znE : Sh := (.nls (.cell I6 0 .nil))
abbrev zvT : Sh := (.cell (Kd.list KP) 1 .nil)
def zvU : List Norm := []
noncomputable def zvV : C := irOf Tryz.prog Tryz.f196 [] zvU []
theorem zIK : lightC Tryz.prog [] Tryz.f196.ntmps zvU [] 0 (bodyOf Tryz.f196) = some (zvV, 0) := by kernel_rfl
def zvW : List (Nat × Option (Nat × Bool)) := [(4, none)]
def znF (fuel : Nat) (x0 : Int) : Option (LP × Unit) :=
 cond (decide (x0 < (0 : Int)))
 (none)
 (cond (decide (w64 (x0 - w64 (0 - (zz 0))) > (0 : Int)))
 (tst (decide (0 ≤ w64 (x0 - w64 (0 - (zz 0))))) <|
 tst (decide (Int.toNat (w64 (x0 - w64 (0 - (zz 0)))) < LIM)) <|
 tst (decide ((zz 0) ≤ (zz (List.length (List.replicate (Int.toNat (w64 (x0 - w64 (0 - (zz 0))))) (Kd.dflt KP)))))) <|
 some ((List.take (Int.toNat (zz 0) - 0) (List.drop 0 (List.replicate (Int.toNat (w64 (x0 - w64 (0 - (zz 0))))) (0, (0, ())))), ())))
 (some (([], ()))))
def zi8 (fuel : Nat) (x : (Int × Unit)) : Option (LP × Unit) := znF fuel x.1
theorem zIL (fuel : Nat) (x : Sh.T znE) : run (zvS fuel) 0 fuel zvV (env0 (svS znE x) 0) [] (endG zvW zvT) = zi8 fuel x := by kernel_rfl
def znG (fuel : Nat) : TG := ⟨znE, zvT, true, zi8 fuel⟩
theorem zIM (fuel : Nat) : FnSpecG Tryz.prog 196 (znG fuel) :=
  zd (T := zvS fuel) (c := bodyOf Tryz.f196) (fn := Tryz.f196) (TabOK.of (entNil) (methNil)) mixed (by kernel_rfl) (by kernel_rfl) zIK (by kernel_rfl) (Nat.le_of_ble_eq_true (by kernel_rfl)) (rv := zvW) (by kernel_rfl) (fun x y h => (zIL fuel x).trans h)
theorem zIN (fuel : Nat) : EntryOK Tryz.prog 196 (znG fuel).te := EntryOK.tg rfl (zIM fuel) (isFn (fn := Tryz.f196) (by kernel_rfl) (by kernel_rfl) (by kernel_rfl))
abbrev zA := Option ((LP × Unit) × Unit)
def zai (fuel : Nat) : Tab := Tab.of [(196, (znG fuel).te)] []
abbrev zi9 : List Pm := [{ cs := [(Kd.list (Kd.list KP), false)], ag := false }]
abbrev zaA : List Pm := [{ cs := [(Kd.list KP, true)], ag := false }]
def zvX : List Norm := [{ live := [11, 10, 9, 3, 0], fix := [] }, { live := [27, 26, 25, 6], fix := [] }]
noncomputable def zW : C := irOf Tryz.prog Tryz.f184 [] zvX []
theorem zIO : lightC Tryz.prog [] Tryz.f184.ntmps zvX [] 0 (bodyOf Tryz.f184) = some (zW, 2) := by kernel_rfl
def zaB : List (Nat × Option (Nat × Bool)) := [(2, none)]
abbrev za0 := (Int) × (Int) × (List LP) × (Int) × (List LP)
abbrev za1 := (Int) × (Int) × (List LP) × LP
def zca (v : za0) : Env × Heap := ([(11, SV.int .i64 v.1), (10, SV.int .i64 v.2.1), (9, SV.es (Kd.list KP) v.2.2.1), (3, SV.int .i64 v.2.2.2.1), (0, SV.es (Kd.list KP) v.2.2.2.2)], [])
def zvY (v : za1) : Env × Heap := ([(27, SV.int .i64 v.1), (26, SV.int .i64 v.2.1), (25, SV.es (Kd.list KP) v.2.2.1), (6, SV.own 0)], [Blk.arr KP v.2.2.2 0])
def ze7 (fuel : Nat) (g1 : za1 → zA) (v : za1) : zA :=
 cond (decide (v.1 < v.2.1))
 (tst (decide (0 ≤ v.1)) <|
 tst (decide (v.1 < (zz (List.length v.2.2.1)))) <|
 tst (decide (List.length v.2.2.2 + List.length (List.getD v.2.2.1 (Int.toNat v.1) []) < LIM)) <|
 g1 (w64 (v.1 + (1 : Int)), v.2.1, v.2.2.1, v.2.2.2 ++ List.getD v.2.2.1 (Int.toNat v.1) []))
 (some (((v.2.2.2, ()), ())))
def za2 (fuel : Nat) (g1 : za1 → zA) : za1 → zA := ze7 fuel g1
theorem zIP (fuel : Nat) (G) : zW.lp (zai fuel) 0 fuel G (endF zaB zaA) 1 zvY = iter (za2 fuel) fuel := C.lp_iter fun g v => by kernel_rfl
def zcb (fuel : Nat) (X1 : za1 → zA) (g0 : za0 → zA) (v : za0) : zA :=
 cond (decide (v.1 < v.2.1))
 (tst (decide (0 ≤ v.1)) <|
 tst (decide (v.1 < (zz (List.length v.2.2.1)))) <|
 cond (decide (w64 (v.2.2.2.1 + (zz (List.length (List.getD v.2.2.1 (Int.toNat v.1) [])))) < (0 : Int)))
 (none)
 (g0 (w64 (v.1 + (1 : Int)), v.2.1, v.2.2.1, w64 (v.2.2.2.1 + (zz (List.length (List.getD v.2.2.1 (Int.toNat v.1) [])))), v.2.2.2.2)))
 (Option.bind (zi8 fuel (v.2.2.2.1, ())) fun y_2 =>
 X1 ((0 : Int), (zz (List.length v.2.2.2.2)), v.2.2.2.2, y_2.1))
def ze8 (fuel : Nat) (g0 : za0 → zA) : za0 → zA := zcb fuel (iter (za2 fuel) fuel) g0
theorem zIQ (fuel : Nat) (G) : zW.lp (zai fuel) 0 fuel G (endF zaB zaA) 0 zca = iter (ze8 fuel) fuel := C.lp_iter fun g v =>
  (show run (zai fuel) 0 fuel (zW.bdAt 0) (zca v).1 (zca v).2 (loopK 0 (zW.nmAt 0) g (zW.contAt (zai fuel) 0 fuel G 0 0 (endF zaB zaA))) = zcb fuel (zW.lp (zai fuel) 0 fuel (fun m => bif Nat.beq m 0 then g else G m) (endF zaB zaA) 1 zvY) (fun v => g (zca v).1 (zca v).2) v by kernel_rfl).trans (by rw [zIP]; rfl)
def zja (fuel : Nat) (X0 : za0 → zA) (x0 : List LP) : zA :=
 X0 ((0 : Int), (zz (List.length x0)), x0, (0 : Int), x0)
def zjb (fuel : Nat) (x : (((List LP) × Unit) × Unit)) : zA := zja fuel (iter (ze8 fuel) fuel) x.1.1
theorem zIR (fuel : Nat) (x : PsT zi9) : run (zai fuel) 0 fuel zW (env0 (svPs zi9 x) 0) [] (endF zaB zaA) = zjb fuel x :=
  (show run (zai fuel) 0 fuel zW (env0 (svPs zi9 x) 0) [] (endF zaB zaA) = zja fuel (zW.lp (zai fuel) 0 fuel (fun _ _ _ => none) (endF zaB zaA) 0 zca) x.1.1 by kernel_rfl).trans (by rw [zIQ]; rfl)
def znH (fuel : Nat) : TF := ⟨zi9, zaA, true, zjb fuel⟩
theorem zIS (fuel : Nat) : FnSpec Tryz.prog 184 (znH fuel) :=
  fn_spec (T := zai fuel) (c := bodyOf Tryz.f184) (fn := Tryz.f184) (TabOK.of (entCons (zIN fuel) entNil) (methNil)) mixed (by kernel_rfl) (by kernel_rfl) zIO (by kernel_rfl) (Nat.le_of_ble_eq_true (by kernel_rfl)) (rv := zaB) (by kernel_rfl) (zIR fuel)
theorem zIT (fuel : Nat) : EntryOK Tryz.prog 184 (znH fuel).te := EntryOK.tf rfl (zIS fuel) (isFn (fn := Tryz.f184) (by kernel_rfl) (by kernel_rfl) (by kernel_rfl))
abbrev za3 := Option ((LP × Unit) × Unit)
def ze9 (fuel : Nat) : Tab := Tab.of [(183, (zb4 fuel).te), (183, (zb6 fuel).te), (184, (znH fuel).te)] []
abbrev zjc : List Pm := [{ cs := [(Kd.list KP, false)], ag := false }, { cs := [(Kd.list KP, false)], ag := false }]
abbrev zfa : List Pm := [{ cs := [(Kd.list KP, true)], ag := false }]
def zvZ : List Norm := [{ live := [21, 20, 19, 6], fix := [] }]
noncomputable def zfb : C := irOf Tryz.prog Tryz.f137 [] zvZ []
theorem zIU : lightC Tryz.prog [] Tryz.f137.ntmps zvZ [] 0 (bodyOf Tryz.f137) = some (zfb, 1) := by kernel_rfl
def zfc : List (Nat × Option (Nat × Bool)) := [(4, none)]
abbrev zcc := (Int) × (Int) × LP × LP
def zv0 (v : zcc) : Env × Heap := ([(21, SV.int .i64 v.1), (20, SV.int .i64 v.2.1), (19, SV.own 0), (6, SV.own 1)], [Blk.arr KP v.2.2.1 0, Blk.arr KP v.2.2.2 0])
def zfd (fuel : Nat) (g0 : zcc → za3) (v : zcc) : za3 :=
 cond (decide (v.1 < v.2.1))
 (tst (decide (0 ≤ v.1)) <|
 tst (decide (v.1 < (zz (List.length v.2.2.1)))) <|
 tst (decide (Int.toNat v.1 < List.length v.2.2.1)) <|
 cond (decide (w64 ((zz (List.length v.2.2.2)) - (1 : Int)) ≥ (0 : Int)))
 (tst (decide (0 ≤ w64 ((zz (List.length v.2.2.2)) - (1 : Int)))) <|
 tst (decide (w64 ((zz (List.length v.2.2.2)) - (1 : Int)) < (zz (List.length v.2.2.2)))) <|
 tst (decide (Int.toNat (w64 ((zz (List.length v.2.2.2)) - (1 : Int))) < List.length v.2.2.2)) <|
 cond ((List.getD v.2.2.2 (Int.toNat (w64 ((zz (List.length v.2.2.2)) - (1 : Int)))) (0, (0, ()))).1 == (List.getD v.2.2.1 (Int.toNat v.1) (0, (0, ()))).1)
 (tst (decide (0 ≤ w64 ((zz (List.length v.2.2.2)) - (1 : Int)))) <|
 tst (decide (w64 ((zz (List.length v.2.2.2)) - (1 : Int)) < (zz (List.length v.2.2.2)))) <|
 tst (decide (Int.toNat (w64 ((zz (List.length v.2.2.2)) - (1 : Int))) < List.length v.2.2.2)) <|
 tst (decide (0 ≤ w64 ((zz (List.length v.2.2.2)) - (1 : Int)))) <|
 tst (decide (w64 ((zz (List.length v.2.2.2)) - (1 : Int)) < (zz (List.length v.2.2.2)))) <|
 tst (decide (Int.toNat (w64 ((zz (List.length v.2.2.2)) - (1 : Int))) < List.length v.2.2.2)) <|
 g0 (w64 (v.1 + (1 : Int)), v.2.1, v.2.2.1, List.set v.2.2.2 (Int.toNat (w64 ((zz (List.length v.2.2.2)) - (1 : Int)))) ((List.getD v.2.2.2 (Int.toNat (w64 ((zz (List.length v.2.2.2)) - (1 : Int)))) (0, (0, ()))).1, w64 ((List.getD v.2.2.2 (Int.toNat (w64 ((zz (List.length v.2.2.2)) - (1 : Int)))) (0, (0, ()))).2.1 + (List.getD v.2.2.1 (Int.toNat v.1) (0, (0, ()))).2.1), ())))
 (tst (decide (List.length v.2.2.2 + 1 < LIM)) <|
 g0 (w64 (v.1 + (1 : Int)), v.2.1, v.2.2.1, v.2.2.2 ++ [((List.getD v.2.2.1 (Int.toNat v.1) (0, (0, ()))).1, (List.getD v.2.2.1 (Int.toNat v.1) (0, (0, ()))).2.1, ())])))
 (tst (decide (List.length v.2.2.2 + 1 < LIM)) <|
 g0 (w64 (v.1 + (1 : Int)), v.2.1, v.2.2.1, v.2.2.2 ++ [((List.getD v.2.2.1 (Int.toNat v.1) (0, (0, ()))).1, (List.getD v.2.2.1 (Int.toNat v.1) (0, (0, ()))).2.1, ())])))
 (some (((v.2.2.2, ()), ())))
def zjd (fuel : Nat) (g0 : zcc → za3) : zcc → za3 := zfd fuel g0
theorem zIV (fuel : Nat) (G) : zfb.lp (ze9 fuel) 0 fuel G (endF zfc zfa) 0 zv0 = iter (zjd fuel) fuel := C.lp_iter fun g v => by kernel_rfl
def zje (fuel : Nat) (X0 : zcc → za3) (x0 : LP) (x1 : LP) : za3 :=
 Option.bind (zjb fuel (([x0, x1], ()), ())) fun y_1 =>
 Option.bind (zi4 fuel (y_1.1.1, (), ())) fun y_2 =>
 tst (decide ((0 : Int) ≤ (zz (List.length y_2.1)))) <|
 tst (decide (Int.toNat (zz (List.length y_2.1)) < LIM)) <|
 X0 ((0 : Int), (zz (List.length y_2.1)), y_2.1, List.replicate (Int.toNat (0 : Int)) (0, (0, ())))
def zfe (fuel : Nat) (x : ((LP × Unit) × ((LP × Unit) × Unit))) : za3 := zje fuel (iter (zjd fuel) fuel) x.1.1 x.2.1.1
theorem zIW (fuel : Nat) (x : PsT zjc) : run (ze9 fuel) 0 fuel zfb (env0 (svPs zjc x) 0) [] (endF zfc zfa) = zfe fuel x :=
  (show run (ze9 fuel) 0 fuel zfb (env0 (svPs zjc x) 0) [] (endF zfc zfa) = zje fuel (zfb.lp (ze9 fuel) 0 fuel (fun _ _ _ => none) (endF zfc zfa) 0 zv0) x.1.1 x.2.1.1 by kernel_rfl).trans (by rw [zIV]; rfl)
def zjf (fuel : Nat) : TF := ⟨zjc, zfa, true, zfe fuel⟩
theorem zIX (fuel : Nat) : FnSpec Tryz.prog 137 (zjf fuel) :=
  fn_spec (T := ze9 fuel) (c := bodyOf Tryz.f137) (fn := Tryz.f137) (TabOK.of (entCons (zi5 fuel) (entCons (zi6 fuel) (entCons (zIT fuel) entNil))) (methNil)) mixed (by kernel_rfl) (by kernel_rfl) zIU (by kernel_rfl) (Nat.le_of_ble_eq_true (by kernel_rfl)) (rv := zfc) (by kernel_rfl) (zIW fuel)
theorem zv1 (fuel : Nat) : EntryOK Tryz.prog 137 (zjf fuel).te := EntryOK.tf rfl (zIX fuel) (isFn (fn := Tryz.f137) (by kernel_rfl) (by kernel_rfl) (by kernel_rfl))
def zv2 (fuel : Nat) : Tab := Tab.of [(136, (znD fuel).te), (137, (zjf fuel).te)] []
abbrev znI : List Pm := [{ cs := [(Kd.list KP, false), (I6, false), (I6, false)], ag := true }, { cs := [(Kd.list KP, false), (I6, false), (I6, false)], ag := true }]
abbrev zv3 : List Pm := [{ cs := [(Kd.list KP, false), (I6, false), (I6, false)], ag := true }]
def zv4 : List Norm := []
noncomputable def zv5 : C := irOf Tryz.prog Tryz.f90 [21] zv4 []
theorem zIY : lightC Tryz.prog [21] Tryz.f90.ntmps zv4 [] 0 (bodyOf Tryz.f90) = some (zv5, 0) := by kernel_rfl
def zv6 : List (Nat × Option (Nat × Bool)) := [(4, some (3, true))]
def zff (fuel : Nat) (x0 : LP) (x1 : Int) (x2 : Int) (x3 : LP) (x4 : Int) (x5 : Int) : Option ((LP × (Int × (Int × Unit))) × Unit) :=
 Option.bind (zfe fuel ((x0, ()), (x3, ()), ())) fun y_1 =>
 Option.bind (zb9 fuel ((y_1.1.1, w64 (x1 + x4), w64 (x2 + x5), ()), ())) fun y_2 =>
 some (((y_2.1.1, y_2.1.2.1, y_2.1.2.2.1, ()), ()))
def zfg (fuel : Nat) (x : ((LP × (Int × (Int × Unit))) × ((LP × (Int × (Int × Unit))) × Unit))) : Option ((LP × (Int × (Int × Unit))) × Unit) := zff fuel x.1.1 x.1.2.1 x.1.2.2.1 x.2.1.1 x.2.1.2.1 x.2.1.2.2.1
theorem zIZ (fuel : Nat) (x : PsT znI) : run (zv2 fuel) 0 fuel zv5 (env0 (svPs znI x) 0) [] (endF zv6 zv3) = zfg fuel x := by kernel_rfl
def znJ (fuel : Nat) : TF := ⟨znI, zv3, false, zfg fuel⟩
theorem zI0 (fuel : Nat) : FnSpec Tryz.prog 90 (znJ fuel) :=
  fn_spec (T := zv2 fuel) (c := bodyOf Tryz.f90) (fn := Tryz.f90) (TabOK.of (entCons (zIJ fuel) (entCons (zv1 fuel) entNil)) (methNil)) mixed (by kernel_rfl) (by kernel_rfl) zIY (by kernel_rfl) (Nat.le_of_ble_eq_true (by kernel_rfl)) (rv := zv6) (by kernel_rfl) (zIZ fuel)
theorem zI1 (fuel : Nat) : EntryOK Tryz.prog 90 (znJ fuel).te := EntryOK.tf rfl (zI0 fuel) (isFn (fn := Tryz.f90) (by kernel_rfl) (by kernel_rfl) (by kernel_rfl))
def zv7 (fuel : Nat) : Tab := Tab.of [(85, (zeO fuel).te), (86, (zQ fuel).te), (90, (znJ fuel).te)] []
abbrev znK : List Pm := [{ cs := [(Kd.list KP, false), (I6, false), (I6, false)], ag := true }, { cs := [(I6, false)], ag := false }]
abbrev zv8 : List Pm := [{ cs := [(Kd.list KP, false), (I6, false), (I6, false)], ag := true }, { cs := [(Kd.bool, false)], ag := false }]
def zv9 : List Norm := []
noncomputable def zwa : C := irOf Tryz.prog Tryz.f64 [25] zv9 []
theorem zI2 : lightC Tryz.prog [25] Tryz.f64.ntmps zv9 [] 0 (bodyOf Tryz.f64) = some (zwa, 0) := by kernel_rfl
def zwb : List (Nat × Option (Nat × Bool)) := [(4, some (3, true)), (5, none)]
def zfh (fuel : Nat) (x0 : LP) (x1 : Int) (x2 : Int) (x3 : Int) : Option ((LP × (Int × (Int × Unit))) × ((Bool × Unit) × Unit)) :=
 Option.bind (zbT fuel ((x0, x1, x2, ()), ())) fun y_1 =>
 cond (!y_1.1.1)
 (some ((([], (0 : Int), (0 : Int), ()), (false, ()), ())))
 (Option.bind (zo fuel ((x3, ()), ())) fun y_3 =>
 cond (!y_3.1.1)
 (some ((([], (0 : Int), (0 : Int), ()), (false, ()), ())))
 (cond (x2 == (2000 : Int))
 (some ((([], (0 : Int), (0 : Int), ()), (false, ()), ())))
 (Option.bind (zfg fuel ((x0, x1, x2, ()), ([(x3, (1 : Int), ())], (0 : Int), (1 : Int), ()), ())) fun y_6 =>
 some (((y_6.1.1, y_6.1.2.1, y_6.1.2.2.1, ()), (true, ()), ())))))
def zfi (fuel : Nat) (x : ((LP × (Int × (Int × Unit))) × ((Int × Unit) × Unit))) : Option ((LP × (Int × (Int × Unit))) × ((Bool × Unit) × Unit)) := zfh fuel x.1.1 x.1.2.1 x.1.2.2.1 x.2.1.1
theorem zI3 (fuel : Nat) (x : PsT znK) : run (zv7 fuel) 0 fuel zwa (env0 (svPs znK x) 0) [] (endF zwb zv8) = zfi fuel x := by kernel_rfl
def znL (fuel : Nat) : TF := ⟨znK, zv8, false, zfi fuel⟩
theorem zI4 (fuel : Nat) : FnSpec Tryz.prog 64 (znL fuel) :=
  fn_spec (T := zv7 fuel) (c := bodyOf Tryz.f64) (fn := Tryz.f64) (TabOK.of (entCons (zm9 fuel) (entCons (zat fuel) (entCons (zI1 fuel) entNil))) (methNil)) mixed (by kernel_rfl) (by kernel_rfl) zI2 (by kernel_rfl) (Nat.le_of_ble_eq_true (by kernel_rfl)) (rv := zwb) (by kernel_rfl) (zI3 fuel)
theorem zI5 (fuel : Nat) : EntryOK Tryz.prog 64 (znL fuel).te := EntryOK.tf rfl (zI4 fuel) (isFn (fn := Tryz.f64) (by kernel_rfl) (by kernel_rfl) (by kernel_rfl))
def zwc (fuel : Nat) : Tab := Tab.of [(64, (znL fuel).te)] []
abbrev znM : Sh := (.agg (.cell (Kd.list KP) 0 (.cell I6 0 (.cell I6 0 .nil))) (.cell I6 0 .nil))
abbrev zwd : Sh := (.ifc 32 (.agg (.cell (Kd.list KP) 0 (.cell I6 0 (.cell I6 0 .nil))) .nil) (.cell Kd.bool 0 .nil))
def zwe : List Norm := []
noncomputable def zwf : C := irOf Tryz.prog Tryz.f237 [] zwe []
theorem zI6 : lightC Tryz.prog [] Tryz.f237.ntmps zwe [] 0 (bodyOf Tryz.f237) = some (zwf, 0) := by kernel_rfl
def zwg : List (Nat × Option (Nat × Bool)) := [(4, none), (5, none)]
def zI7 (fuel : Nat) (x0 : LP) (x1 : Int) (x2 : Int) (x3 : Int) : Option (((LP × (Int × (Int × Unit))) × Unit) × (Bool × Unit)) :=
 Option.bind (zfi fuel ((x0, x1, x2, ()), (x3, ()), ())) fun y_1 =>
 some ((((y_1.1.1, y_1.1.2.1, y_1.1.2.2.1, ()), ()), y_1.2.1.1, ()))
def znN (fuel : Nat) (x : ((LP × (Int × (Int × Unit))) × (Int × Unit))) : Option (((LP × (Int × (Int × Unit))) × Unit) × (Bool × Unit)) := zI7 fuel x.1.1 x.1.2.1 x.1.2.2.1 x.2.1
theorem zI8 (fuel : Nat) (x : Sh.T znM) : run (zwc fuel) 0 fuel zwf (env0 (svS znM x) 0) [] (endG zwg zwd) = znN fuel x := by kernel_rfl
def znO (fuel : Nat) : TG := ⟨znM, zwd, false, znN fuel⟩
theorem zI9 (fuel : Nat) : FnSpecG Tryz.prog 237 (znO fuel) :=
  zd (T := zwc fuel) (c := bodyOf Tryz.f237) (fn := Tryz.f237) (TabOK.of (entCons (zI5 fuel) entNil) (methNil)) mixed (by kernel_rfl) (by kernel_rfl) zI6 (by kernel_rfl) (Nat.le_of_ble_eq_true (by kernel_rfl)) (rv := zwg) (by kernel_rfl) (fun x y h => (zI8 fuel x).trans h)
theorem zJa (fuel : Nat) : EntryOK Tryz.prog 237 (znO fuel).te := EntryOK.tg rfl (zI9 fuel) (isFn (fn := Tryz.f237) (by kernel_rfl) (by kernel_rfl) (by kernel_rfl))
def zfj (fuel : Nat) : Tab := Tab.of [] []
abbrev zjg : List Pm := [{ cs := [(Kd.list KP, false)], ag := false }]
abbrev zfk : List Pm := []
abbrev zaC : Rf := Rf.arr I6 165
def zwh : List Norm := [{ live := [8, 7, 6, 0], fix := [] }]
noncomputable def zfl : C := irOf Tryz.prog Tryz.f155 [] zwh []
theorem zJb : lightC Tryz.prog [] Tryz.f155.ntmps zwh [] 0 (bodyOf Tryz.f155) = some (zfl, 1) := by kernel_rfl
def zfm : List (Nat × Option (Nat × Bool)) := []
abbrev zcd := (Int) × (Int) × LP × (List Int)
def zwi (v : zcd) : Env × Heap := ([(8, SV.int .i64 v.1), (7, SV.int .i64 v.2.1), (6, SV.es KP v.2.2.1), (0, SV.ptr 0 0)], [Blk.arr I6 v.2.2.2 0])
def zfn (fuel : Nat) (g0 : zcd → Option ((List Int) × Unit)) (v : zcd) : Option ((List Int) × Unit) :=
 cond (decide (v.1 < v.2.1))
 (tst (decide (0 ≤ v.1)) <|
 tst (decide (v.1 < (zz (List.length v.2.2.1)))) <|
 tst (decide (0 ≤ (List.getD v.2.2.1 (Int.toNat v.1) (0, (0, ()))).1)) <|
 tst (decide ((List.getD v.2.2.1 (Int.toNat v.1) (0, (0, ()))).1 < (zz 128))) <|
 tst (decide (Int.toNat (List.getD v.2.2.1 (Int.toNat v.1) (0, (0, ()))).1 < List.length v.2.2.2)) <|
 tst (decide (0 ≤ (List.getD v.2.2.1 (Int.toNat v.1) (0, (0, ()))).1)) <|
 tst (decide ((List.getD v.2.2.1 (Int.toNat v.1) (0, (0, ()))).1 < (zz 128))) <|
 tst (decide (Int.toNat (List.getD v.2.2.1 (Int.toNat v.1) (0, (0, ()))).1 < List.length v.2.2.2)) <|
 g0 (w64 (v.1 + (1 : Int)), v.2.1, v.2.2.1, List.set v.2.2.2 (Int.toNat (List.getD v.2.2.1 (Int.toNat v.1) (0, (0, ()))).1) (w64 (List.getD v.2.2.2 (Int.toNat (List.getD v.2.2.1 (Int.toNat v.1) (0, (0, ()))).1) 0 + (List.getD v.2.2.1 (Int.toNat v.1) (0, (0, ()))).2.1))))
 (some ((v.2.2.2, ())))
def zjh (fuel : Nat) (g0 : zcd → Option ((List Int) × Unit)) : zcd → Option ((List Int) × Unit) := zfn fuel g0
theorem zJc (fuel : Nat) (G) : zfl.lp (zfj fuel) 1 fuel G (endU zfm zaC zfk) 0 zwi = iter (zjh fuel) fuel := C.lp_iter fun g v => by kernel_rfl
def znP (fuel : Nat) (X0 : zcd → Option ((List Int) × Unit)) (d0 : List Int) (x0 : LP) : Option ((List Int) × Unit) :=
 X0 ((0 : Int), (zz (List.length x0)), x0, d0)
def zce (fuel : Nat) (z : (List Int) × ((LP × Unit) × Unit)) : Option ((List Int) × Unit) := znP fuel (iter (zjh fuel) fuel) z.1 z.2.1.1
theorem zJd (fuel : Nat) (c : Rf.T zaC) (x : PsT zjg) : run (zfj fuel) 1 fuel zfl ((0, .ptr 0 0) :: env0 (svPs zjg x) 1) [zaC.blk c] (endU zfm zaC zfk) = zce fuel (c, x) :=
  (show run (zfj fuel) 1 fuel zfl ((0, .ptr 0 0) :: env0 (svPs zjg x) 1) [zaC.blk c] (endU zfm zaC zfk) = znP fuel (zfl.lp (zfj fuel) 1 fuel (fun _ _ _ => none) (endU zfm zaC zfk) 0 zwi) c x.1.1 by kernel_rfl).trans (by rw [zJc]; rfl)
def znQ (fuel : Nat) : TFU := ⟨zaC, zjg, zfk, zce fuel⟩
theorem zJe (fuel : Nat) : FnSpecU Tryz.prog 155 (znQ fuel) :=
  zCX (T := zfj fuel) (c := bodyOf Tryz.f155) (fn := Tryz.f155) (TabOK.of (entNil) (methNil)) mixed (by kernel_rfl) (by kernel_rfl) zJb (by kernel_rfl) (Nat.le_of_ble_eq_true (by kernel_rfl)) (rv := zfm) (by kernel_rfl) (zJd fuel)
theorem zJf (fuel : Nat) : EntryOK Tryz.prog 155 (znQ fuel).te := EntryOK.tfu (zJe fuel) (isFn (fn := Tryz.f155) (by kernel_rfl) (by kernel_rfl) (by kernel_rfl))
def zaj (fuel : Nat) : Tab := Tab.of [] []
abbrev zji : List Pm := [{ cs := [(I6, false)], ag := false }]
abbrev zaD : List Pm := []
abbrev zI : Rf := Rf.arr I6 165
def zwj : List Norm := [{ live := [5, 4, 0, 1], fix := [] }, { live := [4, 0, 1], fix := [(4, none, I6, true)] }]
noncomputable def zX : C := irOf Tryz.prog Tryz.f156 [] zwj []
theorem zJg : lightC Tryz.prog [] Tryz.f156.ntmps zwj [] 0 (bodyOf Tryz.f156) = some (zX, 2) := by kernel_rfl
def zaE : List (Nat × Option (Nat × Bool)) := []
abbrev zcf := (Int) × (Int) × (List Int) × (List Int)
abbrev zcg := (Int) × (List Int) × (List Int)
def zch (v : zcf) : Env × Heap := ([(5, SV.int .i64 v.1), (4, SV.own 1), (0, SV.ptr 0 0), (1, SV.int .i64 v.2.1)], [Blk.arr I6 v.2.2.1 0, Blk.arr I6 v.2.2.2 0])
def zwk (v : zcg) : Env × Heap := ([(4, SV.own 1), (0, SV.ptr 0 0), (1, SV.int .i64 v.1)], [Blk.arr I6 v.2.1 0, Blk.arr I6 v.2.2 0])
def zfo (fuel : Nat) (g1 : zcg → Option ((List Int) × Unit)) (v : zcg) : Option ((List Int) × Unit) :=
 cond (decide ((zz (List.length v.2.2)) > (0 : Int)))
 (tst (decide ((0 : Int) < (zz (List.length v.2.2)))) <|
 tst (decide (Int.toNat (0 : Int) < List.length v.2.2)) <|
 tst (decide ((1 : Int) ≤ (zz (List.length v.2.2)))) <|
 tst (decide (0 ≤ w64 (List.getD v.2.2 (Int.toNat (0 : Int)) 0 * 2 ^ min (Int.toNat (1 : Int)) (IntKind.bits IntKind.i64)))) <|
 tst (decide (w64 (List.getD v.2.2 (Int.toNat (0 : Int)) 0 * 2 ^ min (Int.toNat (1 : Int)) (IntKind.bits IntKind.i64)) < (zz 128))) <|
 tst (decide (Int.toNat (w64 (List.getD v.2.2 (Int.toNat (0 : Int)) 0 * 2 ^ min (Int.toNat (1 : Int)) (IntKind.bits IntKind.i64))) < List.length v.2.1)) <|
 tst (decide (0 ≤ w64 (zz (BitVec.toNat (BitVec.ofInt (IntKind.bits IntKind.i64) (w64 (List.getD v.2.2 (Int.toNat (0 : Int)) 0 * 2 ^ min (Int.toNat (1 : Int)) (IntKind.bits IntKind.i64))) ||| BitVec.ofInt (IntKind.bits IntKind.i64) (1 : Int)))))) <|
 tst (decide (w64 (zz (BitVec.toNat (BitVec.ofInt (IntKind.bits IntKind.i64) (w64 (List.getD v.2.2 (Int.toNat (0 : Int)) 0 * 2 ^ min (Int.toNat (1 : Int)) (IntKind.bits IntKind.i64))) ||| BitVec.ofInt (IntKind.bits IntKind.i64) (1 : Int)))) < (zz 128))) <|
 tst (decide (Int.toNat (w64 (zz (BitVec.toNat (BitVec.ofInt (IntKind.bits IntKind.i64) (w64 (List.getD v.2.2 (Int.toNat (0 : Int)) 0 * 2 ^ min (Int.toNat (1 : Int)) (IntKind.bits IntKind.i64))) ||| BitVec.ofInt (IntKind.bits IntKind.i64) (1 : Int))))) < List.length v.2.1)) <|
 cond (decide (w64 (List.getD v.2.1 (Int.toNat (w64 (List.getD v.2.2 (Int.toNat (0 : Int)) 0 * 2 ^ min (Int.toNat (1 : Int)) (IntKind.bits IntKind.i64)))) 0 + List.getD v.2.1 (Int.toNat (w64 (zz (BitVec.toNat (BitVec.ofInt (IntKind.bits IntKind.i64) (w64 (List.getD v.2.2 (Int.toNat (0 : Int)) 0 * 2 ^ min (Int.toNat (1 : Int)) (IntKind.bits IntKind.i64))) ||| BitVec.ofInt (IntKind.bits IntKind.i64) (1 : Int)))))) 0) > (0 : Int)))
 (tst (decide (0 ≤ List.getD v.2.2 (Int.toNat (0 : Int)) 0)) <|
 tst (decide (List.getD v.2.2 (Int.toNat (0 : Int)) 0 < (zz 128))) <|
 tst (decide (Int.toNat (List.getD v.2.2 (Int.toNat (0 : Int)) 0) < List.length v.2.1)) <|
 cond (decide (w64 (w64 (List.getD v.2.1 (Int.toNat (w64 (List.getD v.2.2 (Int.toNat (0 : Int)) 0 * 2 ^ min (Int.toNat (1 : Int)) (IntKind.bits IntKind.i64)))) 0 + List.getD v.2.1 (Int.toNat (w64 (zz (BitVec.toNat (BitVec.ofInt (IntKind.bits IntKind.i64) (w64 (List.getD v.2.2 (Int.toNat (0 : Int)) 0 * 2 ^ min (Int.toNat (1 : Int)) (IntKind.bits IntKind.i64))) ||| BitVec.ofInt (IntKind.bits IntKind.i64) (1 : Int)))))) 0) + List.getD v.2.1 (Int.toNat (List.getD v.2.2 (Int.toNat (0 : Int)) 0)) 0) ≤ w64 (Int.tdiv v.1 (8 : Int))))
 (tst (decide (0 ≤ List.getD v.2.2 (Int.toNat (0 : Int)) 0)) <|
 tst (decide (List.getD v.2.2 (Int.toNat (0 : Int)) 0 < (zz 128))) <|
 tst (decide (Int.toNat (List.getD v.2.2 (Int.toNat (0 : Int)) 0) < List.length v.2.1)) <|
 tst (decide (0 ≤ List.getD v.2.2 (Int.toNat (0 : Int)) 0)) <|
 tst (decide (List.getD v.2.2 (Int.toNat (0 : Int)) 0 < (zz 128))) <|
 tst (decide (Int.toNat (List.getD v.2.2 (Int.toNat (0 : Int)) 0) < List.length v.2.1)) <|
 tst (decide (0 ≤ w64 (List.getD v.2.2 (Int.toNat (0 : Int)) 0 * 2 ^ min (Int.toNat (1 : Int)) (IntKind.bits IntKind.i64)))) <|
 tst (decide (w64 (List.getD v.2.2 (Int.toNat (0 : Int)) 0 * 2 ^ min (Int.toNat (1 : Int)) (IntKind.bits IntKind.i64)) < (zz 128))) <|
 tst (decide (Int.toNat (w64 (List.getD v.2.2 (Int.toNat (0 : Int)) 0 * 2 ^ min (Int.toNat (1 : Int)) (IntKind.bits IntKind.i64))) < List.length (List.set v.2.1 (Int.toNat (List.getD v.2.2 (Int.toNat (0 : Int)) 0)) (w64 (List.getD v.2.1 (Int.toNat (List.getD v.2.2 (Int.toNat (0 : Int)) 0)) 0 + w64 (List.getD v.2.1 (Int.toNat (w64 (List.getD v.2.2 (Int.toNat (0 : Int)) 0 * 2 ^ min (Int.toNat (1 : Int)) (IntKind.bits IntKind.i64)))) 0 + List.getD v.2.1 (Int.toNat (w64 (zz (BitVec.toNat (BitVec.ofInt (IntKind.bits IntKind.i64) (w64 (List.getD v.2.2 (Int.toNat (0 : Int)) 0 * 2 ^ min (Int.toNat (1 : Int)) (IntKind.bits IntKind.i64))) ||| BitVec.ofInt (IntKind.bits IntKind.i64) (1 : Int)))))) 0)))))) <|
 tst (decide (0 ≤ w64 (zz (BitVec.toNat (BitVec.ofInt (IntKind.bits IntKind.i64) (w64 (List.getD v.2.2 (Int.toNat (0 : Int)) 0 * 2 ^ min (Int.toNat (1 : Int)) (IntKind.bits IntKind.i64))) ||| BitVec.ofInt (IntKind.bits IntKind.i64) (1 : Int)))))) <|
 tst (decide (w64 (zz (BitVec.toNat (BitVec.ofInt (IntKind.bits IntKind.i64) (w64 (List.getD v.2.2 (Int.toNat (0 : Int)) 0 * 2 ^ min (Int.toNat (1 : Int)) (IntKind.bits IntKind.i64))) ||| BitVec.ofInt (IntKind.bits IntKind.i64) (1 : Int)))) < (zz 128))) <|
 tst (decide (Int.toNat (w64 (zz (BitVec.toNat (BitVec.ofInt (IntKind.bits IntKind.i64) (w64 (List.getD v.2.2 (Int.toNat (0 : Int)) 0 * 2 ^ min (Int.toNat (1 : Int)) (IntKind.bits IntKind.i64))) ||| BitVec.ofInt (IntKind.bits IntKind.i64) (1 : Int))))) < List.length (List.set (List.set v.2.1 (Int.toNat (List.getD v.2.2 (Int.toNat (0 : Int)) 0)) (w64 (List.getD v.2.1 (Int.toNat (List.getD v.2.2 (Int.toNat (0 : Int)) 0)) 0 + w64 (List.getD v.2.1 (Int.toNat (w64 (List.getD v.2.2 (Int.toNat (0 : Int)) 0 * 2 ^ min (Int.toNat (1 : Int)) (IntKind.bits IntKind.i64)))) 0 + List.getD v.2.1 (Int.toNat (w64 (zz (BitVec.toNat (BitVec.ofInt (IntKind.bits IntKind.i64) (w64 (List.getD v.2.2 (Int.toNat (0 : Int)) 0 * 2 ^ min (Int.toNat (1 : Int)) (IntKind.bits IntKind.i64))) ||| BitVec.ofInt (IntKind.bits IntKind.i64) (1 : Int)))))) 0)))) (Int.toNat (w64 (List.getD v.2.2 (Int.toNat (0 : Int)) 0 * 2 ^ min (Int.toNat (1 : Int)) (IntKind.bits IntKind.i64)))) (0 : Int)))) <|
 cond (w64 (zz (BitVec.toNat (BitVec.ofInt (IntKind.bits IntKind.i64) (List.getD v.2.2 (Int.toNat (0 : Int)) 0) &&& BitVec.ofInt (IntKind.bits IntKind.i64) (1 : Int)))) == (0 : Int))
 (tst (decide (List.length (List.take (List.length v.2.2 - Int.toNat (1 : Int)) (List.drop (Int.toNat (1 : Int)) v.2.2)) + 1 < LIM)) <|
 g1 (v.1, List.set (List.set (List.set v.2.1 (Int.toNat (List.getD v.2.2 (Int.toNat (0 : Int)) 0)) (w64 (List.getD v.2.1 (Int.toNat (List.getD v.2.2 (Int.toNat (0 : Int)) 0)) 0 + w64 (List.getD v.2.1 (Int.toNat (w64 (List.getD v.2.2 (Int.toNat (0 : Int)) 0 * 2 ^ min (Int.toNat (1 : Int)) (IntKind.bits IntKind.i64)))) 0 + List.getD v.2.1 (Int.toNat (w64 (zz (BitVec.toNat (BitVec.ofInt (IntKind.bits IntKind.i64) (w64 (List.getD v.2.2 (Int.toNat (0 : Int)) 0 * 2 ^ min (Int.toNat (1 : Int)) (IntKind.bits IntKind.i64))) ||| BitVec.ofInt (IntKind.bits IntKind.i64) (1 : Int)))))) 0)))) (Int.toNat (w64 (List.getD v.2.2 (Int.toNat (0 : Int)) 0 * 2 ^ min (Int.toNat (1 : Int)) (IntKind.bits IntKind.i64)))) (0 : Int)) (Int.toNat (w64 (zz (BitVec.toNat (BitVec.ofInt (IntKind.bits IntKind.i64) (w64 (List.getD v.2.2 (Int.toNat (0 : Int)) 0 * 2 ^ min (Int.toNat (1 : Int)) (IntKind.bits IntKind.i64))) ||| BitVec.ofInt (IntKind.bits IntKind.i64) (1 : Int)))))) (0 : Int), List.take (List.length v.2.2 - Int.toNat (1 : Int)) (List.drop (Int.toNat (1 : Int)) v.2.2) ++ [Int.fdiv (List.getD v.2.2 (Int.toNat (0 : Int)) 0) (2 ^ min (Int.toNat (1 : Int)) (IntKind.bits IntKind.i64))]))
 (g1 (v.1, List.set (List.set (List.set v.2.1 (Int.toNat (List.getD v.2.2 (Int.toNat (0 : Int)) 0)) (w64 (List.getD v.2.1 (Int.toNat (List.getD v.2.2 (Int.toNat (0 : Int)) 0)) 0 + w64 (List.getD v.2.1 (Int.toNat (w64 (List.getD v.2.2 (Int.toNat (0 : Int)) 0 * 2 ^ min (Int.toNat (1 : Int)) (IntKind.bits IntKind.i64)))) 0 + List.getD v.2.1 (Int.toNat (w64 (zz (BitVec.toNat (BitVec.ofInt (IntKind.bits IntKind.i64) (w64 (List.getD v.2.2 (Int.toNat (0 : Int)) 0 * 2 ^ min (Int.toNat (1 : Int)) (IntKind.bits IntKind.i64))) ||| BitVec.ofInt (IntKind.bits IntKind.i64) (1 : Int)))))) 0)))) (Int.toNat (w64 (List.getD v.2.2 (Int.toNat (0 : Int)) 0 * 2 ^ min (Int.toNat (1 : Int)) (IntKind.bits IntKind.i64)))) (0 : Int)) (Int.toNat (w64 (zz (BitVec.toNat (BitVec.ofInt (IntKind.bits IntKind.i64) (w64 (List.getD v.2.2 (Int.toNat (0 : Int)) 0 * 2 ^ min (Int.toNat (1 : Int)) (IntKind.bits IntKind.i64))) ||| BitVec.ofInt (IntKind.bits IntKind.i64) (1 : Int)))))) (0 : Int), List.take (List.length v.2.2 - Int.toNat (1 : Int)) (List.drop (Int.toNat (1 : Int)) v.2.2))))
 (cond (w64 (zz (BitVec.toNat (BitVec.ofInt (IntKind.bits IntKind.i64) (List.getD v.2.2 (Int.toNat (0 : Int)) 0) &&& BitVec.ofInt (IntKind.bits IntKind.i64) (1 : Int)))) == (0 : Int))
 (tst (decide (List.length (List.take (List.length v.2.2 - Int.toNat (1 : Int)) (List.drop (Int.toNat (1 : Int)) v.2.2)) + 1 < LIM)) <|
 g1 (v.1, v.2.1, List.take (List.length v.2.2 - Int.toNat (1 : Int)) (List.drop (Int.toNat (1 : Int)) v.2.2) ++ [Int.fdiv (List.getD v.2.2 (Int.toNat (0 : Int)) 0) (2 ^ min (Int.toNat (1 : Int)) (IntKind.bits IntKind.i64))]))
 (g1 (v.1, v.2.1, List.take (List.length v.2.2 - Int.toNat (1 : Int)) (List.drop (Int.toNat (1 : Int)) v.2.2)))))
 (cond (w64 (zz (BitVec.toNat (BitVec.ofInt (IntKind.bits IntKind.i64) (List.getD v.2.2 (Int.toNat (0 : Int)) 0) &&& BitVec.ofInt (IntKind.bits IntKind.i64) (1 : Int)))) == (0 : Int))
 (tst (decide (List.length (List.take (List.length v.2.2 - Int.toNat (1 : Int)) (List.drop (Int.toNat (1 : Int)) v.2.2)) + 1 < LIM)) <|
 g1 (v.1, v.2.1, List.take (List.length v.2.2 - Int.toNat (1 : Int)) (List.drop (Int.toNat (1 : Int)) v.2.2) ++ [Int.fdiv (List.getD v.2.2 (Int.toNat (0 : Int)) 0) (2 ^ min (Int.toNat (1 : Int)) (IntKind.bits IntKind.i64))]))
 (g1 (v.1, v.2.1, List.take (List.length v.2.2 - Int.toNat (1 : Int)) (List.drop (Int.toNat (1 : Int)) v.2.2)))))
 (some ((v.2.1, ())))
def za4 (fuel : Nat) (g1 : zcg → Option ((List Int) × Unit)) : zcg → Option ((List Int) × Unit) := zfo fuel g1
theorem zJh (fuel : Nat) (G) : zX.lp (zaj fuel) 1 fuel G (endU zaE zI zaD) 1 zwk = iter (za4 fuel) fuel := C.lp_iter fun g v => by kernel_rfl
def zci (fuel : Nat) (X1 : zcg → Option ((List Int) × Unit)) (g0 : zcf → Option ((List Int) × Unit)) (v : zcf) : Option ((List Int) × Unit) :=
 cond (decide (v.1 ≥ (32 : Int)))
 (tst (decide (List.length v.2.2.2 + 1 < LIM)) <|
 g0 (w64 (v.1 - (1 : Int)), v.2.1, v.2.2.1, v.2.2.2 ++ [v.1]))
 (X1 (v.2.1, v.2.2.1, v.2.2.2))
def znR (fuel : Nat) (g0 : zcf → Option ((List Int) × Unit)) : zcf → Option ((List Int) × Unit) := zci fuel (iter (za4 fuel) fuel) g0
theorem zJi (fuel : Nat) (G) : zX.lp (zaj fuel) 1 fuel G (endU zaE zI zaD) 0 zch = iter (znR fuel) fuel := C.lp_iter fun g v =>
  (show run (zaj fuel) 1 fuel (zX.bdAt 0) (zch v).1 (zch v).2 (loopK 1 (zX.nmAt 0) g (zX.contAt (zaj fuel) 1 fuel G 0 0 (endU zaE zI zaD))) = zci fuel (zX.lp (zaj fuel) 1 fuel (fun m => bif Nat.beq m 0 then g else G m) (endU zaE zI zaD) 1 zwk) (fun v => g (zch v).1 (zch v).2) v by kernel_rfl).trans (by rw [zJh]; rfl)
def znS (fuel : Nat) (X0 : zcf → Option ((List Int) × Unit)) (d0 : List Int) (x0 : Int) : Option ((List Int) × Unit) :=
 X0 ((63 : Int), x0, d0, List.replicate (Int.toNat (0 : Int)) 0)
def zfp (fuel : Nat) (z : (List Int) × ((Int × Unit) × Unit)) : Option ((List Int) × Unit) := znS fuel (iter (znR fuel) fuel) z.1 z.2.1.1
theorem zJj (fuel : Nat) (c : Rf.T zI) (x : PsT zji) : run (zaj fuel) 1 fuel zX ((0, .ptr 0 0) :: env0 (svPs zji x) 1) [zI.blk c] (endU zaE zI zaD) = zfp fuel (c, x) :=
  (show run (zaj fuel) 1 fuel zX ((0, .ptr 0 0) :: env0 (svPs zji x) 1) [zI.blk c] (endU zaE zI zaD) = znS fuel (zX.lp (zaj fuel) 1 fuel (fun _ _ _ => none) (endU zaE zI zaD) 0 zch) c x.1.1 by kernel_rfl).trans (by rw [zJi]; rfl)
def znT (fuel : Nat) : TFU := ⟨zI, zji, zaD, zfp fuel⟩
theorem zJk (fuel : Nat) : FnSpecU Tryz.prog 156 (znT fuel) :=
  zCX (T := zaj fuel) (c := bodyOf Tryz.f156) (fn := Tryz.f156) (TabOK.of (entNil) (methNil)) mixed (by kernel_rfl) (by kernel_rfl) zJg (by kernel_rfl) (Nat.le_of_ble_eq_true (by kernel_rfl)) (rv := zaE) (by kernel_rfl) (zJj fuel)
theorem zJl (fuel : Nat) : EntryOK Tryz.prog 156 (znT fuel).te := EntryOK.tfu (zJk fuel) (isFn (fn := Tryz.f156) (by kernel_rfl) (by kernel_rfl) (by kernel_rfl))
abbrev za5 := Option ((LP × (Int × Unit)) × Unit)
def zfq (fuel : Nat) : Tab := Tab.of [(155, (znQ fuel).te), (156, (znT fuel).te)] []
abbrev zjj : List Pm := [{ cs := [(Kd.list KP, false), (I6, false)], ag := true }, { cs := [(Kd.list KP, false), (I6, false)], ag := true }]
abbrev zfr : List Pm := [{ cs := [(Kd.list KP, true), (I6, false)], ag := true }]
def zwl : List Norm := [{ live := [24, 23, 7, 6, 4], fix := [(7, none, KP, true)] }]
noncomputable def zfs : C := irOf Tryz.prog Tryz.f105 [] zwl []
theorem zJm : lightC Tryz.prog [] Tryz.f105.ntmps zwl [] 0 (bodyOf Tryz.f105) = some (zfs, 1) := by kernel_rfl
def zft : List (Nat × Option (Nat × Bool)) := [(4, some (2, true))]
abbrev zcj := (Int) × (List Int) × (Int) × LP × (Int)
def zwm (v : zcj) : Env × Heap := ([(24, SV.int .i64 v.1), (23, SV.arrv I6 v.2.1), (7, SV.own 0), (6, SV.int .i64 v.2.2.1), (4, SV.ptr 1 0)], [Blk.arr KP v.2.2.2.1 0, Blk.cells [SV.nils, SV.int .i64 v.2.2.2.2] 0 2])
def zfu (fuel : Nat) (g0 : zcj → za5) (v : zcj) : za5 :=
 cond (decide (v.1 < (128 : Int)))
 (tst (decide (0 ≤ v.1)) <|
 tst (decide (v.1 < (zz 128))) <|
 tst (decide (v.1 < (zz (List.length v.2.1)))) <|
 cond (decide (List.getD v.2.1 (Int.toNat v.1) 0 > (0 : Int)))
 (tst (decide (List.length v.2.2.2.1 + 1 < LIM)) <|
 g0 (w64 (v.1 + (1 : Int)), v.2.1, v.2.2.1, v.2.2.2.1 ++ [(v.1, List.getD v.2.1 (Int.toNat v.1) 0, ())], v.2.2.2.2))
 (g0 (w64 (v.1 + (1 : Int)), v.2.1, v.2.2.1, v.2.2.2.1, v.2.2.2.2)))
 (some (((v.2.2.2.1, v.2.2.1, ()), ())))
def zfv (fuel : Nat) (g0 : zcj → za5) : zcj → za5 := zfu fuel g0
theorem zJn (fuel : Nat) (G) : zfs.lp (zfq fuel) 0 fuel G (endF zft zfr) 0 zwm = iter (zfv fuel) fuel := C.lp_iter fun g v => by kernel_rfl
def zjk (fuel : Nat) (X0 : zcj → za5) (x0 : LP) (x1 : Int) (x2 : LP) (x3 : Int) : za5 :=
 Option.bind (zce fuel (List.replicate 128 0, (x0, ()), ())) fun y_1 =>
 Option.bind (zce fuel (y_1.1, (x2, ()), ())) fun y_2 =>
 Option.bind (zfp fuel (y_2.1, (w64 (x1 + x3), ()), ())) fun y_3 =>
 tst (Nat.beq (List.length y_3.1 * Kd.sz I6) 128) <|
 X0 ((0 : Int), y_3.1, w64 (x1 + x3), [], (0 : Int))
def zjl (fuel : Nat) (x : ((LP × (Int × Unit)) × ((LP × (Int × Unit)) × Unit))) : za5 := zjk fuel (iter (zfv fuel) fuel) x.1.1 x.1.2.1 x.2.1.1 x.2.1.2.1
theorem zJo (fuel : Nat) (x : PsT zjj) : run (zfq fuel) 0 fuel zfs (env0 (svPs zjj x) 0) [] (endF zft zfr) = zjl fuel x :=
  (show run (zfq fuel) 0 fuel zfs (env0 (svPs zjj x) 0) [] (endF zft zfr) = zjk fuel (zfs.lp (zfq fuel) 0 fuel (fun _ _ _ => none) (endF zft zfr) 0 zwm) x.1.1 x.1.2.1 x.2.1.1 x.2.1.2.1 by kernel_rfl).trans (by rw [zJn]; rfl)
def znU (fuel : Nat) : TF := ⟨zjj, zfr, true, zjl fuel⟩
theorem zJp (fuel : Nat) : FnSpec Tryz.prog 105 (znU fuel) :=
  fn_spec (T := zfq fuel) (c := bodyOf Tryz.f105) (fn := Tryz.f105) (TabOK.of (entCons (zJf fuel) (entCons (zJl fuel) entNil)) (methNil)) mixed (by kernel_rfl) (by kernel_rfl) zJm (by kernel_rfl) (Nat.le_of_ble_eq_true (by kernel_rfl)) (rv := zft) (by kernel_rfl) (zJo fuel)
theorem zJq (fuel : Nat) : EntryOK Tryz.prog 105 (znU fuel).te := EntryOK.tf rfl (zJp fuel) (isFn (fn := Tryz.f105) (by kernel_rfl) (by kernel_rfl) (by kernel_rfl))
def zwn (fuel : Nat) : Tab := Tab.of [(86, (zQ fuel).te), (94, (zhG fuel).te), (105, (znU fuel).te)] []
abbrev znV : List Pm := [{ cs := [(Kd.list KP, false), (I6, false)], ag := true }, { cs := [(I6, false)], ag := false }]
abbrev zwo : List Pm := [{ cs := [(Kd.list KP, true), (I6, false)], ag := true }, { cs := [(Kd.bool, false)], ag := false }]
def zwp : List Norm := []
noncomputable def zwq : C := irOf Tryz.prog Tryz.f65 [] zwp []
theorem zJr : lightC Tryz.prog [] Tryz.f65.ntmps zwp [] 0 (bodyOf Tryz.f65) = some (zwq, 0) := by kernel_rfl
def zwr : List (Nat × Option (Nat × Bool)) := [(4, some (2, true)), (5, none)]
def znW (fuel : Nat) (x0 : LP) (x1 : Int) (x2 : Int) : Option ((LP × (Int × Unit)) × ((Bool × Unit) × Unit)) :=
 Option.bind (zbn fuel ((x0, x1, ()), ())) fun y_1 =>
 cond (!y_1.1.1)
 (some ((([], (0 : Int), ()), (false, ()), ())))
 (Option.bind (zo fuel ((x2, ()), ())) fun y_3 =>
 cond (!y_3.1.1)
 (some ((([], (0 : Int), ()), (false, ()), ())))
 (cond (x1 == (2000 : Int))
 (some ((([], (0 : Int), ()), (false, ()), ())))
 (Option.bind (zjl fuel ((x0, x1, ()), ([(w64 ((64 : Int) + x2), (1 : Int), ())], (1 : Int), ()), ())) fun y_6 =>
 some (((y_6.1.1, y_6.1.2.1, ()), (true, ()), ())))))
def zck (fuel : Nat) (x : ((LP × (Int × Unit)) × ((Int × Unit) × Unit))) : Option ((LP × (Int × Unit)) × ((Bool × Unit) × Unit)) := znW fuel x.1.1 x.1.2.1 x.2.1.1
theorem zJs (fuel : Nat) (x : PsT znV) : run (zwn fuel) 0 fuel zwq (env0 (svPs znV x) 0) [] (endF zwr zwo) = zck fuel x := by kernel_rfl
def zjm (fuel : Nat) : TF := ⟨znV, zwo, true, zck fuel⟩
theorem zJt (fuel : Nat) : FnSpec Tryz.prog 65 (zjm fuel) :=
  fn_spec (T := zwn fuel) (c := bodyOf Tryz.f65) (fn := Tryz.f65) (TabOK.of (entCons (zat fuel) (entCons (zrF fuel) (entCons (zJq fuel) entNil))) (methNil)) mixed (by kernel_rfl) (by kernel_rfl) zJr (by kernel_rfl) (Nat.le_of_ble_eq_true (by kernel_rfl)) (rv := zwr) (by kernel_rfl) (zJs fuel)
theorem zws (fuel : Nat) : EntryOK Tryz.prog 65 (zjm fuel).te := EntryOK.tf rfl (zJt fuel) (isFn (fn := Tryz.f65) (by kernel_rfl) (by kernel_rfl) (by kernel_rfl))
def zwt (fuel : Nat) : Tab := Tab.of [(65, (zjm fuel).te)] []
abbrev znX : Sh := (.agg (.cell (Kd.list KP) 0 (.cell I6 0 .nil)) (.cell I6 0 .nil))
abbrev zwu : Sh := (.ifc 35 (.agg (.cell (Kd.list KP) 0 (.cell I6 0 .nil)) .nil) (.cell Kd.bool 0 .nil))
def zwv : List Norm := []
noncomputable def zww : C := irOf Tryz.prog Tryz.f239 [] zwv []
theorem zJu : lightC Tryz.prog [] Tryz.f239.ntmps zwv [] 0 (bodyOf Tryz.f239) = some (zww, 0) := by kernel_rfl
def zwx : List (Nat × Option (Nat × Bool)) := [(4, none), (5, none)]
def zJv (fuel : Nat) (x0 : LP) (x1 : Int) (x2 : Int) : Option (((LP × (Int × Unit)) × Unit) × (Bool × Unit)) :=
 Option.bind (zck fuel ((x0, x1, ()), (x2, ()), ())) fun y_1 =>
 some ((((y_1.1.1, y_1.1.2.1, ()), ()), y_1.2.1.1, ()))
def znY (fuel : Nat) (x : ((LP × (Int × Unit)) × (Int × Unit))) : Option (((LP × (Int × Unit)) × Unit) × (Bool × Unit)) := zJv fuel x.1.1 x.1.2.1 x.2.1
theorem zJw (fuel : Nat) (x : Sh.T znX) : run (zwt fuel) 0 fuel zww (env0 (svS znX x) 0) [] (endG zwx zwu) = znY fuel x := by kernel_rfl
def znZ (fuel : Nat) : TG := ⟨znX, zwu, false, znY fuel⟩
theorem zJx (fuel : Nat) : FnSpecG Tryz.prog 239 (znZ fuel) :=
  zd (T := zwt fuel) (c := bodyOf Tryz.f239) (fn := Tryz.f239) (TabOK.of (entCons (zws fuel) entNil) (methNil)) mixed (by kernel_rfl) (by kernel_rfl) zJu (by kernel_rfl) (Nat.le_of_ble_eq_true (by kernel_rfl)) (rv := zwx) (by kernel_rfl) (fun x y h => (zJw fuel x).trans h)
theorem zJy (fuel : Nat) : EntryOK Tryz.prog 239 (znZ fuel).te := EntryOK.tg rfl (zJx fuel) (isFn (fn := Tryz.f239) (by kernel_rfl) (by kernel_rfl) (by kernel_rfl))
end Go.Proofs.YtdgdoeknpakmlaaGreat.Den
namespace Go.Proofs.YtdgdoeknpakmlaaGreat.Den
open Go Go.RowKit
def zwy (fuel : Nat) : Tab := Tab.of [(89, (zbM fuel).te)] []
abbrev zn0 : List Pm := [{ cs := [(Kd.list (Kd.list I6), false)], ag := true }]
abbrev zwz : List Pm := [{ cs := [(Kd.bool, false)], ag := false }]
def zwA : List Norm := []
noncomputable def zwB : C := irOf Tryz.prog Tryz.f232 [] zwA []
theorem zJz : lightC Tryz.prog [] Tryz.f232.ntmps zwA [] 0 (bodyOf Tryz.f232) = some (zwB, 0) := by kernel_rfl
def zwC : List (Nat × Option (Nat × Bool)) := [(2, none)]
def zn1 (fuel : Nat) (x0 : List (List Int)) : Option ((Bool × Unit) × Unit) :=
 Option.bind (zaW fuel ((x0, ()), ())) fun y_1 =>
 some (((y_1.1.1, ()), ()))
def zjn (fuel : Nat) (x : (((List (List Int)) × Unit) × Unit)) : Option ((Bool × Unit) × Unit) := zn1 fuel x.1.1
theorem zJA (fuel : Nat) (x : PsT zn0) : run (zwy fuel) 0 fuel zwB (env0 (svPs zn0 x) 0) [] (endF zwC zwz) = zjn fuel x := by kernel_rfl
def zn2 (fuel : Nat) : TF := ⟨zn0, zwz, true, zjn fuel⟩
theorem zJB (fuel : Nat) : FnSpec Tryz.prog 232 (zn2 fuel) :=
  fn_spec (T := zwy fuel) (c := bodyOf Tryz.f232) (fn := Tryz.f232) (TabOK.of (entCons (zir fuel) entNil) (methNil)) mixed (by kernel_rfl) (by kernel_rfl) zJz (by kernel_rfl) (Nat.le_of_ble_eq_true (by kernel_rfl)) (rv := zwC) (by kernel_rfl) (zJA fuel)
theorem zJC (fuel : Nat) : EntryOK Tryz.prog 232 (zn2 fuel).te := EntryOK.tf rfl (zJB fuel) (isFn (fn := Tryz.f232) (by kernel_rfl) (by kernel_rfl) (by kernel_rfl))
def zwD (fuel : Nat) : Tab := Tab.of [(84, (ziC fuel).te)] []
abbrev zn3 : List Pm := [{ cs := [(Kd.list I6, false)], ag := true }]
abbrev zwE : List Pm := [{ cs := [(Kd.bool, false)], ag := false }]
def zwF : List Norm := []
noncomputable def zwG : C := irOf Tryz.prog Tryz.f234 [] zwF []
theorem zJD : lightC Tryz.prog [] Tryz.f234.ntmps zwF [] 0 (bodyOf Tryz.f234) = some (zwG, 0) := by kernel_rfl
def zwH : List (Nat × Option (Nat × Bool)) := [(2, none)]
def zn4 (fuel : Nat) (x0 : List Int) : Option ((Bool × Unit) × Unit) :=
 Option.bind (zeH fuel ((x0, ()), ())) fun y_1 =>
 some (((y_1.1.1, ()), ()))
def zjo (fuel : Nat) (x : (((List Int) × Unit) × Unit)) : Option ((Bool × Unit) × Unit) := zn4 fuel x.1.1
theorem zJE (fuel : Nat) (x : PsT zn3) : run (zwD fuel) 0 fuel zwG (env0 (svPs zn3 x) 0) [] (endF zwH zwE) = zjo fuel x := by kernel_rfl
def zn5 (fuel : Nat) : TF := ⟨zn3, zwE, true, zjo fuel⟩
theorem zJF (fuel : Nat) : FnSpec Tryz.prog 234 (zn5 fuel) :=
  fn_spec (T := zwD fuel) (c := bodyOf Tryz.f234) (fn := Tryz.f234) (TabOK.of (entCons (zuk fuel) entNil) (methNil)) mixed (by kernel_rfl) (by kernel_rfl) zJD (by kernel_rfl) (Nat.le_of_ble_eq_true (by kernel_rfl)) (rv := zwH) (by kernel_rfl) (zJE fuel)
theorem zJG (fuel : Nat) : EntryOK Tryz.prog 234 (zn5 fuel).te := EntryOK.tf rfl (zJF fuel) (isFn (fn := Tryz.f234) (by kernel_rfl) (by kernel_rfl) (by kernel_rfl))
def zwI (fuel : Nat) : Tab := Tab.of [(85, (zeO fuel).te)] []
abbrev zn6 : List Pm := [{ cs := [(Kd.list KP, false), (I6, false), (I6, false)], ag := true }]
abbrev zwJ : List Pm := [{ cs := [(Kd.bool, false)], ag := false }]
def zwK : List Norm := []
noncomputable def zwL : C := irOf Tryz.prog Tryz.f236 [] zwK []
theorem zJH : lightC Tryz.prog [] Tryz.f236.ntmps zwK [] 0 (bodyOf Tryz.f236) = some (zwL, 0) := by kernel_rfl
def zwM : List (Nat × Option (Nat × Bool)) := [(2, none)]
def zn7 (fuel : Nat) (x0 : LP) (x1 : Int) (x2 : Int) : Option ((Bool × Unit) × Unit) :=
 Option.bind (zbT fuel ((x0, x1, x2, ()), ())) fun y_1 =>
 some (((y_1.1.1, ()), ()))
def zjp (fuel : Nat) (x : ((LP × (Int × (Int × Unit))) × Unit)) : Option ((Bool × Unit) × Unit) := zn7 fuel x.1.1 x.1.2.1 x.1.2.2.1
theorem zJI (fuel : Nat) (x : PsT zn6) : run (zwI fuel) 0 fuel zwL (env0 (svPs zn6 x) 0) [] (endF zwM zwJ) = zjp fuel x := by kernel_rfl
def zn8 (fuel : Nat) : TF := ⟨zn6, zwJ, true, zjp fuel⟩
theorem zJJ (fuel : Nat) : FnSpec Tryz.prog 236 (zn8 fuel) :=
  fn_spec (T := zwI fuel) (c := bodyOf Tryz.f236) (fn := Tryz.f236) (TabOK.of (entCons (zm9 fuel) entNil) (methNil)) mixed (by kernel_rfl) (by kernel_rfl) zJH (by kernel_rfl) (Nat.le_of_ble_eq_true (by kernel_rfl)) (rv := zwM) (by kernel_rfl) (zJI fuel)
theorem zJK (fuel : Nat) : EntryOK Tryz.prog 236 (zn8 fuel).te := EntryOK.tf rfl (zJJ fuel) (isFn (fn := Tryz.f236) (by kernel_rfl) (by kernel_rfl) (by kernel_rfl))
def zwN (fuel : Nat) : Tab := Tab.of [(94, (zhG fuel).te)] []
abbrev zn9 : List Pm := [{ cs := [(Kd.list KP, false), (I6, false)], ag := true }]
abbrev zwO : List Pm := [{ cs := [(Kd.bool, false)], ag := false }]
def zwP : List Norm := []
noncomputable def zwQ : C := irOf Tryz.prog Tryz.f238 [] zwP []
theorem zJL : lightC Tryz.prog [] Tryz.f238.ntmps zwP [] 0 (bodyOf Tryz.f238) = some (zwQ, 0) := by kernel_rfl
def zwR : List (Nat × Option (Nat × Bool)) := [(2, none)]
def zoa (fuel : Nat) (x0 : LP) (x1 : Int) : Option ((Bool × Unit) × Unit) :=
 Option.bind (zbn fuel ((x0, x1, ()), ())) fun y_1 =>
 some (((y_1.1.1, ()), ()))
def zjq (fuel : Nat) (x : ((LP × (Int × Unit)) × Unit)) : Option ((Bool × Unit) × Unit) := zoa fuel x.1.1 x.1.2.1
theorem zJM (fuel : Nat) (x : PsT zn9) : run (zwN fuel) 0 fuel zwQ (env0 (svPs zn9 x) 0) [] (endF zwR zwO) = zjq fuel x := by kernel_rfl
def zob (fuel : Nat) : TF := ⟨zn9, zwO, true, zjq fuel⟩
theorem zJN (fuel : Nat) : FnSpec Tryz.prog 238 (zob fuel) :=
  fn_spec (T := zwN fuel) (c := bodyOf Tryz.f238) (fn := Tryz.f238) (TabOK.of (entCons (zrF fuel) entNil) (methNil)) mixed (by kernel_rfl) (by kernel_rfl) zJL (by kernel_rfl) (Nat.le_of_ble_eq_true (by kernel_rfl)) (rv := zwR) (by kernel_rfl) (zJM fuel)
theorem zJO (fuel : Nat) : EntryOK Tryz.prog 238 (zob fuel).te := EntryOK.tf rfl (zJN fuel) (isFn (fn := Tryz.f238) (by kernel_rfl) (by kernel_rfl) (by kernel_rfl))
def zwS (fuel : Nat) : Tab := Tab.of [(47, (zet fuel).te), (82, (zei fuel).te), (232, (zn2 fuel).te), (234, (zn5 fuel).te), (236, (zn8 fuel).te), (238, (zob fuel).te)] [(27, "loop.example/inkling/impl.inForm", 232), (29, "loop.example/inkling/impl.inForm", 234), (32, "loop.example/inkling/impl.inForm", 236), (35, "loop.example/inkling/impl.inForm", 238)]
abbrev zoc : List Pm := [{ cs := [(Kd.list (Kd.list I6), false), (Kd.list I6, false), (Kd.list KP, false), (I6, false), (I6, false), (Kd.list KP, false), (I6, false)], ag := true }]
abbrev zwT : List Pm := [{ cs := [(Kd.bool, false)], ag := false }]
def zwU : List Norm := [{ live := [8, 7, 1], fix := [] }]
noncomputable def zwV : C := irOf Tryz.prog Tryz.f34 [] zwU []
theorem zJP : lightC Tryz.prog [] Tryz.f34.ntmps zwU [] 0 (bodyOf Tryz.f34) = some (zwV, 1) := by kernel_rfl
def zwW : List (Nat × Option (Nat × Bool)) := [(2, none)]
def zod (fuel : Nat) (x0 : List (List Int)) (x1 : List Int) (x2 : LP) (x3 : Int) (x4 : Int) (x5 : LP) (x6 : Int) : Option ((Bool × Unit) × Unit) :=
 Option.bind (zaw fuel ((x0, x1, x2, x3, x4, x5, x6, ()), ())) fun y_1 =>
 Option.bind (zjn fuel ((y_1.1.1.1.1, ()), ())) fun y_2 =>
 cond (!y_2.1.1)
 (some (((false, ()), ())))
 (Option.bind (zjo fuel ((y_1.1.2.1.1.1, ()), ())) fun y_4 =>
 cond (!y_4.1.1)
 (some (((false, ()), ())))
 (Option.bind (zjp fuel ((y_1.1.2.2.1.1.1, y_1.1.2.2.1.1.2.1, y_1.1.2.2.1.1.2.2.1, ()), ())) fun y_6 =>
 cond (!y_6.1.1)
 (some (((false, ()), ())))
 (Option.bind (zjq fuel ((y_1.1.2.2.2.1.1.1, y_1.1.2.2.2.1.1.2.1, ()), ())) fun y_8 =>
 cond (!y_8.1.1)
 (some (((false, ()), ())))
 (Option.bind (zbN fuel ((x0, ()), ())) fun y_10 =>
 cond (x4 == y_10.1.1)
 (cond (x6 == y_10.1.1)
 (some (((decide ((zz (List.length x1)) > (0 : Int)) == decide (y_10.1.1 > (0 : Int)), ()), ())))
 (some (((false, ()), ()))))
 (some (((false, ()), ())))))))
def zcl (fuel : Nat) (x : (SumY × Unit)) : Option ((Bool × Unit) × Unit) := zod fuel x.1.1 x.1.2.1 x.1.2.2.1 x.1.2.2.2.1 x.1.2.2.2.2.1 x.1.2.2.2.2.2.1 x.1.2.2.2.2.2.2.1
theorem zJQ (fuel : Nat) (x : PsT zoc) : run (zwS fuel) 0 (fuel + 6) zwV (env0 (svPs zoc x) 0) [] (endF zwW zwT) = zcl fuel x := by kernel_rfl
def zjr (fuel : Nat) : TF := ⟨zoc, zwT, true, zcl fuel⟩
theorem zJR (fuel : Nat) : FnSpec Tryz.prog 34 (zjr fuel) :=
  fn_spec (T := zwS fuel) (c := bodyOf Tryz.f34) (fn := Tryz.f34) (TabOK.of (entCons (zmL fuel) (entCons (zmD fuel) (entCons (zJC fuel) (entCons (zJG fuel) (entCons (zJK fuel) (entCons (zJO fuel) entNil)))))) (methCons (fun v args w => by kernel_rfl) (methCons (fun v args w => by kernel_rfl) (methCons (fun v args w => by kernel_rfl) (methCons (fun v args w => by kernel_rfl) (methNil)))))) mixed (by kernel_rfl) (by kernel_rfl) zJP (by kernel_rfl) (Nat.le_of_ble_eq_true (by kernel_rfl)) (rv := zwW) (by kernel_rfl) (zJQ fuel)
theorem zwX (fuel : Nat) : EntryOK Tryz.prog 34 (zjr fuel).te := EntryOK.tf rfl (zJR fuel) (isFn (fn := Tryz.f34) (by kernel_rfl) (by kernel_rfl) (by kernel_rfl))
end Go.Proofs.YtdgdoeknpakmlaaGreat.Den
namespace Go.Proofs.YtdgdoeknpakmlaaGreat.Den
open Go Go.RowKit
end Go.Proofs.YtdgdoeknpakmlaaGreat.Den
namespace Go.Proofs.YtdgdoeknpakmlaaGreat.Den
open Go Go.RowKit
inductive zQM where
  | c0 (v : (List (List Int)) × (List Int) × (List Int) × (List Int))
  | c1 (v : (List (List Int)) × (List Int) × (List Int) × (List Int))
  | c2 (v : (List (List Int)) × (List Int) × (List Int) × (List Int))
  | c3 (v : (List (List Int)) × (List Int) × (List Int) × (List Int))
inductive zQN where
  | c0 (v : (Int) × (List (List Int)) × (List Int) × (List Int) × (List Int))
  | c1 (v : (Int) × (List (List Int)) × (List Int) × (List Int) × (List Int))
  | c2 (v : (Int) × (List (List Int)) × (List Int) × (List Int) × (List Int))
end Go.Proofs.YtdgdoeknpakmlaaGreat.Den
namespace Go.Proofs.YtdgdoeknpakmlaaGreat.Den
open Go Go.RowKit
end Go.Proofs.YtdgdoeknpakmlaaGreat.Den
namespace Go.Proofs.YtdgdoeknpakmlaaGreat.Den
open Go Go.RowKit
def zwY (fuel : Nat) : Tab := Tab.of [] []
def zwZ : List Norm := [{ live := [11, 10, 3, 2], fix := [] }]
noncomputable def zw0 : C := irOf Tryz.prog Tryz.f104 [] zwZ []
theorem zJS : lightC Tryz.prog [] Tryz.f104.ntmps zwZ [] 0 (bodyOf Tryz.f104) = some (zw0, 1) := by kernel_rfl
def zw1 : List (Nat × Option (Nat × Bool)) := [(2, some (7, true))]
noncomputable def zw2 (fuel : Nat) : IE := inlIE 1 (zwY fuel) (fuel + 6) zw0 zw1
theorem zJT (fuel : Nat) : ISound Tryz.prog 104 (zw2 fuel) :=
  zx (T := zwY fuel) (c := bodyOf Tryz.f104) (fn := Tryz.f104) (TabOK.of (entNil) (methNil)) mixed (by kernel_rfl) (by kernel_rfl) zJS (by kernel_rfl) (Nat.le_of_ble_eq_true (by kernel_rfl)) (rv := zw1) (by kernel_rfl) (isFn (fn := Tryz.f104) (by kernel_rfl) (by kernel_rfl) (by kernel_rfl))
def zw3 (fuel : Nat) : Tab := Tab.of [(43, (zii fuel).te), (47, (zet fuel).te), (83, (zih fuel).te), (86, (zQ fuel).te), (89, (zbM fuel).te), (112, (zix fuel).te)] []
abbrev zoe : Sh := (.agg (.cell (Kd.list (Kd.list I6)) 0 .nil) (.cell I6 0 (.cell I6 0 .nil)))
abbrev zw4 : Sh := (.agg (.cell (Kd.list (Kd.list I6)) 5 .nil) (.cell Kd.bool 0 .nil))
def zw5 : List Norm := [{ live := [36, 35, 8, 1, 2, 6], fix := [] }]
noncomputable def zw6 : C := irOf Tryz.prog Tryz.f62 [] zw5 []
theorem zJU : lightC Tryz.prog [] Tryz.f62.ntmps zw5 [] 0 (bodyOf Tryz.f62) = some (zw6, 1) := by kernel_rfl
def zw7 : List (Nat × Option (Nat × Bool)) := [(6, some (1, true)), (7, none)]
def zof (fuel : Nat) (x0 : List (List Int)) (x1 : Int) (x2 : Int) : Option (((List (List Int)) × Unit) × (Bool × Unit)) :=
 Option.bind (zaW fuel ((x0, ()), ())) fun y_1 =>
 cond (!y_1.1.1)
 (none)
 (Option.bind (zo fuel ((x1, ()), ())) fun y_3 =>
 cond (!y_3.1.1)
 (none)
 (cond (decide (x2 < (0 : Int)))
 (none)
 (Option.bind (zbN fuel ((x0, ()), ())) fun y_6 =>
 cond (decide (x2 > w64 ((2000 : Int) - y_6.1.1)))
 (none)
 (Option.bind (zeh fuel ()) fun y_8 =>
 Option.bind (zez fuel ((x0, ()), (y_8.1.1, ()), ())) fun y_9 =>
 Option.bind (zab fuel (((0 : Int), ()), (x1, ()), ())) fun y_10 =>
 tst (decide (0 ≤ y_10.1.1)) <|
 tst (decide (y_10.1.1 < (zz (List.length (List.getD y_9.1.1 0 []))))) <|
 tst (decide (Int.toNat y_10.1.1 < List.length (List.getD y_9.1.1 0 []))) <|
 tst (decide (0 ≤ y_10.1.1)) <|
 tst (decide (y_10.1.1 < (zz (List.length (List.getD y_9.1.1 0 []))))) <|
 tst (decide (Int.toNat y_10.1.1 < List.length (List.getD y_9.1.1 0 []))) <|
 let z1_4 := List.set (List.getD y_9.1.1 0 []) (Int.toNat y_10.1.1) (w64 (List.getD (List.getD y_9.1.1 0 []) (Int.toNat y_10.1.1) 0 + x2))
 Option.bind (zab fuel (((1 : Int), ()), (x1, ()), ())) fun y_11 =>
 tst (decide (0 ≤ y_11.1.1)) <|
 tst (decide (y_11.1.1 < (zz (List.length (List.getD y_9.1.1 1 []))))) <|
 tst (decide (Int.toNat y_11.1.1 < List.length (List.getD y_9.1.1 1 []))) <|
 tst (decide (0 ≤ y_11.1.1)) <|
 tst (decide (y_11.1.1 < (zz (List.length (List.getD y_9.1.1 1 []))))) <|
 tst (decide (Int.toNat y_11.1.1 < List.length (List.getD y_9.1.1 1 []))) <|
 let z2_5 := List.set (List.getD y_9.1.1 1 []) (Int.toNat y_11.1.1) (w64 (List.getD (List.getD y_9.1.1 1 []) (Int.toNat y_11.1.1) 0 + x2))
 Option.bind (zab fuel (((2 : Int), ()), (x1, ()), ())) fun y_12 =>
 tst (decide (0 ≤ y_12.1.1)) <|
 tst (decide (y_12.1.1 < (zz (List.length (List.getD y_9.1.1 2 []))))) <|
 tst (decide (Int.toNat y_12.1.1 < List.length (List.getD y_9.1.1 2 []))) <|
 tst (decide (0 ≤ y_12.1.1)) <|
 tst (decide (y_12.1.1 < (zz (List.length (List.getD y_9.1.1 2 []))))) <|
 tst (decide (Int.toNat y_12.1.1 < List.length (List.getD y_9.1.1 2 []))) <|
 let z3_6 := List.set (List.getD y_9.1.1 2 []) (Int.toNat y_12.1.1) (w64 (List.getD (List.getD y_9.1.1 2 []) (Int.toNat y_12.1.1) 0 + x2))
 some ((([z1_4, z2_5, z3_6], ()), true, ()))))))
def zjs (fuel : Nat) (x : (((List (List Int)) × Unit) × (Int × (Int × Unit)))) : Option (((List (List Int)) × Unit) × (Bool × Unit)) := zof fuel x.1.1 x.2.1 x.2.2.1
theorem zJV (fuel : Nat) (x : Sh.T zoe) : run (zw3 fuel) 0 (fuel + 6) zw6 (env0 (svS zoe x) 0) [] (endG zw7 zw4) = zjs fuel x := by kernel_rfl
def zog (fuel : Nat) : TG := ⟨zoe, zw4, true, zjs fuel⟩
theorem zJW (fuel : Nat) : FnSpecG Tryz.prog 62 (zog fuel) :=
  zd (T := zw3 fuel) (c := bodyOf Tryz.f62) (fn := Tryz.f62) (TabOK.of (entCons (ztz fuel) (entCons (zmL fuel) (entCons (ztj fuel) (entCons (zat fuel) (entCons (zir fuel) (entCons (zt7 fuel) entNil)))))) (methNil)) mixed (by kernel_rfl) (by kernel_rfl) zJU (by kernel_rfl) (Nat.le_of_ble_eq_true (by kernel_rfl)) (rv := zw7) (by kernel_rfl) (fun x y h => (zJV fuel x).trans h)
theorem zJX (fuel : Nat) : EntryOK Tryz.prog 62 (zog fuel).te := EntryOK.tg rfl (zJW fuel) (isFn (fn := Tryz.f62) (by kernel_rfl) (by kernel_rfl) (by kernel_rfl))
def zw8 (fuel : Nat) : Tab := Tab.of [(62, (zog fuel).te)] []
abbrev zoh : Sh := (.agg (.cell (Kd.list (Kd.list I6)) 0 .nil) (.cell I6 0 .nil))
abbrev zw9 : Sh := (.ifc 27 (.agg (.cell (Kd.list (Kd.list I6)) 5 .nil) .nil) (.cell Kd.bool 0 .nil))
def zxa : List Norm := []
noncomputable def zxb : C := irOf Tryz.prog Tryz.f233 [] zxa []
theorem zJY : lightC Tryz.prog [] Tryz.f233.ntmps zxa [] 0 (bodyOf Tryz.f233) = some (zxb, 0) := by kernel_rfl
def zxc : List (Nat × Option (Nat × Bool)) := [(4, none), (5, none)]
def zoi (fuel : Nat) (x0 : List (List Int)) (x1 : Int) : Option ((((List (List Int)) × Unit) × Unit) × (Bool × Unit)) :=
 Option.bind (zjs fuel ((x0, ()), x1, (1 : Int), ())) fun y_1 =>
 some (((([List.getD y_1.1.1 0 [], List.getD y_1.1.1 1 [], List.getD y_1.1.1 2 []], ()), ()), y_1.2.1, ()))
def zjt (fuel : Nat) (x : (((List (List Int)) × Unit) × (Int × Unit))) : Option ((((List (List Int)) × Unit) × Unit) × (Bool × Unit)) := zoi fuel x.1.1 x.2.1
theorem zJZ (fuel : Nat) (x : Sh.T zoh) : run (zw8 fuel) 0 fuel zxb (env0 (svS zoh x) 0) [] (endG zxc zw9) = zjt fuel x := by kernel_rfl
def zoj (fuel : Nat) : TG := ⟨zoh, zw9, true, zjt fuel⟩
theorem zJ0 (fuel : Nat) : FnSpecG Tryz.prog 233 (zoj fuel) :=
  zd (T := zw8 fuel) (c := bodyOf Tryz.f233) (fn := Tryz.f233) (TabOK.of (entCons (zJX fuel) entNil) (methNil)) mixed (by kernel_rfl) (by kernel_rfl) zJY (by kernel_rfl) (Nat.le_of_ble_eq_true (by kernel_rfl)) (rv := zxc) (by kernel_rfl) (fun x y h => (zJZ fuel x).trans h)
theorem zJ1 (fuel : Nat) : EntryOK Tryz.prog 233 (zoj fuel).te := EntryOK.tg rfl (zJ0 fuel) (isFn (fn := Tryz.f233) (by kernel_rfl) (by kernel_rfl) (by kernel_rfl))
def zxd (fuel : Nat) : Tab := Tab.of [(63, (ziE fuel).te)] []
abbrev zok : Sh := (.agg (.cell (Kd.list I6) 0 .nil) (.cell I6 0 .nil))
abbrev zxe : Sh := (.ifc 29 (.agg (.cell (Kd.list I6) 1 .nil) .nil) (.cell Kd.bool 0 .nil))
def zxf : List Norm := []
noncomputable def zxg : C := irOf Tryz.prog Tryz.f235 [] zxf []
theorem zJ2 : lightC Tryz.prog [] Tryz.f235.ntmps zxf [] 0 (bodyOf Tryz.f235) = some (zxg, 0) := by kernel_rfl
def zxh : List (Nat × Option (Nat × Bool)) := [(4, none), (5, none)]
def zol (fuel : Nat) (x0 : List Int) (x1 : Int) : Option ((((List Int) × Unit) × Unit) × (Bool × Unit)) :=
 Option.bind (zeI fuel ((x0, ()), (x1, ()), ())) fun y_1 =>
 some ((((y_1.1.1, ()), ()), y_1.2.1.1, ()))
def zju (fuel : Nat) (x : (((List Int) × Unit) × (Int × Unit))) : Option ((((List Int) × Unit) × Unit) × (Bool × Unit)) := zol fuel x.1.1 x.2.1
theorem zJ3 (fuel : Nat) (x : Sh.T zok) : run (zxd fuel) 0 fuel zxg (env0 (svS zok x) 0) [] (endG zxh zxe) = zju fuel x := by kernel_rfl
def zom (fuel : Nat) : TG := ⟨zok, zxe, true, zju fuel⟩
theorem zJ4 (fuel : Nat) : FnSpecG Tryz.prog 235 (zom fuel) :=
  zd (T := zxd fuel) (c := bodyOf Tryz.f235) (fn := Tryz.f235) (TabOK.of (entCons (zuv fuel) entNil) (methNil)) mixed (by kernel_rfl) (by kernel_rfl) zJ2 (by kernel_rfl) (Nat.le_of_ble_eq_true (by kernel_rfl)) (rv := zxh) (by kernel_rfl) (fun x y h => (zJ3 fuel x).trans h)
theorem zJ5 (fuel : Nat) : EntryOK Tryz.prog 235 (zom fuel).te := EntryOK.tg rfl (zJ4 fuel) (isFn (fn := Tryz.f235) (by kernel_rfl) (by kernel_rfl) (by kernel_rfl))
def zxi (fuel : Nat) : Tab := Tab.of [(182, (zeP fuel).te), (183, (zb4 fuel).te), (183, (zb6 fuel).te)] []
def zxj : List Norm := [{ live := [26, 25, 24, 4, 5, 1, 2], fix := [] }]
noncomputable def zxk : C := irOf Tryz.prog Tryz.f136 [] zxj []
theorem zJ6 : lightC Tryz.prog [] Tryz.f136.ntmps zxj [] 0 (bodyOf Tryz.f136) = some (zxk, 1) := by kernel_rfl
def zxl : List (Nat × Option (Nat × Bool)) := [(2, some (3, true))]
noncomputable def zxm (fuel : Nat) : IE := inlIE 1 (zxi fuel) 0 zxk zxl
theorem zJ7 (fuel : Nat) : ISound Tryz.prog 136 (zxm fuel) :=
  zx (T := zxi fuel) (c := bodyOf Tryz.f136) (fn := Tryz.f136) (TabOK.of (entCons (znc fuel) (entCons (zi5 fuel) (entCons (zi6 fuel) entNil))) (methNil)) mixed (by kernel_rfl) (by kernel_rfl) zJ6 (by kernel_rfl) (Nat.le_of_ble_eq_true (by kernel_rfl)) (rv := zxl) (by kernel_rfl) (isFn (fn := Tryz.f136) (by kernel_rfl) (by kernel_rfl) (by kernel_rfl))
abbrev za6 := Option ((LP × (Int × (Int × Unit))) × Unit)
def zfw (fuel : Nat) : Tab := Tab.of [(182, (zeP fuel).te), (183, (zb4 fuel).te), (183, (zb6 fuel).te)] []
abbrev zjv : List Pm := [{ cs := [(Kd.list KP, false), (I6, false), (I6, false)], ag := true }]
abbrev zfx : List Pm := [{ cs := [(Kd.list KP, true), (I6, false), (I6, false)], ag := true }]
def zxn : List Norm := [{ live := [26, 25, 24, 4, 5, 1, 2], fix := [] }]
noncomputable def zfy : C := irOf Tryz.prog Tryz.f136 [] zxn []
theorem zJ8 : lightC Tryz.prog [] Tryz.f136.ntmps zxn [] 0 (bodyOf Tryz.f136) = some (zfy, 1) := by kernel_rfl
def zfz : List (Nat × Option (Nat × Bool)) := [(2, some (3, true))]
abbrev zcm := (Int) × (Int) × LP × (Int) × LP × LP × (Int) × (Int) × (Int) × (Int)
def zxo (v : zcm) : Env × Heap := ([(26, SV.int .i64 v.1), (25, SV.int .i64 v.2.1), (24, SV.es KP v.2.2.1), (4, SV.int .i64 v.2.2.2.1), (5, SV.own 0), (1, SV.ptr 1 0), (2, SV.ptr 2 0)], [Blk.arr KP v.2.2.2.2.1 0, Blk.cells [SV.es KP v.2.2.2.2.2.1, SV.int .i64 v.2.2.2.2.2.2.1, SV.int .i64 v.2.2.2.2.2.2.2.1] 0 3, Blk.cells [SV.nils, SV.int .i64 v.2.2.2.2.2.2.2.2.1, SV.int .i64 v.2.2.2.2.2.2.2.2.2] 0 3])
def zJ9 (fuel : Nat) (g0 : zcm → za6) (v : zcm) : za6 :=
 cond (decide (v.1 < v.2.1))
 (tst (decide (0 ≤ v.1)) <|
 tst (decide (v.1 < (zz (List.length v.2.2.1)))) <|
 cond (decide ((List.getD v.2.2.1 (Int.toNat v.1) (0, (0, ()))).2.1 > v.2.2.2.1))
 (tst (decide (List.length v.2.2.2.2.1 + 1 < LIM)) <|
 g0 (w64 (v.1 + (1 : Int)), v.2.1, v.2.2.1, v.2.2.2.1, v.2.2.2.2.1 ++ [((List.getD v.2.2.1 (Int.toNat v.1) (0, (0, ()))).1, w64 ((List.getD v.2.2.1 (Int.toNat v.1) (0, (0, ()))).2.1 - v.2.2.2.1), ())], v.2.2.2.2.2.1, v.2.2.2.2.2.2.1, v.2.2.2.2.2.2.2.1, v.2.2.2.2.2.2.2.2.1, v.2.2.2.2.2.2.2.2.2))
 (g0 (w64 (v.1 + (1 : Int)), v.2.1, v.2.2.1, v.2.2.2.1, v.2.2.2.2.1, v.2.2.2.2.2.1, v.2.2.2.2.2.2.1, v.2.2.2.2.2.2.2.1, v.2.2.2.2.2.2.2.2.1, v.2.2.2.2.2.2.2.2.2)))
 (some (((v.2.2.2.2.1, w64 (v.2.2.2.2.2.2.1 + v.2.2.2.1), v.2.2.2.2.2.2.2.1, ()), ())))
def zon (fuel : Nat) (g0 : zcm → za6) : zcm → za6 := zJ9 fuel g0
theorem zKa (fuel : Nat) (G) : zfy.lp (zfw fuel) 0 fuel G (endF zfz zfx) 0 zxo = iter (zon fuel) fuel := C.lp_iter fun g v => by kernel_rfl
def zjw (fuel : Nat) (X0 : zcm → za6) (x0 : LP) (x1 : Int) (x2 : Int) : za6 :=
 cond (decide ((zz (List.length x0)) ≤ (4 : Int)))
 (none)
 (Option.bind (zbU fuel ((x0, ()), ())) fun y_2 =>
 Option.bind (zb5 fuel (y_2.1.1, (), ())) fun y_3 =>
 tst (decide ((4 : Int) < (zz (List.length y_3.1)))) <|
 tst (decide (Int.toNat (4 : Int) < List.length y_3.1)) <|
 X0 ((0 : Int), (zz (List.length x0)), x0, (List.getD y_3.1 (Int.toNat (4 : Int)) (0, (0, ()))).2.1, List.replicate (Int.toNat (0 : Int)) (0, (0, ())), x0, x1, x2, (0 : Int), (0 : Int)))
def zjx (fuel : Nat) (x : ((LP × (Int × (Int × Unit))) × Unit)) : za6 := zjw fuel (iter (zon fuel) fuel) x.1.1 x.1.2.1 x.1.2.2.1
theorem zKb (fuel : Nat) (x : PsT zjv) : run (zfw fuel) 0 fuel zfy (env0 (svPs zjv x) 0) [] (endF zfz zfx) = zjx fuel x :=
  (show run (zfw fuel) 0 fuel zfy (env0 (svPs zjv x) 0) [] (endF zfz zfx) = zjw fuel (zfy.lp (zfw fuel) 0 fuel (fun _ _ _ => none) (endF zfz zfx) 0 zxo) x.1.1 x.1.2.1 x.1.2.2.1 by kernel_rfl).trans (by rw [zKa]; rfl)
def zoo (fuel : Nat) : TF := ⟨zjv, zfx, true, zjx fuel⟩
theorem zKc (fuel : Nat) : FnSpec Tryz.prog 136 (zoo fuel) :=
  fn_spec (T := zfw fuel) (c := bodyOf Tryz.f136) (fn := Tryz.f136) (TabOK.of (entCons (znc fuel) (entCons (zi5 fuel) (entCons (zi6 fuel) entNil))) (methNil)) mixed (by kernel_rfl) (by kernel_rfl) zJ8 (by kernel_rfl) (Nat.le_of_ble_eq_true (by kernel_rfl)) (rv := zfz) (by kernel_rfl) (zKb fuel)
theorem zKd (fuel : Nat) : EntryOK Tryz.prog 136 (zoo fuel).te := EntryOK.tf rfl (zKc fuel) (isFn (fn := Tryz.f136) (by kernel_rfl) (by kernel_rfl) (by kernel_rfl))
noncomputable def zxp (fuel : Nat) : IE := orIE 4 (zxm fuel) (teIE (zoo fuel).te)
theorem zKe (fuel : Nat) : ISound Tryz.prog 136 (zxp fuel) := zPy (zJ7 fuel) (zC1 (zKd fuel))
noncomputable def zxq (fuel : Nat) : Tab := Tab.ofI [(137, (zjf fuel).te)] [] [(136, zxp fuel)]
abbrev zop : List Pm := [{ cs := [(Kd.list KP, false), (I6, false), (I6, false)], ag := true }, { cs := [(Kd.list KP, false), (I6, false), (I6, false)], ag := true }]
abbrev zxr : List Pm := [{ cs := [(Kd.list KP, true), (I6, false), (I6, false)], ag := true }]
def zxs : List Norm := []
noncomputable def zxt : C := irOf Tryz.prog Tryz.f90 [21] zxs []
theorem zKf : lightC Tryz.prog [21] Tryz.f90.ntmps zxs [] 0 (bodyOf Tryz.f90) = some (zxt, 0) := by kernel_rfl
def zxu : List (Nat × Option (Nat × Bool)) := [(4, some (3, true))]
def zoq (fuel : Nat) (x0 : LP) (x1 : Int) (x2 : Int) (x3 : LP) (x4 : Int) (x5 : Int) : Option ((LP × (Int × (Int × Unit))) × Unit) :=
 Option.bind (zfe fuel ((x0, ()), (x3, ()), ())) fun y_1 =>
 cond (decide ((zz (List.length y_1.1.1)) ≤ (zz 4)))
 (cond (decide ((zz (List.length y_1.1.1)) ≤ (4 : Int)))
 (some (((y_1.1.1, w64 (x1 + x4), w64 (x2 + x5), ()), ())))
 (Option.bind (zbU fuel ((y_1.1.1, ()), ())) fun y_4 =>
 Option.bind (zb5 fuel (y_4.1.1, (), ())) fun y_5 =>
 tst (decide ((4 : Int) < (zz (List.length y_5.1)))) <|
 tst (decide (Int.toNat (4 : Int) < List.length y_5.1)) <|
 none))
 (Option.bind (zjx fuel ((y_1.1.1, w64 (x1 + x4), w64 (x2 + x5), ()), ())) fun y_3 =>
 some (((y_3.1.1, y_3.1.2.1, y_3.1.2.2.1, ()), ())))
def zjy (fuel : Nat) (x : ((LP × (Int × (Int × Unit))) × ((LP × (Int × (Int × Unit))) × Unit))) : Option ((LP × (Int × (Int × Unit))) × Unit) := zoq fuel x.1.1 x.1.2.1 x.1.2.2.1 x.2.1.1 x.2.1.2.1 x.2.1.2.2.1
theorem zKg (fuel : Nat) (x : PsT zop) : run (zxq fuel) 0 fuel zxt (env0 (svPs zop x) 0) [] (endF zxu zxr) = zjy fuel x := by kernel_rfl
def zor (fuel : Nat) : TF := ⟨zop, zxr, true, zjy fuel⟩
theorem zKh (fuel : Nat) : FnSpec Tryz.prog 90 (zor fuel) :=
  fn_spec (T := zxq fuel) (c := bodyOf Tryz.f90) (fn := Tryz.f90) (TabOK.ofI (entCons (zv1 fuel) entNil) (methNil) (inlCons (zKe fuel) (inlNil))) mixed (by kernel_rfl) (by kernel_rfl) zKf (by kernel_rfl) (Nat.le_of_ble_eq_true (by kernel_rfl)) (rv := zxu) (by kernel_rfl) (zKg fuel)
theorem zKi (fuel : Nat) : EntryOK Tryz.prog 90 (zor fuel).te := EntryOK.tf rfl (zKh fuel) (isFn (fn := Tryz.f90) (by kernel_rfl) (by kernel_rfl) (by kernel_rfl))
def zxv (fuel : Nat) : Tab := Tab.of [(85, (zeO fuel).te), (86, (zQ fuel).te), (90, (zor fuel).te)] []
abbrev zos : List Pm := [{ cs := [(Kd.list KP, false), (I6, false), (I6, false)], ag := true }, { cs := [(I6, false)], ag := false }]
abbrev zxw : List Pm := [{ cs := [(Kd.list KP, true), (I6, false), (I6, false)], ag := true }, { cs := [(Kd.bool, false)], ag := false }]
def zxx : List Norm := []
noncomputable def zxy : C := irOf Tryz.prog Tryz.f64 [] zxx []
theorem zKj : lightC Tryz.prog [] Tryz.f64.ntmps zxx [] 0 (bodyOf Tryz.f64) = some (zxy, 0) := by kernel_rfl
def zxz : List (Nat × Option (Nat × Bool)) := [(4, some (3, true)), (5, none)]
def zot (fuel : Nat) (x0 : LP) (x1 : Int) (x2 : Int) (x3 : Int) : Option ((LP × (Int × (Int × Unit))) × ((Bool × Unit) × Unit)) :=
 Option.bind (zbT fuel ((x0, x1, x2, ()), ())) fun y_1 =>
 cond (!y_1.1.1)
 (some ((([], (0 : Int), (0 : Int), ()), (false, ()), ())))
 (Option.bind (zo fuel ((x3, ()), ())) fun y_3 =>
 cond (!y_3.1.1)
 (some ((([], (0 : Int), (0 : Int), ()), (false, ()), ())))
 (cond (x2 == (2000 : Int))
 (some ((([], (0 : Int), (0 : Int), ()), (false, ()), ())))
 (Option.bind (zjy fuel ((x0, x1, x2, ()), ([(x3, (1 : Int), ())], (0 : Int), (1 : Int), ()), ())) fun y_6 =>
 some (((y_6.1.1, y_6.1.2.1, y_6.1.2.2.1, ()), (true, ()), ())))))
def zjz (fuel : Nat) (x : ((LP × (Int × (Int × Unit))) × ((Int × Unit) × Unit))) : Option ((LP × (Int × (Int × Unit))) × ((Bool × Unit) × Unit)) := zot fuel x.1.1 x.1.2.1 x.1.2.2.1 x.2.1.1
theorem zKk (fuel : Nat) (x : PsT zos) : run (zxv fuel) 0 fuel zxy (env0 (svPs zos x) 0) [] (endF zxz zxw) = zjz fuel x := by kernel_rfl
def zou (fuel : Nat) : TF := ⟨zos, zxw, true, zjz fuel⟩
theorem zKl (fuel : Nat) : FnSpec Tryz.prog 64 (zou fuel) :=
  fn_spec (T := zxv fuel) (c := bodyOf Tryz.f64) (fn := Tryz.f64) (TabOK.of (entCons (zm9 fuel) (entCons (zat fuel) (entCons (zKi fuel) entNil))) (methNil)) mixed (by kernel_rfl) (by kernel_rfl) zKj (by kernel_rfl) (Nat.le_of_ble_eq_true (by kernel_rfl)) (rv := zxz) (by kernel_rfl) (zKk fuel)
theorem zKm (fuel : Nat) : EntryOK Tryz.prog 64 (zou fuel).te := EntryOK.tf rfl (zKl fuel) (isFn (fn := Tryz.f64) (by kernel_rfl) (by kernel_rfl) (by kernel_rfl))
def zxA (fuel : Nat) : Tab := Tab.of [(64, (zou fuel).te)] []
abbrev zov : Sh := (.agg (.cell (Kd.list KP) 0 (.cell I6 0 (.cell I6 0 .nil))) (.cell I6 0 .nil))
abbrev zxB : Sh := (.ifc 32 (.agg (.cell (Kd.list KP) 1 (.cell I6 0 (.cell I6 0 .nil))) .nil) (.cell Kd.bool 0 .nil))
def zxC : List Norm := []
noncomputable def zxD : C := irOf Tryz.prog Tryz.f237 [] zxC []
theorem zKn : lightC Tryz.prog [] Tryz.f237.ntmps zxC [] 0 (bodyOf Tryz.f237) = some (zxD, 0) := by kernel_rfl
def zxE : List (Nat × Option (Nat × Bool)) := [(4, none), (5, none)]
def zow (fuel : Nat) (x0 : LP) (x1 : Int) (x2 : Int) (x3 : Int) : Option (((LP × (Int × (Int × Unit))) × Unit) × (Bool × Unit)) :=
 Option.bind (zjz fuel ((x0, x1, x2, ()), (x3, ()), ())) fun y_1 =>
 some ((((y_1.1.1, y_1.1.2.1, y_1.1.2.2.1, ()), ()), y_1.2.1.1, ()))
def zjA (fuel : Nat) (x : ((LP × (Int × (Int × Unit))) × (Int × Unit))) : Option (((LP × (Int × (Int × Unit))) × Unit) × (Bool × Unit)) := zow fuel x.1.1 x.1.2.1 x.1.2.2.1 x.2.1
theorem zKo (fuel : Nat) (x : Sh.T zov) : run (zxA fuel) 0 fuel zxD (env0 (svS zov x) 0) [] (endG zxE zxB) = zjA fuel x := by kernel_rfl
def zox (fuel : Nat) : TG := ⟨zov, zxB, true, zjA fuel⟩
theorem zKp (fuel : Nat) : FnSpecG Tryz.prog 237 (zox fuel) :=
  zd (T := zxA fuel) (c := bodyOf Tryz.f237) (fn := Tryz.f237) (TabOK.of (entCons (zKm fuel) entNil) (methNil)) mixed (by kernel_rfl) (by kernel_rfl) zKn (by kernel_rfl) (Nat.le_of_ble_eq_true (by kernel_rfl)) (rv := zxE) (by kernel_rfl) (fun x y h => (zKo fuel x).trans h)
theorem zKq (fuel : Nat) : EntryOK Tryz.prog 237 (zox fuel).te := EntryOK.tg rfl (zKp fuel) (isFn (fn := Tryz.f237) (by kernel_rfl) (by kernel_rfl) (by kernel_rfl))
def zxF (fuel : Nat) : Tab := Tab.of [(65, (zjm fuel).te)] []
abbrev zoy : Sh := (.agg (.cell (Kd.list KP) 0 (.cell I6 0 .nil)) (.cell I6 0 .nil))
abbrev zxG : Sh := (.ifc 35 (.agg (.cell (Kd.list KP) 1 (.cell I6 0 .nil)) .nil) (.cell Kd.bool 0 .nil))
def zxH : List Norm := []
noncomputable def zxI : C := irOf Tryz.prog Tryz.f239 [] zxH []
theorem zKr : lightC Tryz.prog [] Tryz.f239.ntmps zxH [] 0 (bodyOf Tryz.f239) = some (zxI, 0) := by kernel_rfl
def zxJ : List (Nat × Option (Nat × Bool)) := [(4, none), (5, none)]
def zoz (fuel : Nat) (x0 : LP) (x1 : Int) (x2 : Int) : Option (((LP × (Int × Unit)) × Unit) × (Bool × Unit)) :=
 Option.bind (zck fuel ((x0, x1, ()), (x2, ()), ())) fun y_1 =>
 some ((((y_1.1.1, y_1.1.2.1, ()), ()), y_1.2.1.1, ()))
def zjB (fuel : Nat) (x : ((LP × (Int × Unit)) × (Int × Unit))) : Option (((LP × (Int × Unit)) × Unit) × (Bool × Unit)) := zoz fuel x.1.1 x.1.2.1 x.2.1
theorem zKs (fuel : Nat) (x : Sh.T zoy) : run (zxF fuel) 0 fuel zxI (env0 (svS zoy x) 0) [] (endG zxJ zxG) = zjB fuel x := by kernel_rfl
def zoA (fuel : Nat) : TG := ⟨zoy, zxG, true, zjB fuel⟩
theorem zKt (fuel : Nat) : FnSpecG Tryz.prog 239 (zoA fuel) :=
  zd (T := zxF fuel) (c := bodyOf Tryz.f239) (fn := Tryz.f239) (TabOK.of (entCons (zws fuel) entNil) (methNil)) mixed (by kernel_rfl) (by kernel_rfl) zKr (by kernel_rfl) (Nat.le_of_ble_eq_true (by kernel_rfl)) (rv := zxJ) (by kernel_rfl) (fun x y h => (zKs fuel x).trans h)
theorem zKu (fuel : Nat) : EntryOK Tryz.prog 239 (zoA fuel).te := EntryOK.tg rfl (zKt fuel) (isFn (fn := Tryz.f239) (by kernel_rfl) (by kernel_rfl) (by kernel_rfl))
noncomputable def zxK (fuel : Nat) : Tab := Tab.ofI [(82, (zei fuel).te), (233, (zoj fuel).te), (235, (zom fuel).te), (237, (zox fuel).te), (239, (zoA fuel).te)] [(27, "loop.example/inkling/impl.with", 233), (29, "loop.example/inkling/impl.with", 235), (32, "loop.example/inkling/impl.with", 237), (35, "loop.example/inkling/impl.with", 239)] [(104, zw2 fuel)]
abbrev zoB : Sh := (.agg (.cell (Kd.list (Kd.list I6)) 0 (.cell (Kd.list I6) 0 (.cell (Kd.list KP) 0 (.cell I6 0 (.cell I6 0 (.cell (Kd.list KP) 0 (.cell I6 0 .nil))))))) (.cell I6 0 .nil))
abbrev zxL : Sh := (.agg (.cell (Kd.list (Kd.list I6)) 5 (.cell (Kd.list I6) 1 (.cell (Kd.list KP) 1 (.cell I6 0 (.cell I6 0 (.cell (Kd.list KP) 1 (.cell I6 0 .nil))))))) (.cell Kd.bool 0 .nil))
def zxM : List Norm := [{ live := [14, 13, 1, 4, 6], fix := [] }]
noncomputable def zxN : C := irOf Tryz.prog Tryz.f80 [32] zxM []
theorem zKv : lightC Tryz.prog [32] Tryz.f80.ntmps zxM [] 0 (bodyOf Tryz.f80) = some (zxN, 1) := by kernel_rfl
def zxO : List (Nat × Option (Nat × Bool)) := [(4, some (7, true)), (5, none)]
def zoC (fuel : Nat) (x0 : List (List Int)) (x1 : List Int) (x2 : LP) (x3 : Int) (x4 : Int) (x5 : LP) (x6 : Int) (x7 : Int) : Option (SumY × (Bool × Unit)) :=
 Option.bind (zaw fuel ((x0, x1, x2, x3, x4, x5, x6, ()), ())) fun y_1 =>
 Option.bind (zjt fuel ((y_1.1.1.1.1, ()), x7, ())) fun y_2 =>
 cond (!y_2.2.1)
 (none)
 (Option.bind (zju fuel ((y_1.1.2.1.1.1, ()), x7, ())) fun y_4 =>
 cond (!y_4.2.1)
 (none)
 (Option.bind (zjA fuel ((y_1.1.2.2.1.1.1, y_1.1.2.2.1.1.2.1, y_1.1.2.2.1.1.2.2.1, ()), x7, ())) fun y_6 =>
 cond (!y_6.2.1)
 (none)
 (Option.bind (zjB fuel ((y_1.1.2.2.2.1.1.1, y_1.1.2.2.2.1.1.2.1, ()), x7, ())) fun y_8 =>
 cond (!y_8.2.1)
 (none)
 (some ((([List.getD y_2.1.1.1 0 [], List.getD y_2.1.1.1 1 [], List.getD y_2.1.1.1 2 []], y_4.1.1.1, y_6.1.1.1, y_6.1.1.2.1, y_6.1.1.2.2.1, y_8.1.1.1, y_8.1.1.2.1, ()), true, ()))))))
def zjC (fuel : Nat) (x : (SumY × (Int × Unit))) : Option (SumY × (Bool × Unit)) := zoC fuel x.1.1 x.1.2.1 x.1.2.2.1 x.1.2.2.2.1 x.1.2.2.2.2.1 x.1.2.2.2.2.2.1 x.1.2.2.2.2.2.2.1 x.2.1
theorem zKw (fuel : Nat) (x : Sh.T zoB) : run (zxK fuel) 0 (fuel + 6) zxN (env0 (svS zoB x) 0) [] (endG zxO zxL) = zjC fuel x := by kernel_rfl
def zoD (fuel : Nat) : TG := ⟨zoB, zxL, true, zjC fuel⟩
theorem zKx (fuel : Nat) : FnSpecG Tryz.prog 80 (zoD fuel) :=
  zd (T := zxK fuel) (c := bodyOf Tryz.f80) (fn := Tryz.f80) (TabOK.ofI (entCons (zmD fuel) (entCons (zJ1 fuel) (entCons (zJ5 fuel) (entCons (zKq fuel) (entCons (zKu fuel) entNil))))) (methCons (fun v args w => by kernel_rfl) (methCons (fun v args w => by kernel_rfl) (methCons (fun v args w => by kernel_rfl) (methCons (fun v args w => by kernel_rfl) (methNil))))) (inlCons (zJT fuel) (inlNil))) mixed (by kernel_rfl) (by kernel_rfl) zKv (by kernel_rfl) (Nat.le_of_ble_eq_true (by kernel_rfl)) (rv := zxO) (by kernel_rfl) (fun x y h => (zKw fuel x).trans h)
theorem zKy (fuel : Nat) : EntryOK Tryz.prog 80 (zoD fuel).te := EntryOK.tg rfl (zKx fuel) (isFn (fn := Tryz.f80) (by kernel_rfl) (by kernel_rfl) (by kernel_rfl))
end Go.Proofs.YtdgdoeknpakmlaaGreat.Den
namespace Go.Proofs.YtdgdoeknpakmlaaGreat.Den
open Go Go.RowKit
abbrev za7 := Option (((List Int) × Unit) × Unit)
def zfA (fuel : Nat) : Tab := Tab.of [] []
abbrev zjD : List Pm := [{ cs := [(Kd.list I6, false)], ag := false }]
abbrev zfB : List Pm := [{ cs := [(Kd.list I6, true)], ag := false }]
def zxP : List Norm := [{ live := [4, 0, 3], fix := [] }]
noncomputable def zfC : C := irOf Tryz.prog Tryz.f68 [] zxP []
theorem zKz : lightC Tryz.prog [] Tryz.f68.ntmps zxP [] 0 (bodyOf Tryz.f68) = some (zfC, 1) := by kernel_rfl
def zfD : List (Nat × Option (Nat × Bool)) := [(2, none)]
abbrev zcn := (Int) × (List Int) × (List Int)
def zxQ (v : zcn) : Env × Heap := ([(4, SV.int .i64 v.1), (0, SV.es I6 v.2.1), (3, SV.own 0)], [Blk.arr I6 v.2.2 0])
def zfE (fuel : Nat) (g0 : zcn → za7) (v : zcn) : za7 :=
 cond (decide (v.1 < (zz (List.length v.2.1))))
 (tst (decide (0 ≤ v.1)) <|
 tst (decide (v.1 < (zz (List.length v.2.1)))) <|
 tst (decide (0 ≤ v.1)) <|
 tst (decide (v.1 < (zz (List.length v.2.2)))) <|
 tst (decide (Int.toNat v.1 < List.length v.2.2)) <|
 g0 (w64 (v.1 + (1 : Int)), v.2.1, List.set v.2.2 (Int.toNat v.1) (List.getD v.2.1 (Int.toNat v.1) 0)))
 (some (((v.2.2, ()), ())))
def zjE (fuel : Nat) (g0 : zcn → za7) : zcn → za7 := zfE fuel g0
theorem zKA (fuel : Nat) (G) : zfC.lp (zfA fuel) 0 fuel G (endF zfD zfB) 0 zxQ = iter (zjE fuel) fuel := C.lp_iter fun g v => by kernel_rfl
def zjF (fuel : Nat) (X0 : zcn → za7) (x0 : List Int) : za7 :=
 tst (decide (0 ≤ (zz (List.length x0)))) <|
 tst (decide ((zz (List.length x0)) ≤ (zz (List.length x0)))) <|
 tst (decide (Int.toNat (zz (List.length x0)) < LIM)) <|
 X0 ((0 : Int), x0, List.replicate (Int.toNat (zz (List.length x0))) 0)
def zY (fuel : Nat) (x : (((List Int) × Unit) × Unit)) : za7 := zjF fuel (iter (zjE fuel) fuel) x.1.1
theorem zKB (fuel : Nat) (x : PsT zjD) : run (zfA fuel) 0 fuel zfC (env0 (svPs zjD x) 0) [] (endF zfD zfB) = zY fuel x :=
  (show run (zfA fuel) 0 fuel zfC (env0 (svPs zjD x) 0) [] (endF zfD zfB) = zjF fuel (zfC.lp (zfA fuel) 0 fuel (fun _ _ _ => none) (endF zfD zfB) 0 zxQ) x.1.1 by kernel_rfl).trans (by rw [zKA]; rfl)
def zco (fuel : Nat) : TF := ⟨zjD, zfB, true, zY fuel⟩
theorem zKC (fuel : Nat) : FnSpec Tryz.prog 68 (zco fuel) :=
  fn_spec (T := zfA fuel) (c := bodyOf Tryz.f68) (fn := Tryz.f68) (TabOK.of (entNil) (methNil)) mixed (by kernel_rfl) (by kernel_rfl) zKz (by kernel_rfl) (Nat.le_of_ble_eq_true (by kernel_rfl)) (rv := zfD) (by kernel_rfl) (zKB fuel)
theorem zjG (fuel : Nat) : EntryOK Tryz.prog 68 (zco fuel).te := EntryOK.tf rfl (zKC fuel) (isFn (fn := Tryz.f68) (by kernel_rfl) (by kernel_rfl) (by kernel_rfl))
def zfF (fuel : Nat) : Tab := Tab.of [] []
abbrev zjH : List Pm := [{ cs := [(Kd.list I6, false)], ag := false }, { cs := [(Kd.list I6, false)], ag := false }]
abbrev zfG : List Pm := [{ cs := [(Kd.bool, false)], ag := false }]
def zxR : List Norm := [{ live := [5, 0, 1], fix := [] }]
noncomputable def zfH : C := irOf Tryz.prog Tryz.f70 [] zxR []
theorem zKD : lightC Tryz.prog [] Tryz.f70.ntmps zxR [] 0 (bodyOf Tryz.f70) = some (zfH, 1) := by kernel_rfl
def zfI : List (Nat × Option (Nat × Bool)) := [(4, none)]
abbrev zcp := (Int) × (List Int) × (List Int)
def zxS (v : zcp) : Env × Heap := ([(5, SV.int .i64 v.1), (0, SV.es I6 v.2.1), (1, SV.es I6 v.2.2)], [])
def zfJ (fuel : Nat) (g0 : zcp → Option ((Bool × Unit) × Unit)) (v : zcp) : Option ((Bool × Unit) × Unit) :=
 cond (decide (v.1 < (zz (List.length v.2.1))))
 (tst (decide (0 ≤ v.1)) <|
 tst (decide (v.1 < (zz (List.length v.2.1)))) <|
 tst (decide (0 ≤ v.1)) <|
 tst (decide (v.1 < (zz (List.length v.2.2)))) <|
 cond (List.getD v.2.1 (Int.toNat v.1) 0 != List.getD v.2.2 (Int.toNat v.1) 0)
 (some (((false, ()), ())))
 (g0 (w64 (v.1 + (1 : Int)), v.2.1, v.2.2)))
 (some (((true, ()), ())))
def zjI (fuel : Nat) (g0 : zcp → Option ((Bool × Unit) × Unit)) : zcp → Option ((Bool × Unit) × Unit) := zfJ fuel g0
theorem zKE (fuel : Nat) (G) : zfH.lp (zfF fuel) 0 fuel G (endF zfI zfG) 0 zxS = iter (zjI fuel) fuel := C.lp_iter fun g v => by kernel_rfl
def zjJ (fuel : Nat) (X0 : zcp → Option ((Bool × Unit) × Unit)) (x0 : List Int) (x1 : List Int) : Option ((Bool × Unit) × Unit) :=
 cond ((zz (List.length x0)) != (zz (List.length x1)))
 (some (((false, ()), ())))
 (X0 ((0 : Int), x0, x1))
def zfK (fuel : Nat) (x : (((List Int) × Unit) × (((List Int) × Unit) × Unit))) : Option ((Bool × Unit) × Unit) := zjJ fuel (iter (zjI fuel) fuel) x.1.1 x.2.1.1
theorem zKF (fuel : Nat) (x : PsT zjH) : run (zfF fuel) 0 fuel zfH (env0 (svPs zjH x) 0) [] (endF zfI zfG) = zfK fuel x :=
  (show run (zfF fuel) 0 fuel zfH (env0 (svPs zjH x) 0) [] (endF zfI zfG) = zjJ fuel (zfH.lp (zfF fuel) 0 fuel (fun _ _ _ => none) (endF zfI zfG) 0 zxS) x.1.1 x.2.1.1 by kernel_rfl).trans (by rw [zKE]; rfl)
def zjK (fuel : Nat) : TF := ⟨zjH, zfG, true, zfK fuel⟩
theorem zKG (fuel : Nat) : FnSpec Tryz.prog 70 (zjK fuel) :=
  fn_spec (T := zfF fuel) (c := bodyOf Tryz.f70) (fn := Tryz.f70) (TabOK.of (entNil) (methNil)) mixed (by kernel_rfl) (by kernel_rfl) zKD (by kernel_rfl) (Nat.le_of_ble_eq_true (by kernel_rfl)) (rv := zfI) (by kernel_rfl) (zKF fuel)
theorem zxT (fuel : Nat) : EntryOK Tryz.prog 70 (zjK fuel).te := EntryOK.tf rfl (zKG fuel) (isFn (fn := Tryz.f70) (by kernel_rfl) (by kernel_rfl) (by kernel_rfl))
def zfL (fuel : Nat) : Tab := Tab.of [(70, (zjK fuel).te)] []
abbrev zjL : List Pm := [{ cs := [(Kd.list (Kd.list I6), false)], ag := false }, { cs := [(Kd.list (Kd.list I6), false)], ag := false }]
abbrev zfM : List Pm := [{ cs := [(Kd.bool, false)], ag := false }]
def zxU : List Norm := [{ live := [5, 0, 1], fix := [] }]
noncomputable def zfN : C := irOf Tryz.prog Tryz.f165 [] zxU []
theorem zKH : lightC Tryz.prog [] Tryz.f165.ntmps zxU [] 0 (bodyOf Tryz.f165) = some (zfN, 1) := by kernel_rfl
def zfO : List (Nat × Option (Nat × Bool)) := [(4, none)]
abbrev zcq := (Int) × (List (List Int)) × (List (List Int))
def zxV (v : zcq) : Env × Heap := ([(5, SV.int .i64 v.1), (0, SV.es (Kd.list I6) v.2.1), (1, SV.es (Kd.list I6) v.2.2)], [])
def zfP (fuel : Nat) (g0 : zcq → Option ((Bool × Unit) × Unit)) (v : zcq) : Option ((Bool × Unit) × Unit) :=
 cond (decide (v.1 < (zz (List.length v.2.1))))
 (tst (decide (0 ≤ v.1)) <|
 tst (decide (v.1 < (zz (List.length v.2.1)))) <|
 tst (decide (0 ≤ v.1)) <|
 tst (decide (v.1 < (zz (List.length v.2.2)))) <|
 Option.bind (zfK fuel ((List.getD v.2.1 (Int.toNat v.1) [], ()), (List.getD v.2.2 (Int.toNat v.1) [], ()), ())) fun y_2 =>
 cond (!y_2.1.1)
 (some (((false, ()), ())))
 (g0 (w64 (v.1 + (1 : Int)), v.2.1, v.2.2)))
 (some (((true, ()), ())))
def zjM (fuel : Nat) (g0 : zcq → Option ((Bool × Unit) × Unit)) : zcq → Option ((Bool × Unit) × Unit) := zfP fuel g0
theorem zKI (fuel : Nat) (G) : zfN.lp (zfL fuel) 0 fuel G (endF zfO zfM) 0 zxV = iter (zjM fuel) fuel := C.lp_iter fun g v => by kernel_rfl
def zjN (fuel : Nat) (X0 : zcq → Option ((Bool × Unit) × Unit)) (x0 : List (List Int)) (x1 : List (List Int)) : Option ((Bool × Unit) × Unit) :=
 cond ((zz (List.length x0)) != (zz (List.length x1)))
 (some (((false, ()), ())))
 (X0 ((0 : Int), x0, x1))
def zjO (fuel : Nat) (x : (((List (List Int)) × Unit) × (((List (List Int)) × Unit) × Unit))) : Option ((Bool × Unit) × Unit) := zjN fuel (iter (zjM fuel) fuel) x.1.1 x.2.1.1
theorem zKJ (fuel : Nat) (x : PsT zjL) : run (zfL fuel) 0 fuel zfN (env0 (svPs zjL x) 0) [] (endF zfO zfM) = zjO fuel x :=
  (show run (zfL fuel) 0 fuel zfN (env0 (svPs zjL x) 0) [] (endF zfO zfM) = zjN fuel (zfN.lp (zfL fuel) 0 fuel (fun _ _ _ => none) (endF zfO zfM) 0 zxV) x.1.1 x.2.1.1 by kernel_rfl).trans (by rw [zKI]; rfl)
def zoE (fuel : Nat) : TF := ⟨zjL, zfM, true, zjO fuel⟩
theorem zKK (fuel : Nat) : FnSpec Tryz.prog 165 (zoE fuel) :=
  fn_spec (T := zfL fuel) (c := bodyOf Tryz.f165) (fn := Tryz.f165) (TabOK.of (entCons (zxT fuel) entNil) (methNil)) mixed (by kernel_rfl) (by kernel_rfl) zKH (by kernel_rfl) (Nat.le_of_ble_eq_true (by kernel_rfl)) (rv := zfO) (by kernel_rfl) (zKJ fuel)
theorem zKL (fuel : Nat) : EntryOK Tryz.prog 165 (zoE fuel).te := EntryOK.tf rfl (zKK fuel) (isFn (fn := Tryz.f165) (by kernel_rfl) (by kernel_rfl) (by kernel_rfl))
def zxW (fuel : Nat) : Tab := Tab.of [(165, (zoE fuel).te)] []
abbrev zoF : List Pm := [{ cs := [(Kd.list (Kd.list I6), false)], ag := true }, { cs := [(Kd.list (Kd.list I6), false)], ag := true }]
abbrev zxX : List Pm := [{ cs := [(Kd.bool, false)], ag := false }]
def zxY : List Norm := []
noncomputable def zxZ : C := irOf Tryz.prog Tryz.f114 [] zxY []
theorem zKM : lightC Tryz.prog [] Tryz.f114.ntmps zxY [] 0 (bodyOf Tryz.f114) = some (zxZ, 0) := by kernel_rfl
def zx0 : List (Nat × Option (Nat × Bool)) := [(4, none)]
def zoG (fuel : Nat) (x0 : List (List Int)) (x1 : List (List Int)) : Option ((Bool × Unit) × Unit) :=
 Option.bind (zjO fuel ((x0, ()), (x1, ()), ())) fun y_1 =>
 cond (!y_1.1.1)
 (some (((false, ()), ())))
 (some (((true, ()), ())))
def zjP (fuel : Nat) (x : (((List (List Int)) × Unit) × (((List (List Int)) × Unit) × Unit))) : Option ((Bool × Unit) × Unit) := zoG fuel x.1.1 x.2.1.1
theorem zKN (fuel : Nat) (x : PsT zoF) : run (zxW fuel) 0 fuel zxZ (env0 (svPs zoF x) 0) [] (endF zx0 zxX) = zjP fuel x := by kernel_rfl
def zoH (fuel : Nat) : TF := ⟨zoF, zxX, true, zjP fuel⟩
theorem zKO (fuel : Nat) : FnSpec Tryz.prog 114 (zoH fuel) :=
  fn_spec (T := zxW fuel) (c := bodyOf Tryz.f114) (fn := Tryz.f114) (TabOK.of (entCons (zKL fuel) entNil) (methNil)) mixed (by kernel_rfl) (by kernel_rfl) zKM (by kernel_rfl) (Nat.le_of_ble_eq_true (by kernel_rfl)) (rv := zx0) (by kernel_rfl) (zKN fuel)
theorem zKP (fuel : Nat) : EntryOK Tryz.prog 114 (zoH fuel).te := EntryOK.tf rfl (zKO fuel) (isFn (fn := Tryz.f114) (by kernel_rfl) (by kernel_rfl) (by kernel_rfl))
def zx1 (fuel : Nat) : Tab := Tab.of [(70, (zjK fuel).te)] []
abbrev zoI : List Pm := [{ cs := [(Kd.list I6, false)], ag := true }, { cs := [(Kd.list I6, false)], ag := true }]
abbrev zx2 : List Pm := [{ cs := [(Kd.bool, false)], ag := false }]
def zx3 : List Norm := []
noncomputable def zx4 : C := irOf Tryz.prog Tryz.f115 [] zx3 []
theorem zKQ : lightC Tryz.prog [] Tryz.f115.ntmps zx3 [] 0 (bodyOf Tryz.f115) = some (zx4, 0) := by kernel_rfl
def zx5 : List (Nat × Option (Nat × Bool)) := [(4, none)]
def zoJ (fuel : Nat) (x0 : List Int) (x1 : List Int) : Option ((Bool × Unit) × Unit) :=
 Option.bind (zfK fuel ((x0, ()), (x1, ()), ())) fun y_1 =>
 cond (!y_1.1.1)
 (some (((false, ()), ())))
 (some (((true, ()), ())))
def zjQ (fuel : Nat) (x : (((List Int) × Unit) × (((List Int) × Unit) × Unit))) : Option ((Bool × Unit) × Unit) := zoJ fuel x.1.1 x.2.1.1
theorem zKR (fuel : Nat) (x : PsT zoI) : run (zx1 fuel) 0 fuel zx4 (env0 (svPs zoI x) 0) [] (endF zx5 zx2) = zjQ fuel x := by kernel_rfl
def zoK (fuel : Nat) : TF := ⟨zoI, zx2, true, zjQ fuel⟩
theorem zKS (fuel : Nat) : FnSpec Tryz.prog 115 (zoK fuel) :=
  fn_spec (T := zx1 fuel) (c := bodyOf Tryz.f115) (fn := Tryz.f115) (TabOK.of (entCons (zxT fuel) entNil) (methNil)) mixed (by kernel_rfl) (by kernel_rfl) zKQ (by kernel_rfl) (Nat.le_of_ble_eq_true (by kernel_rfl)) (rv := zx5) (by kernel_rfl) (zKR fuel)
theorem zKT (fuel : Nat) : EntryOK Tryz.prog 115 (zoK fuel).te := EntryOK.tf rfl (zKS fuel) (isFn (fn := Tryz.f115) (by kernel_rfl) (by kernel_rfl) (by kernel_rfl))
def zx6 (fuel : Nat) : Tab := Tab.of [] []
abbrev zoL : List Pm := [{ cs := [(I6, false), (I6, false)], ag := true }, { cs := [(I6, false), (I6, false)], ag := true }]
abbrev zx7 : List Pm := [{ cs := [(Kd.bool, false)], ag := false }]
def zx8 : List Norm := []
noncomputable def zx9 : C := irOf Tryz.prog Tryz.f189 [] zx8 []
theorem zKU : lightC Tryz.prog [] Tryz.f189.ntmps zx8 [] 0 (bodyOf Tryz.f189) = some (zx9, 0) := by kernel_rfl
def zya : List (Nat × Option (Nat × Bool)) := [(4, none)]
def zoM (fuel : Nat) (x0 : Int) (x1 : Int) (x2 : Int) (x3 : Int) : Option ((Bool × Unit) × Unit) :=
 cond (x0 != x2)
 (some (((false, ()), ())))
 (cond (x1 != x3)
 (some (((false, ()), ())))
 (some (((true, ()), ()))))
def zjR (fuel : Nat) (x : ((Int × (Int × Unit)) × ((Int × (Int × Unit)) × Unit))) : Option ((Bool × Unit) × Unit) := zoM fuel x.1.1 x.1.2.1 x.2.1.1 x.2.1.2.1
theorem zKV (fuel : Nat) (x : PsT zoL) : run (zx6 fuel) 0 fuel zx9 (env0 (svPs zoL x) 0) [] (endF zya zx7) = zjR fuel x := by kernel_rfl
def zoN (fuel : Nat) : TF := ⟨zoL, zx7, true, zjR fuel⟩
theorem zKW (fuel : Nat) : FnSpec Tryz.prog 189 (zoN fuel) :=
  fn_spec (T := zx6 fuel) (c := bodyOf Tryz.f189) (fn := Tryz.f189) (TabOK.of (entNil) (methNil)) mixed (by kernel_rfl) (by kernel_rfl) zKU (by kernel_rfl) (Nat.le_of_ble_eq_true (by kernel_rfl)) (rv := zya) (by kernel_rfl) (zKV fuel)
theorem zKX (fuel : Nat) : EntryOK Tryz.prog 189 (zoN fuel).te := EntryOK.tf rfl (zKW fuel) (isFn (fn := Tryz.f189) (by kernel_rfl) (by kernel_rfl) (by kernel_rfl))
def zfQ (fuel : Nat) : Tab := Tab.of [(189, (zoN fuel).te)] []
abbrev zjS : List Pm := [{ cs := [(Kd.list KP, false)], ag := false }, { cs := [(Kd.list KP, false)], ag := false }]
abbrev zfR : List Pm := [{ cs := [(Kd.bool, false)], ag := false }]
def zyb : List Norm := [{ live := [5, 0, 1], fix := [] }]
noncomputable def zfS : C := irOf Tryz.prog Tryz.f166 [] zyb []
theorem zKY : lightC Tryz.prog [] Tryz.f166.ntmps zyb [] 0 (bodyOf Tryz.f166) = some (zfS, 1) := by kernel_rfl
def zfT : List (Nat × Option (Nat × Bool)) := [(4, none)]
abbrev zcr := (Int) × LP × LP
def zyc (v : zcr) : Env × Heap := ([(5, SV.int .i64 v.1), (0, SV.es KP v.2.1), (1, SV.es KP v.2.2)], [])
def zfU (fuel : Nat) (g0 : zcr → Option ((Bool × Unit) × Unit)) (v : zcr) : Option ((Bool × Unit) × Unit) :=
 cond (decide (v.1 < (zz (List.length v.2.1))))
 (tst (decide (0 ≤ v.1)) <|
 tst (decide (v.1 < (zz (List.length v.2.1)))) <|
 tst (decide (0 ≤ v.1)) <|
 tst (decide (v.1 < (zz (List.length v.2.2)))) <|
 Option.bind (zjR fuel (((List.getD v.2.1 (Int.toNat v.1) (0, (0, ()))).1, (List.getD v.2.1 (Int.toNat v.1) (0, (0, ()))).2.1, ()), ((List.getD v.2.2 (Int.toNat v.1) (0, (0, ()))).1, (List.getD v.2.2 (Int.toNat v.1) (0, (0, ()))).2.1, ()), ())) fun y_2 =>
 cond (!y_2.1.1)
 (some (((false, ()), ())))
 (g0 (w64 (v.1 + (1 : Int)), v.2.1, v.2.2)))
 (some (((true, ()), ())))
def zjT (fuel : Nat) (g0 : zcr → Option ((Bool × Unit) × Unit)) : zcr → Option ((Bool × Unit) × Unit) := zfU fuel g0
theorem zKZ (fuel : Nat) (G) : zfS.lp (zfQ fuel) 0 fuel G (endF zfT zfR) 0 zyc = iter (zjT fuel) fuel := C.lp_iter fun g v => by kernel_rfl
def zjU (fuel : Nat) (X0 : zcr → Option ((Bool × Unit) × Unit)) (x0 : LP) (x1 : LP) : Option ((Bool × Unit) × Unit) :=
 cond ((zz (List.length x0)) != (zz (List.length x1)))
 (some (((false, ()), ())))
 (X0 ((0 : Int), x0, x1))
def zjV (fuel : Nat) (x : ((LP × Unit) × ((LP × Unit) × Unit))) : Option ((Bool × Unit) × Unit) := zjU fuel (iter (zjT fuel) fuel) x.1.1 x.2.1.1
theorem zK0 (fuel : Nat) (x : PsT zjS) : run (zfQ fuel) 0 fuel zfS (env0 (svPs zjS x) 0) [] (endF zfT zfR) = zjV fuel x :=
  (show run (zfQ fuel) 0 fuel zfS (env0 (svPs zjS x) 0) [] (endF zfT zfR) = zjU fuel (zfS.lp (zfQ fuel) 0 fuel (fun _ _ _ => none) (endF zfT zfR) 0 zyc) x.1.1 x.2.1.1 by kernel_rfl).trans (by rw [zKZ]; rfl)
def zoO (fuel : Nat) : TF := ⟨zjS, zfR, true, zjV fuel⟩
theorem zK1 (fuel : Nat) : FnSpec Tryz.prog 166 (zoO fuel) :=
  fn_spec (T := zfQ fuel) (c := bodyOf Tryz.f166) (fn := Tryz.f166) (TabOK.of (entCons (zKX fuel) entNil) (methNil)) mixed (by kernel_rfl) (by kernel_rfl) zKY (by kernel_rfl) (Nat.le_of_ble_eq_true (by kernel_rfl)) (rv := zfT) (by kernel_rfl) (zK0 fuel)
theorem zK2 (fuel : Nat) : EntryOK Tryz.prog 166 (zoO fuel).te := EntryOK.tf rfl (zK1 fuel) (isFn (fn := Tryz.f166) (by kernel_rfl) (by kernel_rfl) (by kernel_rfl))
def zyd (fuel : Nat) : Tab := Tab.of [(166, (zoO fuel).te)] []
abbrev zoP : List Pm := [{ cs := [(Kd.list KP, false), (I6, false), (I6, false)], ag := true }, { cs := [(Kd.list KP, false), (I6, false), (I6, false)], ag := true }]
abbrev zye : List Pm := [{ cs := [(Kd.bool, false)], ag := false }]
def zyf : List Norm := []
noncomputable def zyg : C := irOf Tryz.prog Tryz.f116 [] zyf []
theorem zK3 : lightC Tryz.prog [] Tryz.f116.ntmps zyf [] 0 (bodyOf Tryz.f116) = some (zyg, 0) := by kernel_rfl
def zyh : List (Nat × Option (Nat × Bool)) := [(4, none)]
def zoQ (fuel : Nat) (x0 : LP) (x1 : Int) (x2 : Int) (x3 : LP) (x4 : Int) (x5 : Int) : Option ((Bool × Unit) × Unit) :=
 Option.bind (zjV fuel ((x0, ()), (x3, ()), ())) fun y_1 =>
 cond (!y_1.1.1)
 (some (((false, ()), ())))
 (cond (x1 != x4)
 (some (((false, ()), ())))
 (cond (x2 != x5)
 (some (((false, ()), ())))
 (some (((true, ()), ())))))
def zjW (fuel : Nat) (x : ((LP × (Int × (Int × Unit))) × ((LP × (Int × (Int × Unit))) × Unit))) : Option ((Bool × Unit) × Unit) := zoQ fuel x.1.1 x.1.2.1 x.1.2.2.1 x.2.1.1 x.2.1.2.1 x.2.1.2.2.1
theorem zK4 (fuel : Nat) (x : PsT zoP) : run (zyd fuel) 0 fuel zyg (env0 (svPs zoP x) 0) [] (endF zyh zye) = zjW fuel x := by kernel_rfl
def zoR (fuel : Nat) : TF := ⟨zoP, zye, true, zjW fuel⟩
theorem zK5 (fuel : Nat) : FnSpec Tryz.prog 116 (zoR fuel) :=
  fn_spec (T := zyd fuel) (c := bodyOf Tryz.f116) (fn := Tryz.f116) (TabOK.of (entCons (zK2 fuel) entNil) (methNil)) mixed (by kernel_rfl) (by kernel_rfl) zK3 (by kernel_rfl) (Nat.le_of_ble_eq_true (by kernel_rfl)) (rv := zyh) (by kernel_rfl) (zK4 fuel)
theorem zK6 (fuel : Nat) : EntryOK Tryz.prog 116 (zoR fuel).te := EntryOK.tf rfl (zK5 fuel) (isFn (fn := Tryz.f116) (by kernel_rfl) (by kernel_rfl) (by kernel_rfl))
def zyi (fuel : Nat) : Tab := Tab.of [] []
abbrev zoS : List Pm := [{ cs := [(I6, false), (I6, false)], ag := true }, { cs := [(I6, false), (I6, false)], ag := true }]
abbrev zyj : List Pm := [{ cs := [(Kd.bool, false)], ag := false }]
def zyk : List Norm := []
noncomputable def zyl : C := irOf Tryz.prog Tryz.f190 [] zyk []
theorem zK7 : lightC Tryz.prog [] Tryz.f190.ntmps zyk [] 0 (bodyOf Tryz.f190) = some (zyl, 0) := by kernel_rfl
def zym : List (Nat × Option (Nat × Bool)) := [(4, none)]
def zoT (fuel : Nat) (x0 : Int) (x1 : Int) (x2 : Int) (x3 : Int) : Option ((Bool × Unit) × Unit) :=
 cond (x0 != x2)
 (some (((false, ()), ())))
 (cond (x1 != x3)
 (some (((false, ()), ())))
 (some (((true, ()), ()))))
def zjX (fuel : Nat) (x : ((Int × (Int × Unit)) × ((Int × (Int × Unit)) × Unit))) : Option ((Bool × Unit) × Unit) := zoT fuel x.1.1 x.1.2.1 x.2.1.1 x.2.1.2.1
theorem zK8 (fuel : Nat) (x : PsT zoS) : run (zyi fuel) 0 fuel zyl (env0 (svPs zoS x) 0) [] (endF zym zyj) = zjX fuel x := by kernel_rfl
def zoU (fuel : Nat) : TF := ⟨zoS, zyj, true, zjX fuel⟩
theorem zK9 (fuel : Nat) : FnSpec Tryz.prog 190 (zoU fuel) :=
  fn_spec (T := zyi fuel) (c := bodyOf Tryz.f190) (fn := Tryz.f190) (TabOK.of (entNil) (methNil)) mixed (by kernel_rfl) (by kernel_rfl) zK7 (by kernel_rfl) (Nat.le_of_ble_eq_true (by kernel_rfl)) (rv := zym) (by kernel_rfl) (zK8 fuel)
theorem zLa (fuel : Nat) : EntryOK Tryz.prog 190 (zoU fuel).te := EntryOK.tf rfl (zK9 fuel) (isFn (fn := Tryz.f190) (by kernel_rfl) (by kernel_rfl) (by kernel_rfl))
def zfV (fuel : Nat) : Tab := Tab.of [(190, (zoU fuel).te)] []
abbrev zjY : List Pm := [{ cs := [(Kd.list KP, false)], ag := false }, { cs := [(Kd.list KP, false)], ag := false }]
abbrev zfW : List Pm := [{ cs := [(Kd.bool, false)], ag := false }]
def zyn : List Norm := [{ live := [5, 0, 1], fix := [] }]
noncomputable def zfX : C := irOf Tryz.prog Tryz.f167 [] zyn []
theorem zLb : lightC Tryz.prog [] Tryz.f167.ntmps zyn [] 0 (bodyOf Tryz.f167) = some (zfX, 1) := by kernel_rfl
def zfY : List (Nat × Option (Nat × Bool)) := [(4, none)]
abbrev zcs := (Int) × LP × LP
def zyo (v : zcs) : Env × Heap := ([(5, SV.int .i64 v.1), (0, SV.es KP v.2.1), (1, SV.es KP v.2.2)], [])
def zfZ (fuel : Nat) (g0 : zcs → Option ((Bool × Unit) × Unit)) (v : zcs) : Option ((Bool × Unit) × Unit) :=
 cond (decide (v.1 < (zz (List.length v.2.1))))
 (tst (decide (0 ≤ v.1)) <|
 tst (decide (v.1 < (zz (List.length v.2.1)))) <|
 tst (decide (0 ≤ v.1)) <|
 tst (decide (v.1 < (zz (List.length v.2.2)))) <|
 Option.bind (zjX fuel (((List.getD v.2.1 (Int.toNat v.1) (0, (0, ()))).1, (List.getD v.2.1 (Int.toNat v.1) (0, (0, ()))).2.1, ()), ((List.getD v.2.2 (Int.toNat v.1) (0, (0, ()))).1, (List.getD v.2.2 (Int.toNat v.1) (0, (0, ()))).2.1, ()), ())) fun y_2 =>
 cond (!y_2.1.1)
 (some (((false, ()), ())))
 (g0 (w64 (v.1 + (1 : Int)), v.2.1, v.2.2)))
 (some (((true, ()), ())))
def zjZ (fuel : Nat) (g0 : zcs → Option ((Bool × Unit) × Unit)) : zcs → Option ((Bool × Unit) × Unit) := zfZ fuel g0
theorem zLc (fuel : Nat) (G) : zfX.lp (zfV fuel) 0 fuel G (endF zfY zfW) 0 zyo = iter (zjZ fuel) fuel := C.lp_iter fun g v => by kernel_rfl
def zj0 (fuel : Nat) (X0 : zcs → Option ((Bool × Unit) × Unit)) (x0 : LP) (x1 : LP) : Option ((Bool × Unit) × Unit) :=
 cond ((zz (List.length x0)) != (zz (List.length x1)))
 (some (((false, ()), ())))
 (X0 ((0 : Int), x0, x1))
def zj1 (fuel : Nat) (x : ((LP × Unit) × ((LP × Unit) × Unit))) : Option ((Bool × Unit) × Unit) := zj0 fuel (iter (zjZ fuel) fuel) x.1.1 x.2.1.1
theorem zLd (fuel : Nat) (x : PsT zjY) : run (zfV fuel) 0 fuel zfX (env0 (svPs zjY x) 0) [] (endF zfY zfW) = zj1 fuel x :=
  (show run (zfV fuel) 0 fuel zfX (env0 (svPs zjY x) 0) [] (endF zfY zfW) = zj0 fuel (zfX.lp (zfV fuel) 0 fuel (fun _ _ _ => none) (endF zfY zfW) 0 zyo) x.1.1 x.2.1.1 by kernel_rfl).trans (by rw [zLc]; rfl)
def zoV (fuel : Nat) : TF := ⟨zjY, zfW, true, zj1 fuel⟩
theorem zLe (fuel : Nat) : FnSpec Tryz.prog 167 (zoV fuel) :=
  fn_spec (T := zfV fuel) (c := bodyOf Tryz.f167) (fn := Tryz.f167) (TabOK.of (entCons (zLa fuel) entNil) (methNil)) mixed (by kernel_rfl) (by kernel_rfl) zLb (by kernel_rfl) (Nat.le_of_ble_eq_true (by kernel_rfl)) (rv := zfY) (by kernel_rfl) (zLd fuel)
theorem zLf (fuel : Nat) : EntryOK Tryz.prog 167 (zoV fuel).te := EntryOK.tf rfl (zLe fuel) (isFn (fn := Tryz.f167) (by kernel_rfl) (by kernel_rfl) (by kernel_rfl))
def zyp (fuel : Nat) : Tab := Tab.of [(167, (zoV fuel).te)] []
abbrev zoW : List Pm := [{ cs := [(Kd.list KP, false), (I6, false)], ag := true }, { cs := [(Kd.list KP, false), (I6, false)], ag := true }]
abbrev zyq : List Pm := [{ cs := [(Kd.bool, false)], ag := false }]
def zyr : List Norm := []
noncomputable def zys : C := irOf Tryz.prog Tryz.f117 [] zyr []
theorem zLg : lightC Tryz.prog [] Tryz.f117.ntmps zyr [] 0 (bodyOf Tryz.f117) = some (zys, 0) := by kernel_rfl
def zyt : List (Nat × Option (Nat × Bool)) := [(4, none)]
def zoX (fuel : Nat) (x0 : LP) (x1 : Int) (x2 : LP) (x3 : Int) : Option ((Bool × Unit) × Unit) :=
 Option.bind (zj1 fuel ((x0, ()), (x2, ()), ())) fun y_1 =>
 cond (!y_1.1.1)
 (some (((false, ()), ())))
 (cond (x1 != x3)
 (some (((false, ()), ())))
 (some (((true, ()), ()))))
def zj2 (fuel : Nat) (x : ((LP × (Int × Unit)) × ((LP × (Int × Unit)) × Unit))) : Option ((Bool × Unit) × Unit) := zoX fuel x.1.1 x.1.2.1 x.2.1.1 x.2.1.2.1
theorem zLh (fuel : Nat) (x : PsT zoW) : run (zyp fuel) 0 fuel zys (env0 (svPs zoW x) 0) [] (endF zyt zyq) = zj2 fuel x := by kernel_rfl
def zoY (fuel : Nat) : TF := ⟨zoW, zyq, true, zj2 fuel⟩
theorem zLi (fuel : Nat) : FnSpec Tryz.prog 117 (zoY fuel) :=
  fn_spec (T := zyp fuel) (c := bodyOf Tryz.f117) (fn := Tryz.f117) (TabOK.of (entCons (zLf fuel) entNil) (methNil)) mixed (by kernel_rfl) (by kernel_rfl) zLg (by kernel_rfl) (Nat.le_of_ble_eq_true (by kernel_rfl)) (rv := zyt) (by kernel_rfl) (zLh fuel)
theorem zLj (fuel : Nat) : EntryOK Tryz.prog 117 (zoY fuel).te := EntryOK.tf rfl (zLi fuel) (isFn (fn := Tryz.f117) (by kernel_rfl) (by kernel_rfl) (by kernel_rfl))
def zyu (fuel : Nat) : Tab := Tab.of [(114, (zoH fuel).te), (115, (zoK fuel).te), (116, (zoR fuel).te), (117, (zoY fuel).te)] []
abbrev zoZ : List Pm := [{ cs := [(Kd.list (Kd.list I6), false), (Kd.list I6, false), (Kd.list KP, false), (I6, false), (I6, false), (Kd.list KP, false), (I6, false)], ag := true }, { cs := [(Kd.list (Kd.list I6), false), (Kd.list I6, false), (Kd.list KP, false), (I6, false), (I6, false), (Kd.list KP, false), (I6, false)], ag := true }]
abbrev zyv : List Pm := [{ cs := [(Kd.bool, false)], ag := false }]
def zyw : List Norm := []
noncomputable def zyx : C := irOf Tryz.prog Tryz.f69 [] zyw []
theorem zLk : lightC Tryz.prog [] Tryz.f69.ntmps zyw [] 0 (bodyOf Tryz.f69) = some (zyx, 0) := by kernel_rfl
def zyy : List (Nat × Option (Nat × Bool)) := [(4, none)]
def zo0 (fuel : Nat) (x0 : List (List Int)) (x1 : List Int) (x2 : LP) (x3 : Int) (x4 : Int) (x5 : LP) (x6 : Int) (x7 : List (List Int)) (x8 : List Int) (x9 : LP) (x10 : Int) (x11 : Int) (x12 : LP) (x13 : Int) : Option ((Bool × Unit) × Unit) :=
 Option.bind (zjP fuel ((x0, ()), (x7, ()), ())) fun y_1 =>
 cond (!y_1.1.1)
 (some (((false, ()), ())))
 (Option.bind (zjQ fuel ((x1, ()), (x8, ()), ())) fun y_3 =>
 cond (!y_3.1.1)
 (some (((false, ()), ())))
 (Option.bind (zjW fuel ((x2, x3, x4, ()), (x9, x10, x11, ()), ())) fun y_5 =>
 cond (!y_5.1.1)
 (some (((false, ()), ())))
 (Option.bind (zj2 fuel ((x5, x6, ()), (x12, x13, ()), ())) fun y_7 =>
 cond (!y_7.1.1)
 (some (((false, ()), ())))
 (some (((true, ()), ()))))))
def zu (fuel : Nat) (x : (SumY × (SumY × Unit))) : Option ((Bool × Unit) × Unit) := zo0 fuel x.1.1 x.1.2.1 x.1.2.2.1 x.1.2.2.2.1 x.1.2.2.2.2.1 x.1.2.2.2.2.2.1 x.1.2.2.2.2.2.2.1 x.2.1.1 x.2.1.2.1 x.2.1.2.2.1 x.2.1.2.2.2.1 x.2.1.2.2.2.2.1 x.2.1.2.2.2.2.2.1 x.2.1.2.2.2.2.2.2.1
theorem zLl (fuel : Nat) (x : PsT zoZ) : run (zyu fuel) 0 fuel zyx (env0 (svPs zoZ x) 0) [] (endF zyy zyv) = zu fuel x := by kernel_rfl
def zj3 (fuel : Nat) : TF := ⟨zoZ, zyv, true, zu fuel⟩
theorem zLm (fuel : Nat) : FnSpec Tryz.prog 69 (zj3 fuel) :=
  fn_spec (T := zyu fuel) (c := bodyOf Tryz.f69) (fn := Tryz.f69) (TabOK.of (entCons (zKP fuel) (entCons (zKT fuel) (entCons (zK6 fuel) (entCons (zLj fuel) entNil)))) (methNil)) mixed (by kernel_rfl) (by kernel_rfl) zLk (by kernel_rfl) (Nat.le_of_ble_eq_true (by kernel_rfl)) (rv := zyy) (by kernel_rfl) (zLl fuel)
theorem zyz (fuel : Nat) : EntryOK Tryz.prog 69 (zj3 fuel).te := EntryOK.tf rfl (zLm fuel) (isFn (fn := Tryz.f69) (by kernel_rfl) (by kernel_rfl) (by kernel_rfl))
abbrev za8 := Option ((List Int) × ((Int × Unit) × Unit))
def zf0 (fuel : Nat) : Tab := Tab.of [] []
abbrev zj4 : List Pm := [{ cs := [(I6, false)], ag := false }]
abbrev zf1 : List Pm := [{ cs := [(I6, false)], ag := false }]
def zyA : List Norm := [{ live := [5, 0, 1], fix := [] }]
noncomputable def zf2 : C := irOf Tryz.prog Tryz.f71 [] zyA []
theorem zLn : lightC Tryz.prog [] Tryz.f71.ntmps zyA [] 0 (bodyOf Tryz.f71) = some (zf2, 1) := by kernel_rfl
def zf3 : List (Nat × Option (Nat × Bool)) := [(4, none)]
abbrev zct := (Int) × (Int) × (List Int)
def zyB (v : zct) : Env × Heap := ([(5, SV.int .i64 v.1), (0, SV.own 0), (1, SV.int .i64 v.2.1)], [Blk.arr I6 v.2.2 0])
def zf4 (fuel : Nat) (g0 : zct → za8) (v : zct) : za8 :=
 cond (decide (v.1 < (zz (List.length v.2.2))))
 (tst (decide (0 ≤ v.1)) <|
 tst (decide (v.1 < (zz (List.length v.2.2)))) <|
 tst (decide (Int.toNat v.1 < List.length v.2.2)) <|
 g0 (w64 (v.1 + (1 : Int)), w64 (v.2.1 + (1 : Int)), List.set v.2.2 (Int.toNat v.1) v.2.1))
 (some ((v.2.2, (v.2.1, ()), ())))
def zj5 (fuel : Nat) (g0 : zct → za8) : zct → za8 := zf4 fuel g0
theorem zLo (fuel : Nat) (G) : zf2.lp (zf0 fuel) 1 fuel G (endS zf3 I6 false zf1) 0 zyB = iter (zj5 fuel) fuel := C.lp_iter fun g v => by kernel_rfl
def zj6 (fuel : Nat) (X0 : zct → za8) (d0 : List Int) (x0 : Int) : za8 :=
 X0 ((0 : Int), x0, d0)
def zJ (fuel : Nat) (z : (List Int) × Unit × ((Int × Unit) × Unit)) : za8 := zj6 fuel (iter (zj5 fuel) fuel) z.1 z.2.2.1.1
theorem zLp (fuel : Nat) (c : List (Kd.T I6)) (d : CsT []) (x : PsT zj4) : run (zf0 fuel) 1 fuel zf2 ((0, firstV false 0 (svCs [] d)) :: env0 (svPs zj4 x) 1) [.arr I6 c 0] (endS zf3 I6 false zf1) = zJ fuel (c, d, x) :=
  (show run (zf0 fuel) 1 fuel zf2 ((0, firstV false 0 (svCs [] d)) :: env0 (svPs zj4 x) 1) [.arr I6 c 0] (endS zf3 I6 false zf1) = zj6 fuel (zf2.lp (zf0 fuel) 1 fuel (fun _ _ _ => none) (endS zf3 I6 false zf1) 0 zyB) c x.1.1 by kernel_rfl).trans (by rw [zLo]; rfl)
def za9 (fuel : Nat) : TFS := ⟨I6, false, [], zj4, zf1, false, zJ fuel⟩
theorem zLq (fuel : Nat) : FnSpecS Tryz.prog 71 (za9 fuel) :=
  zlA (T := zf0 fuel) (c := bodyOf Tryz.f71) (fn := Tryz.f71) (TabOK.of (entNil) (methNil)) mixed (by kernel_rfl) (by kernel_rfl) zLn (by kernel_rfl) (Nat.le_of_ble_eq_true (by kernel_rfl)) (rv := zf3) (by kernel_rfl) (zLp fuel)
theorem zo1 (fuel : Nat) : EntryOK Tryz.prog 71 (za9 fuel).te := EntryOK.tfs (zLq fuel) (isFn (fn := Tryz.f71) (by kernel_rfl) (by kernel_rfl) (by kernel_rfl))
end Go.Proofs.YtdgdoeknpakmlaaGreat.Den
namespace Go.Proofs.YtdgdoeknpakmlaaGreat.Den
open Go Go.RowKit
def zf5 (fuel : Nat) : Tab := Tab.of [] []
abbrev zj7 : Sh := (.nls (.cell I6 0 .nil))
abbrev zf6 : Sh := (.cell I6 0 .nil)
def zyC : List Norm := [{ live := [5, 0, 1], fix := [] }]
noncomputable def zf7 : C := irOf Tryz.prog Tryz.f71 [] zyC []
theorem zLr : lightC Tryz.prog [] Tryz.f71.ntmps zyC [] 0 (bodyOf Tryz.f71) = some (zf7, 1) := by kernel_rfl
def zf8 : List (Nat × Option (Nat × Bool)) := [(4, none)]
abbrev zcu := (Int) × (Int)
def zyD (v : zcu) : Env × Heap := ([(5, SV.int .i64 v.1), (0, SV.nils), (1, SV.int .i64 v.2)], [])
def zLs (fuel : Nat) (g0 : zcu → Option (Int × Unit)) (v : zcu) : Option (Int × Unit) :=
 cond (decide (v.1 < (zz 0)))
 (none)
 (some ((v.2, ())))
def zyE (fuel : Nat) (g0 : zcu → Option (Int × Unit)) : zcu → Option (Int × Unit) := zLs fuel g0
theorem zLt (fuel : Nat) (G) : zf7.lp (zf5 fuel) 0 fuel G (endG zf8 zf6) 0 zyD = iter (zyE fuel) fuel := C.lp_iter fun g v => by kernel_rfl
def zyF (fuel : Nat) (X0 : zcu → Option (Int × Unit)) (x0 : Int) : Option (Int × Unit) :=
 X0 ((0 : Int), x0)
def zj8 (fuel : Nat) (x : (Int × Unit)) : Option (Int × Unit) := zyF fuel (iter (zyE fuel) fuel) x.1
theorem zLu (fuel : Nat) (x : Sh.T zj7) : run (zf5 fuel) 0 fuel zf7 (env0 (svS zj7 x) 0) [] (endG zf8 zf6) = zj8 fuel x :=
  (show run (zf5 fuel) 0 fuel zf7 (env0 (svS zj7 x) 0) [] (endG zf8 zf6) = zyF fuel (zf7.lp (zf5 fuel) 0 fuel (fun _ _ _ => none) (endG zf8 zf6) 0 zyD) x.1 by kernel_rfl).trans (by rw [zLt]; rfl)
def zf9 (fuel : Nat) : TG := ⟨zj7, zf6, true, zj8 fuel⟩
theorem zLv (fuel : Nat) : FnSpecG Tryz.prog 71 (zf9 fuel) :=
  zd (T := zf5 fuel) (c := bodyOf Tryz.f71) (fn := Tryz.f71) (TabOK.of (entNil) (methNil)) mixed (by kernel_rfl) (by kernel_rfl) zLr (by kernel_rfl) (Nat.le_of_ble_eq_true (by kernel_rfl)) (rv := zf8) (by kernel_rfl) (fun x y h => (zLu fuel x).trans h)
theorem zo2 (fuel : Nat) : EntryOK Tryz.prog 71 (zf9 fuel).te := EntryOK.tg rfl (zLv fuel) (isFn (fn := Tryz.f71) (by kernel_rfl) (by kernel_rfl) (by kernel_rfl))
def zv (fuel : Nat) : Tab := Tab.of [(71, (za9 fuel).te), (71, (zf9 fuel).te)] []
def zo3 : List Norm := [{ live := [5, 0, 1], fix := [] }]
noncomputable def zyG : C := irOf Tryz.prog Tryz.f168 [] zo3 []
theorem zLw : lightC Tryz.prog [] Tryz.f168.ntmps zo3 [] 0 (bodyOf Tryz.f168) = some (zyG, 1) := by kernel_rfl
def zak : List (Nat × Option (Nat × Bool)) := [(4, none)]
noncomputable def zyH (fuel : Nat) : IE := inlIE 2 (zv fuel) (fuel + 6) zyG zak
theorem zLx (fuel : Nat) : ISound Tryz.prog 168 (zyH fuel) :=
  zx (T := zv fuel) (c := bodyOf Tryz.f168) (fn := Tryz.f168) (TabOK.of (entCons (zo1 fuel) (entCons (zo2 fuel) entNil)) (methNil)) mixed (by kernel_rfl) (by kernel_rfl) zLw (by kernel_rfl) (Nat.le_of_ble_eq_true (by kernel_rfl)) (rv := zak) (by kernel_rfl) (isFn (fn := Tryz.f168) (by kernel_rfl) (by kernel_rfl) (by kernel_rfl))
def zyI (fuel : Nat) : Tab := Tab.of [(71, (za9 fuel).te), (71, (zf9 fuel).te)] []
def zyJ : List Norm := []
noncomputable def zyK : C := irOf Tryz.prog Tryz.f119 [] zyJ []
theorem zLy : lightC Tryz.prog [] Tryz.f119.ntmps zyJ [] 0 (bodyOf Tryz.f119) = some (zyK, 0) := by kernel_rfl
def zyL : List (Nat × Option (Nat × Bool)) := [(4, none)]
noncomputable def zyM (fuel : Nat) : IE := inlIE 2 (zyI fuel) fuel zyK zyL
theorem zLz (fuel : Nat) : ISound Tryz.prog 119 (zyM fuel) :=
  zx (T := zyI fuel) (c := bodyOf Tryz.f119) (fn := Tryz.f119) (TabOK.of (entCons (zo1 fuel) (entCons (zo2 fuel) entNil)) (methNil)) mixed (by kernel_rfl) (by kernel_rfl) zLy (by kernel_rfl) (Nat.le_of_ble_eq_true (by kernel_rfl)) (rv := zyL) (by kernel_rfl) (isFn (fn := Tryz.f119) (by kernel_rfl) (by kernel_rfl) (by kernel_rfl))
abbrev zba := Option (LP × ((Int × Unit) × Unit))
def zga (fuel : Nat) : Tab := Tab.of [] []
abbrev zj9 : List Pm := [{ cs := [(I6, false)], ag := false }]
abbrev zgb : List Pm := [{ cs := [(I6, false)], ag := false }]
def zyN : List Norm := [{ live := [5, 0, 1], fix := [] }]
noncomputable def zgc : C := irOf Tryz.prog Tryz.f169 [] zyN []
theorem zLA : lightC Tryz.prog [] Tryz.f169.ntmps zyN [] 0 (bodyOf Tryz.f169) = some (zgc, 1) := by kernel_rfl
def zgd : List (Nat × Option (Nat × Bool)) := [(4, none)]
abbrev zcv := (Int) × (Int) × LP
def zyO (v : zcv) : Env × Heap := ([(5, SV.int .i64 v.1), (0, SV.own 0), (1, SV.int .i64 v.2.1)], [Blk.arr KP v.2.2 0])
def zge (fuel : Nat) (g0 : zcv → zba) (v : zcv) : zba :=
 cond (decide (v.1 < (zz (List.length v.2.2))))
 (tst (decide (0 ≤ v.1)) <|
 tst (decide (v.1 < (zz (List.length v.2.2)))) <|
 tst (decide (Int.toNat v.1 < List.length v.2.2)) <|
 tst (decide (0 ≤ v.1)) <|
 tst (decide (v.1 < (zz (List.length (List.set v.2.2 (Int.toNat v.1) (v.2.1, (List.getD v.2.2 (Int.toNat v.1) (0, (0, ()))).2.1, ())))))) <|
 tst (decide (Int.toNat v.1 < List.length (List.set v.2.2 (Int.toNat v.1) (v.2.1, (List.getD v.2.2 (Int.toNat v.1) (0, (0, ()))).2.1, ())))) <|
 g0 (w64 (v.1 + (1 : Int)), w64 (w64 (v.2.1 + (1 : Int)) + (1 : Int)), List.set (List.set v.2.2 (Int.toNat v.1) (v.2.1, (List.getD v.2.2 (Int.toNat v.1) (0, (0, ()))).2.1, ())) (Int.toNat v.1) ((List.getD (List.set v.2.2 (Int.toNat v.1) (v.2.1, (List.getD v.2.2 (Int.toNat v.1) (0, (0, ()))).2.1, ())) (Int.toNat v.1) (0, (0, ()))).1, w64 (v.2.1 + (1 : Int)), ())))
 (some ((v.2.2, (v.2.1, ()), ())))
def zka (fuel : Nat) (g0 : zcv → zba) : zcv → zba := zge fuel g0
theorem zLB (fuel : Nat) (G) : zgc.lp (zga fuel) 1 fuel G (endS zgd KP false zgb) 0 zyO = iter (zka fuel) fuel := C.lp_iter fun g v => by kernel_rfl
def zkb (fuel : Nat) (X0 : zcv → zba) (d0 : LP) (x0 : Int) : zba :=
 X0 ((0 : Int), x0, d0)
def zcw (fuel : Nat) (z : LP × Unit × ((Int × Unit) × Unit)) : zba := zkb fuel (iter (zka fuel) fuel) z.1 z.2.2.1.1
theorem zLC (fuel : Nat) (c : List (Kd.T KP)) (d : CsT []) (x : PsT zj9) : run (zga fuel) 1 fuel zgc ((0, firstV false 0 (svCs [] d)) :: env0 (svPs zj9 x) 1) [.arr KP c 0] (endS zgd KP false zgb) = zcw fuel (c, d, x) :=
  (show run (zga fuel) 1 fuel zgc ((0, firstV false 0 (svCs [] d)) :: env0 (svPs zj9 x) 1) [.arr KP c 0] (endS zgd KP false zgb) = zkb fuel (zgc.lp (zga fuel) 1 fuel (fun _ _ _ => none) (endS zgd KP false zgb) 0 zyO) c x.1.1 by kernel_rfl).trans (by rw [zLB]; rfl)
def zo4 (fuel : Nat) : TFS := ⟨KP, false, [], zj9, zgb, false, zcw fuel⟩
theorem zLD (fuel : Nat) : FnSpecS Tryz.prog 169 (zo4 fuel) :=
  zlA (T := zga fuel) (c := bodyOf Tryz.f169) (fn := Tryz.f169) (TabOK.of (entNil) (methNil)) mixed (by kernel_rfl) (by kernel_rfl) zLA (by kernel_rfl) (Nat.le_of_ble_eq_true (by kernel_rfl)) (rv := zgd) (by kernel_rfl) (zLC fuel)
theorem zLE (fuel : Nat) : EntryOK Tryz.prog 169 (zo4 fuel).te := EntryOK.tfs (zLD fuel) (isFn (fn := Tryz.f169) (by kernel_rfl) (by kernel_rfl) (by kernel_rfl))
def zgf (fuel : Nat) : Tab := Tab.of [] []
abbrev zkc : Sh := (.nls (.cell I6 0 .nil))
abbrev zgg : Sh := (.cell I6 0 .nil)
def zyP : List Norm := [{ live := [5, 0, 1], fix := [] }]
noncomputable def zgh : C := irOf Tryz.prog Tryz.f169 [] zyP []
theorem zLF : lightC Tryz.prog [] Tryz.f169.ntmps zyP [] 0 (bodyOf Tryz.f169) = some (zgh, 1) := by kernel_rfl
def zgi : List (Nat × Option (Nat × Bool)) := [(4, none)]
abbrev zcx := (Int) × (Int)
def zyQ (v : zcx) : Env × Heap := ([(5, SV.int .i64 v.1), (0, SV.nils), (1, SV.int .i64 v.2)], [])
def zLG (fuel : Nat) (g0 : zcx → Option (Int × Unit)) (v : zcx) : Option (Int × Unit) :=
 cond (decide (v.1 < (zz 0)))
 (none)
 (some ((v.2, ())))
def zyR (fuel : Nat) (g0 : zcx → Option (Int × Unit)) : zcx → Option (Int × Unit) := zLG fuel g0
theorem zLH (fuel : Nat) (G) : zgh.lp (zgf fuel) 0 fuel G (endG zgi zgg) 0 zyQ = iter (zyR fuel) fuel := C.lp_iter fun g v => by kernel_rfl
def zyS (fuel : Nat) (X0 : zcx → Option (Int × Unit)) (x0 : Int) : Option (Int × Unit) :=
 X0 ((0 : Int), x0)
def zkd (fuel : Nat) (x : (Int × Unit)) : Option (Int × Unit) := zyS fuel (iter (zyR fuel) fuel) x.1
theorem zLI (fuel : Nat) (x : Sh.T zkc) : run (zgf fuel) 0 fuel zgh (env0 (svS zkc x) 0) [] (endG zgi zgg) = zkd fuel x :=
  (show run (zgf fuel) 0 fuel zgh (env0 (svS zkc x) 0) [] (endG zgi zgg) = zyS fuel (zgh.lp (zgf fuel) 0 fuel (fun _ _ _ => none) (endG zgi zgg) 0 zyQ) x.1 by kernel_rfl).trans (by rw [zLH]; rfl)
def zo5 (fuel : Nat) : TG := ⟨zkc, zgg, true, zkd fuel⟩
theorem zLJ (fuel : Nat) : FnSpecG Tryz.prog 169 (zo5 fuel) :=
  zd (T := zgf fuel) (c := bodyOf Tryz.f169) (fn := Tryz.f169) (TabOK.of (entNil) (methNil)) mixed (by kernel_rfl) (by kernel_rfl) zLF (by kernel_rfl) (Nat.le_of_ble_eq_true (by kernel_rfl)) (rv := zgi) (by kernel_rfl) (fun x y h => (zLI fuel x).trans h)
theorem zLK (fuel : Nat) : EntryOK Tryz.prog 169 (zo5 fuel).te := EntryOK.tg rfl (zLJ fuel) (isFn (fn := Tryz.f169) (by kernel_rfl) (by kernel_rfl) (by kernel_rfl))
def zyT (fuel : Nat) : Tab := Tab.of [(169, (zo4 fuel).te), (169, (zo5 fuel).te)] []
def zyU : List Norm := []
noncomputable def zyV : C := irOf Tryz.prog Tryz.f120 [] zyU []
theorem zLL : lightC Tryz.prog [] Tryz.f120.ntmps zyU [] 0 (bodyOf Tryz.f120) = some (zyV, 0) := by kernel_rfl
def zyW : List (Nat × Option (Nat × Bool)) := [(4, none)]
noncomputable def zyX (fuel : Nat) : IE := inlIE 2 (zyT fuel) fuel zyV zyW
theorem zLM (fuel : Nat) : ISound Tryz.prog 120 (zyX fuel) :=
  zx (T := zyT fuel) (c := bodyOf Tryz.f120) (fn := Tryz.f120) (TabOK.of (entCons (zLE fuel) (entCons (zLK fuel) entNil)) (methNil)) mixed (by kernel_rfl) (by kernel_rfl) zLL (by kernel_rfl) (Nat.le_of_ble_eq_true (by kernel_rfl)) (rv := zyW) (by kernel_rfl) (isFn (fn := Tryz.f120) (by kernel_rfl) (by kernel_rfl) (by kernel_rfl))
abbrev zbb := Option (LP × ((Int × Unit) × Unit))
def zgj (fuel : Nat) : Tab := Tab.of [] []
abbrev zke : List Pm := [{ cs := [(I6, false)], ag := false }]
abbrev zgk : List Pm := [{ cs := [(I6, false)], ag := false }]
def zyY : List Norm := [{ live := [5, 0, 1], fix := [] }]
noncomputable def zgl : C := irOf Tryz.prog Tryz.f170 [] zyY []
theorem zLN : lightC Tryz.prog [] Tryz.f170.ntmps zyY [] 0 (bodyOf Tryz.f170) = some (zgl, 1) := by kernel_rfl
def zgm : List (Nat × Option (Nat × Bool)) := [(4, none)]
abbrev zcy := (Int) × (Int) × LP
def zyZ (v : zcy) : Env × Heap := ([(5, SV.int .i64 v.1), (0, SV.own 0), (1, SV.int .i64 v.2.1)], [Blk.arr KP v.2.2 0])
def zgn (fuel : Nat) (g0 : zcy → zbb) (v : zcy) : zbb :=
 cond (decide (v.1 < (zz (List.length v.2.2))))
 (tst (decide (0 ≤ v.1)) <|
 tst (decide (v.1 < (zz (List.length v.2.2)))) <|
 tst (decide (Int.toNat v.1 < List.length v.2.2)) <|
 tst (decide (0 ≤ v.1)) <|
 tst (decide (v.1 < (zz (List.length (List.set v.2.2 (Int.toNat v.1) (v.2.1, (List.getD v.2.2 (Int.toNat v.1) (0, (0, ()))).2.1, ())))))) <|
 tst (decide (Int.toNat v.1 < List.length (List.set v.2.2 (Int.toNat v.1) (v.2.1, (List.getD v.2.2 (Int.toNat v.1) (0, (0, ()))).2.1, ())))) <|
 g0 (w64 (v.1 + (1 : Int)), w64 (w64 (v.2.1 + (1 : Int)) + (1 : Int)), List.set (List.set v.2.2 (Int.toNat v.1) (v.2.1, (List.getD v.2.2 (Int.toNat v.1) (0, (0, ()))).2.1, ())) (Int.toNat v.1) ((List.getD (List.set v.2.2 (Int.toNat v.1) (v.2.1, (List.getD v.2.2 (Int.toNat v.1) (0, (0, ()))).2.1, ())) (Int.toNat v.1) (0, (0, ()))).1, w64 (v.2.1 + (1 : Int)), ())))
 (some ((v.2.2, (v.2.1, ()), ())))
def zkf (fuel : Nat) (g0 : zcy → zbb) : zcy → zbb := zgn fuel g0
theorem zLO (fuel : Nat) (G) : zgl.lp (zgj fuel) 1 fuel G (endS zgm KP false zgk) 0 zyZ = iter (zkf fuel) fuel := C.lp_iter fun g v => by kernel_rfl
def zkg (fuel : Nat) (X0 : zcy → zbb) (d0 : LP) (x0 : Int) : zbb :=
 X0 ((0 : Int), x0, d0)
def zcz (fuel : Nat) (z : LP × Unit × ((Int × Unit) × Unit)) : zbb := zkg fuel (iter (zkf fuel) fuel) z.1 z.2.2.1.1
theorem zLP (fuel : Nat) (c : List (Kd.T KP)) (d : CsT []) (x : PsT zke) : run (zgj fuel) 1 fuel zgl ((0, firstV false 0 (svCs [] d)) :: env0 (svPs zke x) 1) [.arr KP c 0] (endS zgm KP false zgk) = zcz fuel (c, d, x) :=
  (show run (zgj fuel) 1 fuel zgl ((0, firstV false 0 (svCs [] d)) :: env0 (svPs zke x) 1) [.arr KP c 0] (endS zgm KP false zgk) = zkg fuel (zgl.lp (zgj fuel) 1 fuel (fun _ _ _ => none) (endS zgm KP false zgk) 0 zyZ) c x.1.1 by kernel_rfl).trans (by rw [zLO]; rfl)
def zo6 (fuel : Nat) : TFS := ⟨KP, false, [], zke, zgk, false, zcz fuel⟩
theorem zLQ (fuel : Nat) : FnSpecS Tryz.prog 170 (zo6 fuel) :=
  zlA (T := zgj fuel) (c := bodyOf Tryz.f170) (fn := Tryz.f170) (TabOK.of (entNil) (methNil)) mixed (by kernel_rfl) (by kernel_rfl) zLN (by kernel_rfl) (Nat.le_of_ble_eq_true (by kernel_rfl)) (rv := zgm) (by kernel_rfl) (zLP fuel)
theorem zLR (fuel : Nat) : EntryOK Tryz.prog 170 (zo6 fuel).te := EntryOK.tfs (zLQ fuel) (isFn (fn := Tryz.f170) (by kernel_rfl) (by kernel_rfl) (by kernel_rfl))
def zgo (fuel : Nat) : Tab := Tab.of [] []
abbrev zkh : Sh := (.nls (.cell I6 0 .nil))
abbrev zgp : Sh := (.cell I6 0 .nil)
def zy0 : List Norm := [{ live := [5, 0, 1], fix := [] }]
noncomputable def zgq : C := irOf Tryz.prog Tryz.f170 [] zy0 []
theorem zLS : lightC Tryz.prog [] Tryz.f170.ntmps zy0 [] 0 (bodyOf Tryz.f170) = some (zgq, 1) := by kernel_rfl
def zgr : List (Nat × Option (Nat × Bool)) := [(4, none)]
abbrev zcA := (Int) × (Int)
def zy1 (v : zcA) : Env × Heap := ([(5, SV.int .i64 v.1), (0, SV.nils), (1, SV.int .i64 v.2)], [])
def zLT (fuel : Nat) (g0 : zcA → Option (Int × Unit)) (v : zcA) : Option (Int × Unit) :=
 cond (decide (v.1 < (zz 0)))
 (none)
 (some ((v.2, ())))
def zy2 (fuel : Nat) (g0 : zcA → Option (Int × Unit)) : zcA → Option (Int × Unit) := zLT fuel g0
theorem zLU (fuel : Nat) (G) : zgq.lp (zgo fuel) 0 fuel G (endG zgr zgp) 0 zy1 = iter (zy2 fuel) fuel := C.lp_iter fun g v => by kernel_rfl
def zy3 (fuel : Nat) (X0 : zcA → Option (Int × Unit)) (x0 : Int) : Option (Int × Unit) :=
 X0 ((0 : Int), x0)
def zki (fuel : Nat) (x : (Int × Unit)) : Option (Int × Unit) := zy3 fuel (iter (zy2 fuel) fuel) x.1
theorem zLV (fuel : Nat) (x : Sh.T zkh) : run (zgo fuel) 0 fuel zgq (env0 (svS zkh x) 0) [] (endG zgr zgp) = zki fuel x :=
  (show run (zgo fuel) 0 fuel zgq (env0 (svS zkh x) 0) [] (endG zgr zgp) = zy3 fuel (zgq.lp (zgo fuel) 0 fuel (fun _ _ _ => none) (endG zgr zgp) 0 zy1) x.1 by kernel_rfl).trans (by rw [zLU]; rfl)
def zo7 (fuel : Nat) : TG := ⟨zkh, zgp, true, zki fuel⟩
theorem zLW (fuel : Nat) : FnSpecG Tryz.prog 170 (zo7 fuel) :=
  zd (T := zgo fuel) (c := bodyOf Tryz.f170) (fn := Tryz.f170) (TabOK.of (entNil) (methNil)) mixed (by kernel_rfl) (by kernel_rfl) zLS (by kernel_rfl) (Nat.le_of_ble_eq_true (by kernel_rfl)) (rv := zgr) (by kernel_rfl) (fun x y h => (zLV fuel x).trans h)
theorem zLX (fuel : Nat) : EntryOK Tryz.prog 170 (zo7 fuel).te := EntryOK.tg rfl (zLW fuel) (isFn (fn := Tryz.f170) (by kernel_rfl) (by kernel_rfl) (by kernel_rfl))
def zy4 (fuel : Nat) : Tab := Tab.of [(170, (zo6 fuel).te), (170, (zo7 fuel).te)] []
def zy5 : List Norm := []
noncomputable def zy6 : C := irOf Tryz.prog Tryz.f121 [] zy5 []
theorem zLY : lightC Tryz.prog [] Tryz.f121.ntmps zy5 [] 0 (bodyOf Tryz.f121) = some (zy6, 0) := by kernel_rfl
def zy7 : List (Nat × Option (Nat × Bool)) := [(4, none)]
noncomputable def zy8 (fuel : Nat) : IE := inlIE 2 (zy4 fuel) fuel zy6 zy7
theorem zLZ (fuel : Nat) : ISound Tryz.prog 121 (zy8 fuel) :=
  zx (T := zy4 fuel) (c := bodyOf Tryz.f121) (fn := Tryz.f121) (TabOK.of (entCons (zLR fuel) (entCons (zLX fuel) entNil)) (methNil)) mixed (by kernel_rfl) (by kernel_rfl) zLY (by kernel_rfl) (Nat.le_of_ble_eq_true (by kernel_rfl)) (rv := zy7) (by kernel_rfl) (isFn (fn := Tryz.f121) (by kernel_rfl) (by kernel_rfl) (by kernel_rfl))
def zgs (fuel : Nat) : Tab := Tab.of [] []
abbrev zkj : List Pm := [{ cs := [(Kd.list I6, false)], ag := false }, { cs := [(I6, false)], ag := false }]
abbrev zgt : List Pm := [{ cs := [(I6, false)], ag := false }]
def zy9 : List Norm := [{ live := [5, 0, 1], fix := [] }]
noncomputable def zgu : C := irOf Tryz.prog Tryz.f172 [] zy9 []
theorem zL0 : lightC Tryz.prog [] Tryz.f172.ntmps zy9 [] 0 (bodyOf Tryz.f172) = some (zgu, 1) := by kernel_rfl
def zgv : List (Nat × Option (Nat × Bool)) := [(4, none)]
abbrev zcB := (Int) × (List Int) × (Int)
def zza (v : zcB) : Env × Heap := ([(5, SV.int .i64 v.1), (0, SV.es I6 v.2.1), (1, SV.int .i64 v.2.2)], [])
def zgw (fuel : Nat) (g0 : zcB → Option ((Int × Unit) × Unit)) (v : zcB) : Option ((Int × Unit) × Unit) :=
 cond (decide (v.1 < (zz (List.length v.2.1))))
 (tst (decide (0 ≤ v.1)) <|
 tst (decide (v.1 < (zz (List.length v.2.1)))) <|
 cond (List.getD v.2.1 (Int.toNat v.1) 0 != v.2.2)
 (some ((((-1 : Int), ()), ())))
 (g0 (w64 (v.1 + (1 : Int)), v.2.1, w64 (v.2.2 + (1 : Int)))))
 (some (((v.2.2, ()), ())))
def zkk (fuel : Nat) (g0 : zcB → Option ((Int × Unit) × Unit)) : zcB → Option ((Int × Unit) × Unit) := zgw fuel g0
theorem zL1 (fuel : Nat) (G) : zgu.lp (zgs fuel) 0 fuel G (endF zgv zgt) 0 zza = iter (zkk fuel) fuel := C.lp_iter fun g v => by kernel_rfl
def zkl (fuel : Nat) (X0 : zcB → Option ((Int × Unit) × Unit)) (x0 : List Int) (x1 : Int) : Option ((Int × Unit) × Unit) :=
 X0 ((0 : Int), x0, x1)
def zgx (fuel : Nat) (x : (((List Int) × Unit) × ((Int × Unit) × Unit))) : Option ((Int × Unit) × Unit) := zkl fuel (iter (zkk fuel) fuel) x.1.1 x.2.1.1
theorem zL2 (fuel : Nat) (x : PsT zkj) : run (zgs fuel) 0 fuel zgu (env0 (svPs zkj x) 0) [] (endF zgv zgt) = zgx fuel x :=
  (show run (zgs fuel) 0 fuel zgu (env0 (svPs zkj x) 0) [] (endF zgv zgt) = zkl fuel (zgu.lp (zgs fuel) 0 fuel (fun _ _ _ => none) (endF zgv zgt) 0 zza) x.1.1 x.2.1.1 by kernel_rfl).trans (by rw [zL1]; rfl)
def zkm (fuel : Nat) : TF := ⟨zkj, zgt, true, zgx fuel⟩
theorem zL3 (fuel : Nat) : FnSpec Tryz.prog 172 (zkm fuel) :=
  fn_spec (T := zgs fuel) (c := bodyOf Tryz.f172) (fn := Tryz.f172) (TabOK.of (entNil) (methNil)) mixed (by kernel_rfl) (by kernel_rfl) zL0 (by kernel_rfl) (Nat.le_of_ble_eq_true (by kernel_rfl)) (rv := zgv) (by kernel_rfl) (zL2 fuel)
theorem zzb (fuel : Nat) : EntryOK Tryz.prog 172 (zkm fuel).te := EntryOK.tf rfl (zL3 fuel) (isFn (fn := Tryz.f172) (by kernel_rfl) (by kernel_rfl) (by kernel_rfl))
def zgy (fuel : Nat) : Tab := Tab.of [(172, (zkm fuel).te)] []
abbrev zkn : List Pm := [{ cs := [(Kd.list (Kd.list I6), false)], ag := false }, { cs := [(I6, false)], ag := false }]
abbrev zgz : List Pm := [{ cs := [(I6, false)], ag := false }]
def zzc : List Norm := [{ live := [5, 0, 1], fix := [] }]
noncomputable def zgA : C := irOf Tryz.prog Tryz.f171 [] zzc []
theorem zL4 : lightC Tryz.prog [] Tryz.f171.ntmps zzc [] 0 (bodyOf Tryz.f171) = some (zgA, 1) := by kernel_rfl
def zgB : List (Nat × Option (Nat × Bool)) := [(4, none)]
abbrev zcC := (Int) × (List (List Int)) × (Int)
def zzd (v : zcC) : Env × Heap := ([(5, SV.int .i64 v.1), (0, SV.es (Kd.list I6) v.2.1), (1, SV.int .i64 v.2.2)], [])
def zal (fuel : Nat) (g0 : zcC → Option ((Int × Unit) × Unit)) (v : zcC) : Option ((Int × Unit) × Unit) :=
 cond (decide (v.1 < (zz (List.length v.2.1))))
 (tst (decide (0 ≤ v.1)) <|
 tst (decide (v.1 < (zz (List.length v.2.1)))) <|
 Option.bind (zgx fuel ((List.getD v.2.1 (Int.toNat v.1) [], ()), (v.2.2, ()), ())) fun y_2 =>
 cond (decide (y_2.1.1 < (0 : Int)))
 (some ((((-1 : Int), ()), ())))
 (g0 (w64 (v.1 + (1 : Int)), v.2.1, y_2.1.1)))
 (some (((v.2.2, ()), ())))
def zo8 (fuel : Nat) (g0 : zcC → Option ((Int × Unit) × Unit)) : zcC → Option ((Int × Unit) × Unit) := zal fuel g0
theorem zL5 (fuel : Nat) (G) : zgA.lp (zgy fuel) 0 fuel G (endF zgB zgz) 0 zzd = iter (zo8 fuel) fuel := C.lp_iter fun g v => by kernel_rfl
def zko (fuel : Nat) (X0 : zcC → Option ((Int × Unit) × Unit)) (x0 : List (List Int)) (x1 : Int) : Option ((Int × Unit) × Unit) :=
 X0 ((0 : Int), x0, x1)
def zkp (fuel : Nat) (x : (((List (List Int)) × Unit) × ((Int × Unit) × Unit))) : Option ((Int × Unit) × Unit) := zko fuel (iter (zo8 fuel) fuel) x.1.1 x.2.1.1
theorem zL6 (fuel : Nat) (x : PsT zkn) : run (zgy fuel) 0 fuel zgA (env0 (svPs zkn x) 0) [] (endF zgB zgz) = zkp fuel x :=
  (show run (zgy fuel) 0 fuel zgA (env0 (svPs zkn x) 0) [] (endF zgB zgz) = zko fuel (zgA.lp (zgy fuel) 0 fuel (fun _ _ _ => none) (endF zgB zgz) 0 zzd) x.1.1 x.2.1.1 by kernel_rfl).trans (by rw [zL5]; rfl)
def zo9 (fuel : Nat) : TF := ⟨zkn, zgz, true, zkp fuel⟩
theorem zL7 (fuel : Nat) : FnSpec Tryz.prog 171 (zo9 fuel) :=
  fn_spec (T := zgy fuel) (c := bodyOf Tryz.f171) (fn := Tryz.f171) (TabOK.of (entCons (zzb fuel) entNil) (methNil)) mixed (by kernel_rfl) (by kernel_rfl) zL4 (by kernel_rfl) (Nat.le_of_ble_eq_true (by kernel_rfl)) (rv := zgB) (by kernel_rfl) (zL6 fuel)
theorem zL8 (fuel : Nat) : EntryOK Tryz.prog 171 (zo9 fuel).te := EntryOK.tf rfl (zL7 fuel) (isFn (fn := Tryz.f171) (by kernel_rfl) (by kernel_rfl) (by kernel_rfl))
def zze (fuel : Nat) : Tab := Tab.of [(171, (zo9 fuel).te)] []
abbrev zpa : List Pm := [{ cs := [(Kd.list (Kd.list I6), false)], ag := true }, { cs := [(I6, false)], ag := false }]
abbrev zzf : List Pm := [{ cs := [(I6, false)], ag := false }]
def zzg : List Norm := []
noncomputable def zzh : C := irOf Tryz.prog Tryz.f122 [] zzg []
theorem zL9 : lightC Tryz.prog [] Tryz.f122.ntmps zzg [] 0 (bodyOf Tryz.f122) = some (zzh, 0) := by kernel_rfl
def zzi : List (Nat × Option (Nat × Bool)) := [(4, none)]
def zpb (fuel : Nat) (x0 : List (List Int)) (x1 : Int) : Option ((Int × Unit) × Unit) :=
 Option.bind (zkp fuel ((x0, ()), (x1, ()), ())) fun y_1 =>
 cond (decide (y_1.1.1 < (0 : Int)))
 (some ((((-1 : Int), ()), ())))
 (some (((y_1.1.1, ()), ())))
def zkq (fuel : Nat) (x : (((List (List Int)) × Unit) × ((Int × Unit) × Unit))) : Option ((Int × Unit) × Unit) := zpb fuel x.1.1 x.2.1.1
theorem zMa (fuel : Nat) (x : PsT zpa) : run (zze fuel) 0 fuel zzh (env0 (svPs zpa x) 0) [] (endF zzi zzf) = zkq fuel x := by kernel_rfl
def zpc (fuel : Nat) : TF := ⟨zpa, zzf, true, zkq fuel⟩
theorem zMb (fuel : Nat) : FnSpec Tryz.prog 122 (zpc fuel) :=
  fn_spec (T := zze fuel) (c := bodyOf Tryz.f122) (fn := Tryz.f122) (TabOK.of (entCons (zL8 fuel) entNil) (methNil)) mixed (by kernel_rfl) (by kernel_rfl) zL9 (by kernel_rfl) (Nat.le_of_ble_eq_true (by kernel_rfl)) (rv := zzi) (by kernel_rfl) (zMa fuel)
theorem zMc (fuel : Nat) : EntryOK Tryz.prog 122 (zpc fuel).te := EntryOK.tf rfl (zMb fuel) (isFn (fn := Tryz.f122) (by kernel_rfl) (by kernel_rfl) (by kernel_rfl))
end Go.Proofs.YtdgdoeknpakmlaaGreat.Den
namespace Go.Proofs.YtdgdoeknpakmlaaGreat.Den
open Go Go.RowKit
def zzj (fuel : Nat) : Tab := Tab.of [(172, (zkm fuel).te)] []
abbrev zpd : List Pm := [{ cs := [(Kd.list I6, false)], ag := true }, { cs := [(I6, false)], ag := false }]
abbrev zzk : List Pm := [{ cs := [(I6, false)], ag := false }]
def zzl : List Norm := []
noncomputable def zzm : C := irOf Tryz.prog Tryz.f123 [] zzl []
theorem zMd : lightC Tryz.prog [] Tryz.f123.ntmps zzl [] 0 (bodyOf Tryz.f123) = some (zzm, 0) := by kernel_rfl
def zzn : List (Nat × Option (Nat × Bool)) := [(4, none)]
def zpe (fuel : Nat) (x0 : List Int) (x1 : Int) : Option ((Int × Unit) × Unit) :=
 Option.bind (zgx fuel ((x0, ()), (x1, ()), ())) fun y_1 =>
 cond (decide (y_1.1.1 < (0 : Int)))
 (some ((((-1 : Int), ()), ())))
 (some (((y_1.1.1, ()), ())))
def zkr (fuel : Nat) (x : (((List Int) × Unit) × ((Int × Unit) × Unit))) : Option ((Int × Unit) × Unit) := zpe fuel x.1.1 x.2.1.1
theorem zMe (fuel : Nat) (x : PsT zpd) : run (zzj fuel) 0 fuel zzm (env0 (svPs zpd x) 0) [] (endF zzn zzk) = zkr fuel x := by kernel_rfl
def zpf (fuel : Nat) : TF := ⟨zpd, zzk, true, zkr fuel⟩
theorem zMf (fuel : Nat) : FnSpec Tryz.prog 123 (zpf fuel) :=
  fn_spec (T := zzj fuel) (c := bodyOf Tryz.f123) (fn := Tryz.f123) (TabOK.of (entCons (zzb fuel) entNil) (methNil)) mixed (by kernel_rfl) (by kernel_rfl) zMd (by kernel_rfl) (Nat.le_of_ble_eq_true (by kernel_rfl)) (rv := zzn) (by kernel_rfl) (zMe fuel)
theorem zMg (fuel : Nat) : EntryOK Tryz.prog 123 (zpf fuel).te := EntryOK.tf rfl (zMf fuel) (isFn (fn := Tryz.f123) (by kernel_rfl) (by kernel_rfl) (by kernel_rfl))
def zgC (fuel : Nat) : Tab := Tab.of [] []
abbrev zks : List Pm := [{ cs := [(Kd.list KP, false)], ag := false }, { cs := [(I6, false)], ag := false }]
abbrev zgD : List Pm := [{ cs := [(I6, false)], ag := false }]
def zzo : List Norm := [{ live := [5, 0, 1], fix := [] }]
noncomputable def zgE : C := irOf Tryz.prog Tryz.f173 [] zzo []
theorem zMh : lightC Tryz.prog [] Tryz.f173.ntmps zzo [] 0 (bodyOf Tryz.f173) = some (zgE, 1) := by kernel_rfl
def zgF : List (Nat × Option (Nat × Bool)) := [(4, none)]
abbrev zcD := (Int) × LP × (Int)
def zzp (v : zcD) : Env × Heap := ([(5, SV.int .i64 v.1), (0, SV.es KP v.2.1), (1, SV.int .i64 v.2.2)], [])
def zgG (fuel : Nat) (g0 : zcD → Option ((Int × Unit) × Unit)) (v : zcD) : Option ((Int × Unit) × Unit) :=
 cond (decide (v.1 < (zz (List.length v.2.1))))
 (tst (decide (0 ≤ v.1)) <|
 tst (decide (v.1 < (zz (List.length v.2.1)))) <|
 cond ((List.getD v.2.1 (Int.toNat v.1) (0, (0, ()))).1 != v.2.2)
 (some ((((-1 : Int), ()), ())))
 (tst (decide (0 ≤ v.1)) <|
 tst (decide (v.1 < (zz (List.length v.2.1)))) <|
 cond ((List.getD v.2.1 (Int.toNat v.1) (0, (0, ()))).2.1 != w64 (v.2.2 + (1 : Int)))
 (some ((((-1 : Int), ()), ())))
 (g0 (w64 (v.1 + (1 : Int)), v.2.1, w64 (w64 (v.2.2 + (1 : Int)) + (1 : Int))))))
 (some (((v.2.2, ()), ())))
def zkt (fuel : Nat) (g0 : zcD → Option ((Int × Unit) × Unit)) : zcD → Option ((Int × Unit) × Unit) := zgG fuel g0
theorem zMi (fuel : Nat) (G) : zgE.lp (zgC fuel) 0 fuel G (endF zgF zgD) 0 zzp = iter (zkt fuel) fuel := C.lp_iter fun g v => by kernel_rfl
def zku (fuel : Nat) (X0 : zcD → Option ((Int × Unit) × Unit)) (x0 : LP) (x1 : Int) : Option ((Int × Unit) × Unit) :=
 X0 ((0 : Int), x0, x1)
def zkv (fuel : Nat) (x : ((LP × Unit) × ((Int × Unit) × Unit))) : Option ((Int × Unit) × Unit) := zku fuel (iter (zkt fuel) fuel) x.1.1 x.2.1.1
theorem zMj (fuel : Nat) (x : PsT zks) : run (zgC fuel) 0 fuel zgE (env0 (svPs zks x) 0) [] (endF zgF zgD) = zkv fuel x :=
  (show run (zgC fuel) 0 fuel zgE (env0 (svPs zks x) 0) [] (endF zgF zgD) = zku fuel (zgE.lp (zgC fuel) 0 fuel (fun _ _ _ => none) (endF zgF zgD) 0 zzp) x.1.1 x.2.1.1 by kernel_rfl).trans (by rw [zMi]; rfl)
def zpg (fuel : Nat) : TF := ⟨zks, zgD, true, zkv fuel⟩
theorem zMk (fuel : Nat) : FnSpec Tryz.prog 173 (zpg fuel) :=
  fn_spec (T := zgC fuel) (c := bodyOf Tryz.f173) (fn := Tryz.f173) (TabOK.of (entNil) (methNil)) mixed (by kernel_rfl) (by kernel_rfl) zMh (by kernel_rfl) (Nat.le_of_ble_eq_true (by kernel_rfl)) (rv := zgF) (by kernel_rfl) (zMj fuel)
theorem zMl (fuel : Nat) : EntryOK Tryz.prog 173 (zpg fuel).te := EntryOK.tf rfl (zMk fuel) (isFn (fn := Tryz.f173) (by kernel_rfl) (by kernel_rfl) (by kernel_rfl))
def zzq (fuel : Nat) : Tab := Tab.of [(173, (zpg fuel).te)] []
abbrev zph : List Pm := [{ cs := [(Kd.list KP, false), (I6, false), (I6, false)], ag := true }, { cs := [(I6, false)], ag := false }]
abbrev zzr : List Pm := [{ cs := [(I6, false)], ag := false }]
def zzs : List Norm := []
noncomputable def zzt : C := irOf Tryz.prog Tryz.f124 [] zzs []
theorem zMm : lightC Tryz.prog [] Tryz.f124.ntmps zzs [] 0 (bodyOf Tryz.f124) = some (zzt, 0) := by kernel_rfl
def zzu : List (Nat × Option (Nat × Bool)) := [(4, none)]
def zpi (fuel : Nat) (x0 : LP) (x1 : Int) (x2 : Int) (x3 : Int) : Option ((Int × Unit) × Unit) :=
 Option.bind (zkv fuel ((x0, ()), (x3, ()), ())) fun y_1 =>
 cond (decide (y_1.1.1 < (0 : Int)))
 (some ((((-1 : Int), ()), ())))
 (some (((y_1.1.1, ()), ())))
def zkw (fuel : Nat) (x : ((LP × (Int × (Int × Unit))) × ((Int × Unit) × Unit))) : Option ((Int × Unit) × Unit) := zpi fuel x.1.1 x.1.2.1 x.1.2.2.1 x.2.1.1
theorem zMn (fuel : Nat) (x : PsT zph) : run (zzq fuel) 0 fuel zzt (env0 (svPs zph x) 0) [] (endF zzu zzr) = zkw fuel x := by kernel_rfl
def zpj (fuel : Nat) : TF := ⟨zph, zzr, true, zkw fuel⟩
theorem zMo (fuel : Nat) : FnSpec Tryz.prog 124 (zpj fuel) :=
  fn_spec (T := zzq fuel) (c := bodyOf Tryz.f124) (fn := Tryz.f124) (TabOK.of (entCons (zMl fuel) entNil) (methNil)) mixed (by kernel_rfl) (by kernel_rfl) zMm (by kernel_rfl) (Nat.le_of_ble_eq_true (by kernel_rfl)) (rv := zzu) (by kernel_rfl) (zMn fuel)
theorem zMp (fuel : Nat) : EntryOK Tryz.prog 124 (zpj fuel).te := EntryOK.tf rfl (zMo fuel) (isFn (fn := Tryz.f124) (by kernel_rfl) (by kernel_rfl) (by kernel_rfl))
def zgH (fuel : Nat) : Tab := Tab.of [] []
abbrev zkx : List Pm := [{ cs := [(Kd.list KP, false)], ag := false }, { cs := [(I6, false)], ag := false }]
abbrev zgI : List Pm := [{ cs := [(I6, false)], ag := false }]
def zzv : List Norm := [{ live := [5, 0, 1], fix := [] }]
noncomputable def zgJ : C := irOf Tryz.prog Tryz.f174 [] zzv []
theorem zMq : lightC Tryz.prog [] Tryz.f174.ntmps zzv [] 0 (bodyOf Tryz.f174) = some (zgJ, 1) := by kernel_rfl
def zgK : List (Nat × Option (Nat × Bool)) := [(4, none)]
abbrev zcE := (Int) × LP × (Int)
def zzw (v : zcE) : Env × Heap := ([(5, SV.int .i64 v.1), (0, SV.es KP v.2.1), (1, SV.int .i64 v.2.2)], [])
def zgL (fuel : Nat) (g0 : zcE → Option ((Int × Unit) × Unit)) (v : zcE) : Option ((Int × Unit) × Unit) :=
 cond (decide (v.1 < (zz (List.length v.2.1))))
 (tst (decide (0 ≤ v.1)) <|
 tst (decide (v.1 < (zz (List.length v.2.1)))) <|
 cond ((List.getD v.2.1 (Int.toNat v.1) (0, (0, ()))).1 != v.2.2)
 (some ((((-1 : Int), ()), ())))
 (tst (decide (0 ≤ v.1)) <|
 tst (decide (v.1 < (zz (List.length v.2.1)))) <|
 cond ((List.getD v.2.1 (Int.toNat v.1) (0, (0, ()))).2.1 != w64 (v.2.2 + (1 : Int)))
 (some ((((-1 : Int), ()), ())))
 (g0 (w64 (v.1 + (1 : Int)), v.2.1, w64 (w64 (v.2.2 + (1 : Int)) + (1 : Int))))))
 (some (((v.2.2, ()), ())))
def zky (fuel : Nat) (g0 : zcE → Option ((Int × Unit) × Unit)) : zcE → Option ((Int × Unit) × Unit) := zgL fuel g0
theorem zMr (fuel : Nat) (G) : zgJ.lp (zgH fuel) 0 fuel G (endF zgK zgI) 0 zzw = iter (zky fuel) fuel := C.lp_iter fun g v => by kernel_rfl
def zkz (fuel : Nat) (X0 : zcE → Option ((Int × Unit) × Unit)) (x0 : LP) (x1 : Int) : Option ((Int × Unit) × Unit) :=
 X0 ((0 : Int), x0, x1)
def zkA (fuel : Nat) (x : ((LP × Unit) × ((Int × Unit) × Unit))) : Option ((Int × Unit) × Unit) := zkz fuel (iter (zky fuel) fuel) x.1.1 x.2.1.1
theorem zMs (fuel : Nat) (x : PsT zkx) : run (zgH fuel) 0 fuel zgJ (env0 (svPs zkx x) 0) [] (endF zgK zgI) = zkA fuel x :=
  (show run (zgH fuel) 0 fuel zgJ (env0 (svPs zkx x) 0) [] (endF zgK zgI) = zkz fuel (zgJ.lp (zgH fuel) 0 fuel (fun _ _ _ => none) (endF zgK zgI) 0 zzw) x.1.1 x.2.1.1 by kernel_rfl).trans (by rw [zMr]; rfl)
def zpk (fuel : Nat) : TF := ⟨zkx, zgI, true, zkA fuel⟩
theorem zMt (fuel : Nat) : FnSpec Tryz.prog 174 (zpk fuel) :=
  fn_spec (T := zgH fuel) (c := bodyOf Tryz.f174) (fn := Tryz.f174) (TabOK.of (entNil) (methNil)) mixed (by kernel_rfl) (by kernel_rfl) zMq (by kernel_rfl) (Nat.le_of_ble_eq_true (by kernel_rfl)) (rv := zgK) (by kernel_rfl) (zMs fuel)
theorem zMu (fuel : Nat) : EntryOK Tryz.prog 174 (zpk fuel).te := EntryOK.tf rfl (zMt fuel) (isFn (fn := Tryz.f174) (by kernel_rfl) (by kernel_rfl) (by kernel_rfl))
def zzx (fuel : Nat) : Tab := Tab.of [(174, (zpk fuel).te)] []
abbrev zpl : List Pm := [{ cs := [(Kd.list KP, false), (I6, false)], ag := true }, { cs := [(I6, false)], ag := false }]
abbrev zzy : List Pm := [{ cs := [(I6, false)], ag := false }]
def zzz : List Norm := []
noncomputable def zzA : C := irOf Tryz.prog Tryz.f125 [] zzz []
theorem zMv : lightC Tryz.prog [] Tryz.f125.ntmps zzz [] 0 (bodyOf Tryz.f125) = some (zzA, 0) := by kernel_rfl
def zzB : List (Nat × Option (Nat × Bool)) := [(4, none)]
def zpm (fuel : Nat) (x0 : LP) (x1 : Int) (x2 : Int) : Option ((Int × Unit) × Unit) :=
 Option.bind (zkA fuel ((x0, ()), (x2, ()), ())) fun y_1 =>
 cond (decide (y_1.1.1 < (0 : Int)))
 (some ((((-1 : Int), ()), ())))
 (some (((y_1.1.1, ()), ())))
def zkB (fuel : Nat) (x : ((LP × (Int × Unit)) × ((Int × Unit) × Unit))) : Option ((Int × Unit) × Unit) := zpm fuel x.1.1 x.1.2.1 x.2.1.1
theorem zMw (fuel : Nat) (x : PsT zpl) : run (zzx fuel) 0 fuel zzA (env0 (svPs zpl x) 0) [] (endF zzB zzy) = zkB fuel x := by kernel_rfl
def zpn (fuel : Nat) : TF := ⟨zpl, zzy, true, zkB fuel⟩
theorem zMx (fuel : Nat) : FnSpec Tryz.prog 125 (zpn fuel) :=
  fn_spec (T := zzx fuel) (c := bodyOf Tryz.f125) (fn := Tryz.f125) (TabOK.of (entCons (zMu fuel) entNil) (methNil)) mixed (by kernel_rfl) (by kernel_rfl) zMv (by kernel_rfl) (Nat.le_of_ble_eq_true (by kernel_rfl)) (rv := zzB) (by kernel_rfl) (zMw fuel)
theorem zMy (fuel : Nat) : EntryOK Tryz.prog 125 (zpn fuel).te := EntryOK.tf rfl (zMx fuel) (isFn (fn := Tryz.f125) (by kernel_rfl) (by kernel_rfl) (by kernel_rfl))
def zzC (fuel : Nat) : Tab := Tab.of [(122, (zpc fuel).te), (123, (zpf fuel).te), (124, (zpj fuel).te), (125, (zpn fuel).te)] []
abbrev zpo : List Pm := [{ cs := [(Kd.list (Kd.list I6), false), (Kd.list I6, false), (Kd.list KP, false), (I6, false), (I6, false), (Kd.list KP, false), (I6, false)], ag := true }, { cs := [(I6, false)], ag := false }]
abbrev zzD : List Pm := [{ cs := [(I6, false)], ag := false }]
def zzE : List Norm := []
noncomputable def zzF : C := irOf Tryz.prog Tryz.f73 [] zzE []
theorem zMz : lightC Tryz.prog [] Tryz.f73.ntmps zzE [] 0 (bodyOf Tryz.f73) = some (zzF, 0) := by kernel_rfl
def zzG : List (Nat × Option (Nat × Bool)) := [(4, none)]
def zpp (fuel : Nat) (x0 : List (List Int)) (x1 : List Int) (x2 : LP) (x3 : Int) (x4 : Int) (x5 : LP) (x6 : Int) (x7 : Int) : Option ((Int × Unit) × Unit) :=
 Option.bind (zkq fuel ((x0, ()), (x7, ()), ())) fun y_1 =>
 cond (decide (y_1.1.1 < (0 : Int)))
 (some ((((-1 : Int), ()), ())))
 (Option.bind (zkr fuel ((x1, ()), (y_1.1.1, ()), ())) fun y_3 =>
 cond (decide (y_3.1.1 < (0 : Int)))
 (some ((((-1 : Int), ()), ())))
 (Option.bind (zkw fuel ((x2, x3, x4, ()), (y_3.1.1, ()), ())) fun y_5 =>
 cond (decide (y_5.1.1 < (0 : Int)))
 (some ((((-1 : Int), ()), ())))
 (Option.bind (zkB fuel ((x5, x6, ()), (y_5.1.1, ()), ())) fun y_7 =>
 cond (decide (y_7.1.1 < (0 : Int)))
 (some ((((-1 : Int), ()), ())))
 (some (((y_7.1.1, ()), ()))))))
def zaF (fuel : Nat) (x : (SumY × ((Int × Unit) × Unit))) : Option ((Int × Unit) × Unit) := zpp fuel x.1.1 x.1.2.1 x.1.2.2.1 x.1.2.2.2.1 x.1.2.2.2.2.1 x.1.2.2.2.2.2.1 x.1.2.2.2.2.2.2.1 x.2.1.1
theorem zMA (fuel : Nat) (x : PsT zpo) : run (zzC fuel) 0 fuel zzF (env0 (svPs zpo x) 0) [] (endF zzG zzD) = zaF fuel x := by kernel_rfl
def zkC (fuel : Nat) : TF := ⟨zpo, zzD, true, zaF fuel⟩
theorem zMB (fuel : Nat) : FnSpec Tryz.prog 73 (zkC fuel) :=
  fn_spec (T := zzC fuel) (c := bodyOf Tryz.f73) (fn := Tryz.f73) (TabOK.of (entCons (zMc fuel) (entCons (zMg fuel) (entCons (zMp fuel) (entCons (zMy fuel) entNil)))) (methNil)) mixed (by kernel_rfl) (by kernel_rfl) zMz (by kernel_rfl) (Nat.le_of_ble_eq_true (by kernel_rfl)) (rv := zzG) (by kernel_rfl) (zMA fuel)
theorem zzH (fuel : Nat) : EntryOK Tryz.prog 73 (zkC fuel).te := EntryOK.tf rfl (zMB fuel) (isFn (fn := Tryz.f73) (by kernel_rfl) (by kernel_rfl) (by kernel_rfl))
end Go.Proofs.YtdgdoeknpakmlaaGreat.Den
namespace Go.Proofs.YtdgdoeknpakmlaaGreat.Den
open Go Go.RowKit
abbrev aR (y : List Int) : Blk := .arr I6 y 0
theorem rowsAt (c : Blk) (ys : List (List Int)) {i : Nat} (h : i < ys.length) : (c :: ys.map aR)[1 + i]? = some (aR (ys[i])) := by
  rw [Nat.add_comm, List.getElem?_cons_succ, List.getElem?_map, List.getElem?_eq_getElem h]; rfl
def owns (a : Nat) : Nat → List SV
  | 0 => []
  | n + 1 => .own a :: owns (a + 1) n
theorem zaO : ∀ {n a : Nat}, (owns a n).length = n
  | 0, _ => rfl
  | n + 1, a => by simp [owns, zaO]
theorem zqY : ∀ {n a i : Nat}, i < n → (owns a n)[i]? = some (.own (a + i))
  | n + 1, a, 0, _ => rfl
  | n + 1, a, i + 1, h => by
    rw [owns, List.getElem?_cons_succ, zqY (by omega)]
    congr 2; omega
theorem zqZ : ∀ {n a : Nat}, SV.refsL (owns a n) = List.range' a n
  | 0, _ => rfl
  | n + 1, a => by simp [owns, SV.refsL, SV.refs, zqZ, List.range'_succ]
theorem zDd : ∀ {n a : Nat}, owns a n ++ [.own (a + n)] = owns a (n + 1)
  | 0, _ => rfl
  | n + 1, a => by
    rw [owns, List.cons_append, show a + (n + 1) = a + 1 + n by omega, zDd]; rfl
theorem zDe : ∀ {n : Nat}, SV.refsL (List.replicate n .nils) = []
  | 0 => rfl
  | n + 1 => by rw [List.replicate_succ]; simp [SV.refsL, SV.refs, zDe]
theorem zDf : ∀ {a b : List SV}, SV.refsL (a ++ b) = SV.refsL a ++ SV.refsL b
  | [], b => rfl
  | c :: a, b => by simp [SV.refsL, zDf]
theorem zDg {f : Nat → Option Nat} : ∀ {a b : List SV}, SV.renL f (a ++ b) = SV.renL f a ++ SV.renL f b
  | [], b => rfl
  | c :: a, b => by simp [SV.renL, zDg]
theorem zq0 {f : Nat → Option Nat} : ∀ {n a : Nat}, (∀ i, i < a + n → f i = some i) → SV.renL f (owns a n) = owns a n
  | 0, _, _ => rfl
  | n + 1, a, h => by
    rw [owns, SV.renL, zq0 (fun i hi => h i (by omega))]
    simp [SV.ren, h a (by omega)]
theorem zDh {f : Nat → Option Nat} : ∀ {n : Nat}, SV.renL f (List.replicate n .nils) = List.replicate n .nils
  | 0 => rfl
  | n + 1 => by rw [List.replicate_succ, SV.renL, zDh]; simp [SV.ren]
theorem zDi : ∀ {n a β k : Nat}, a ≤ β → β < a + n → idxIn β (List.range' a n) k = some (k + (β - a))
  | 0, a, β, k, h1, h2 => by omega
  | n + 1, a, β, k, h1, h2 => by
    rw [List.range'_succ, idxIn]
    by_cases e : a = β
    · subst e
      simp
    · rw [show Nat.beq a β = false by cases hb : Nat.beq a β with
        | false => rfl
        | true => exact absurd (Nat.eq_of_beq_eq_true hb) e, cond_false, zDi (by omega) (by omega)]
      congr 1; omega
theorem blt0 (n : Nat) : Nat.blt n 0 = false := rfl
theorem zPG {n β : Nat} (h : β < n) : renF 0 (List.range' 0 n) β = some β := by
  unfold renF
  rw [blt0, cond_false, zDi (Nat.zero_le _) (by omega)]
  simp
theorem zDj : ∀ {n a : Nat}, nodupB (List.range' a n) = true
  | 0, _ => rfl
  | n + 1, a => by
    rw [List.range'_succ, nodupB, zDj, Bool.and_true, Bool.not_eq_true', List.contains_eq_mem]
    simp only [decide_eq_false_iff_not, List.mem_range'_1]
    omega
theorem zDk (H : Heap) : ∀ (m a : Nat) (fuel : Nat), 0 < a → (∀ i, i < m → ∃ y, H[a + i]? = some (aR y)) → gcOrder 0 H (fuel + m) (List.range' a m) (List.range' 0 a) = List.range' 0 (a + m)
  | 0, a, fuel, _, _ => by
    cases fuel with
    | zero => rfl
    | succ f => rfl
  | m + 1, a, fuel, h0, h => by
    obtain ⟨y, hy⟩ := h 0 (by omega)
    rw [Nat.add_zero] at hy
    rw [show fuel + (m + 1) = (fuel + m) + 1 by omega, List.range'_succ, gcOrder]
    have h1 : (Nat.blt a 0 || (List.range' 0 a).contains a) = false := by
      rw [blt0, Bool.false_or, List.contains_eq_mem]
      simp
    rw [h1, cond_false, hy]
    simp only [Blk.refs, List.append_nil]
    have h2 : List.range' 0 a ++ [a] = List.range' 0 (a + 1) := by
      rw [List.range'_concat]; simp
    rw [h2, zDk H m (a + 1) fuel (by omega) (fun i hi => by
      obtain ⟨y, h3⟩ := h (i + 1) (by omega)
      exact ⟨y, by rw [← h3]; congr 1; omega⟩)]
    congr 1; omega
theorem zPH {m : Nat} (h : m + 1 ≤ 4294967296) : ∃ f, LIM = (f + m) + 1 := ⟨4294967296 - m - 1, by show 4294967296 = _; omega⟩
theorem gc_of {n0 : Nat} {τ : Env} {H : Heap} {σ : List Nat} (h : gcOrder n0 H LIM (τ.flatMap (fun p => p.2.refs) ++ (H.take n0).flatMap Blk.refs) [] = σ)
    (hc : (nodupB σ && (σ.all (fun β => Nat.ble n0 β && Nat.blt β H.length) && Nat.ble n0 H.length)) = true) :
    gc n0 τ H = some (τ.map (fun p => (p.1, p.2.ren (renF n0 σ))), (H.take n0).map (Blk.ren (renF n0 σ)) ++ σ.map (fun β => match H[β]? with | some x => x.ren (renF n0 σ) | none => .dead)) := by
  unfold gc
  simp only [h]
  rw [hc]; rfl
abbrev rowsH (ys : List (List Int)) (m : Nat) (t : Nat) : Heap := .cells (owns 1 ys.length ++ List.replicate m .nils) t 1 :: ys.map aR
theorem gc_rows {xss : List (List Int)} {ys : List (List Int)} {m t : Nat} {n : Int} (hl : ys.length + 1 ≤ 4294967295) :
    gc 0 [(4, .int .i64 n), (0, .es (.list I6) xss), (3, .own 0)] (rowsH ys m t) = some ([(4, .int .i64 n), (0, .es (.list I6) xss), (3, .own 0)], rowsH ys m 0) := by
  have hord : gcOrder 0 (rowsH ys m t) LIM [0] [] = List.range' 0 (ys.length + 1) := by
    obtain ⟨f, hf⟩ := zPH (m := ys.length) (by omega)
    rw [hf, gcOrder]
    have h1 : (Nat.blt 0 0 || ([] : List Nat).contains 0) = false := rfl
    rw [h1, cond_false]
    show gcOrder 0 (rowsH ys m t) (f + ys.length) ([] ++ SV.refsL (owns 1 ys.length ++ List.replicate m .nils)) [0] = _
    rw [zDf, zqZ, zDe, List.append_nil, List.nil_append]
    have h2 := zDk (rowsH ys m t) ys.length 1 f (by omega) (fun i hi => ⟨_, rowsAt _ ys hi⟩)
    rw [Nat.add_comm 1] at h2
    exact h2
  have hc : (nodupB (List.range' 0 (ys.length + 1)) && ((List.range' 0 (ys.length + 1)).all (fun β => Nat.ble 0 β && Nat.blt β (rowsH ys m t).length) && Nat.ble 0 (rowsH ys m t).length)) = true := by
    rw [zDj, Bool.true_and, Bool.and_eq_true, List.all_eq_true]
    refine ⟨fun β hβ => ?_, by simp⟩
    have := List.mem_range'_1.1 hβ
    simp [Nat.ble_eq, Nat.blt_eq]; omega
  have hren : ∀ β, β < ys.length + 1 → renF 0 (List.range' 0 (ys.length + 1)) β = some β := fun β h => zPG h
  have e1 : (List.range' 0 (ys.length + 1)).map (fun β => match (rowsH ys m t)[β]? with | some x => x.ren (renF 0 (List.range' 0 (ys.length + 1))) | none => .dead) = rowsH ys m 0 := by
    refine List.ext_getElem? fun i => ?_
    rw [List.getElem?_map]
    rcases Nat.lt_or_ge i (ys.length + 1) with h | h
    · rw [List.getElem?_range' h]
      simp only [Nat.zero_add, Nat.one_mul, Option.map_some]
      cases i with
      | zero =>
        simp only [List.getElem?_cons_zero, Blk.ren]
        rw [zDg, zq0 (fun j hj => hren j (by omega)), zDh]
      | succ i =>
        have hi : i < ys.length := by omega
        rw [Nat.add_comm i 1, rowsAt _ ys hi, rowsAt _ ys hi]; rfl
    · rw [List.getElem?_eq_none (by simpa using h), List.getElem?_eq_none (by simpa using h)]; rfl
  have h0 := hren 0 (by omega)
  rw [gc_of (σ := List.range' 0 (ys.length + 1)) hord hc, e1]
  simp only [List.map_cons, List.map_nil, SV.ren, h0, List.take_zero, List.nil_append]
def zZ (fuel : Nat) : Tab := Tab.of [(68, (zco fuel).te)] []
def zMC : List Norm := [{ live := [4, 0, 3], fix := [] }]
abbrev zcF : C := C.seq (C.seq (C.reg false [{ d := some 8, g := none, i := I.mv (S.t 4) }, { d := some 9, g := none, i := I.mv (S.t 0) }, { d := some 10, g := none, i := I.len (S.t 9) }, { d := some 11, g := none, i := I.bin BinOp.lss (S.t 8) (S.t 10) }]) (C.cnd (S.t 11) C.skip (C.exit 0))) (C.seq (C.blk 1 (C.reg false [{ d := some 14, g := none, i := I.mv (S.t 3) }, { d := some 15, g := none, i := I.mv (S.t 4) }, { d := some 16, g := none, i := I.mv (S.t 0) }, { d := some 17, g := none, i := I.mv (S.t 4) }, { d := some 18, g := none, i := I.ia 1 (S.t 16) (S.t 17) }, { d := some 19, g := none, i := I.ld 1 false (S.t 18) }, { d := some 20, g := none, i := I.call 68 [S.t 19] }, { d := some 21, g := none, i := I.ia 1 (S.t 14) (S.t 15) }, { d := none, g := none, i := I.st 1 (S.t 21) (S.t 20) }])) (C.reg false [{ d := some 12, g := none, i := I.mv (S.t 4) }, { d := some 13, g := none, i := I.bin BinOp.add (S.t 12) (S.c (SV.int .i64 (Int.ofNat 1))) }, { d := some 4, g := none, i := I.mv (S.t 13) }]))
abbrev zcG : Norm := { live := [4, 0, 3], fix := [] }
def zpq : C := C.seq (C.reg false [{ d := some 2, g := none, i := I.mv (S.c SV.nils) }]) (C.seq (C.reg false [{ d := some 5, g := none, i := I.mv (S.t 0) }, { d := some 6, g := none, i := I.len (S.t 5) }, { d := some 7, g := none, i := I.mk none [SV.nils] 23 (S.t 6) (some (S.t 6)) }, { d := some 3, g := none, i := I.mv (S.t 7) }]) (C.seq (C.seq (C.reg false [{ d := some 4, g := none, i := I.mv (S.c (SV.int .i64 (Int.ofNat 0))) }]) (C.blk 0 (C.loop zcG zcF))) (C.seq (C.reg false [{ d := some 22, g := none, i := I.mv (S.t 3) }, { d := some 2, g := none, i := I.mv (S.t 22) }]) C.ret)))
theorem zMD : lightC Tryz.prog [7] Tryz.f179.ntmps zMC [] 0 (bodyOf Tryz.f179) = some (zpq, 1) := by kernel_rfl
def zcH : List (Nat × Option (Nat × Bool)) := [(2, none)]
def zbc (fuel : Nat) (x : ((List (List Int)) × Unit)) : Option (List (List Int)) :=
  if x.1.length ≤ 1048576 ∧ ∀ r ∈ x.1, zY fuel ((r, ()), ()) = some ((r, ()), ()) then some x.1 else none
abbrev zpr : Sh := .cell (.list (.list I6)) 0 .nil
def zps (fuel : Nat) : TR := ⟨zpr, I6, zbc fuel⟩
theorem zzI (fuel f2 : Nat) (R : Type) (i : Int) (xss : List (List Int)) (cs : List SV) (Rs : Heap) (K : Ex → Env → Heap → Option R) :
    run (zZ fuel) 0 f2 zcF [(4, .int .i64 i), (0, .es (.list I6) xss), (3, .own 0)] (.cells cs 0 1 :: Rs) K =
    cond (decide (i < (zz xss.length)))
      (tst (decide (0 ≤ i)) <| tst (decide (i < (zz xss.length))) <| Option.bind (zY fuel ((xss.getD i.toNat [], ()), ())) fun y =>
        tst (decide (0 ≤ i)) <| tst (decide (i < (zz (cs.length / 1)))) <| if i.toNat * 1 + 1 ≤ cs.length ∧ [SV.own (Rs.length + 1)].all SV.oneB = true then
          K .normal [(4, .int .i64 (w64 (i + 1))), (13, .int .i64 (w64 (i + 1))), (12, .int .i64 i), (21, .ptr 0 (i.toNat * 1)), (20, .own (Rs.length + 1)), (19, .es I6 (xss.getD i.toNat [])), (18, .eptr (.list I6) (xss.getD i.toNat []) 0), (17, .int .i64 i), (16, .es (.list I6) xss), (15, .int .i64 i), (14, .own 0), (11, .bool (decide (i < (zz xss.length)))), (10, .int .i64 (zz xss.length)), (9, .es (.list I6) xss), (8, .int .i64 i), (4, .int .i64 i), (0, .es (.list I6) xss), (3, .own 0)] (.cells (setCells cs (i.toNat * 1) [.own (Rs.length + 1)]) 0 1 :: (Rs ++ [aR y.1.1]))
        else none)
      (K (.exit 0) [(11, .bool (decide (i < (zz xss.length)))), (10, .int .i64 (zz xss.length)), (9, .es (.list I6) xss), (8, .int .i64 i), (4, .int .i64 i), (0, .es (.list I6) xss), (3, .own 0)] (.cells cs 0 1 :: Rs)) := by
  kernel_rfl
theorem zz_cast (n : Nat) : zz n = (n : Int) := rfl
theorem w64_up2 {n : Nat} (h : n ≤ 1048576) : w64 ((n : Int) + 1) = ((n + 1 : Nat) : Int) := by
  rw [w64_up (show n < 4294967296 by omega)]
theorem zPI {i k : Nat} : setCells (owns 1 i ++ List.replicate (k + 1) .nils) (i * 1) [.own (i + 1)] = owns 1 (i + 1) ++ List.replicate k .nils := by
  unfold setCells
  have h1 : (owns 1 i ++ List.replicate (k + 1) SV.nils).take (i * 1) = owns 1 i := by
    rw [Nat.mul_one, List.take_append_of_le_length (by rw [zaO]; exact Nat.le_refl _), List.take_of_length_le (by rw [zaO]; exact Nat.le_refl _)]
  have h2 : (owns 1 i ++ List.replicate (k + 1) SV.nils).drop (i * 1 + [SV.own (i + 1)].length) = List.replicate k .nils := by
    rw [Nat.mul_one, show i + [SV.own (i + 1)].length = (owns 1 i).length + 1 by rw [zaO]; rfl, List.drop_append, List.drop_of_length_le (by omega)]
    simp [List.replicate_succ]
  rw [h1, h2, ← zDd, Nat.add_comm i 1]
  simp
theorem zDl (fuel f2 : Nat) {R : Type} (xss : List (List Int)) (hx : ∀ r ∈ xss, zY fuel ((r, ()), ()) = some ((r, ()), ())) (hl : xss.length ≤ 1048576) (K : Ex → Env → Heap → Option R) :
    ∀ (k i : Nat), i + k = xss.length → ∃ τ, Tm.get τ 3 = .own 0 ∧ loopN (run (zZ fuel) 0 f2 zcF) 0 zcG (k + 1) [(4, .int .i64 (i : Int)), (0, .es (.list I6) xss), (3, .own 0)] (rowsH (xss.take i) k 0) K =
      K (.exit 0) τ (rowsH xss 0 0)
  | 0, i, hi => by
    refine ⟨[(11, .bool false), (10, .int .i64 (zz xss.length)), (9, .es (.list I6) xss), (8, .int .i64 i), (4, .int .i64 i), (0, .es (.list I6) xss), (3, .own 0)], rfl, ?_⟩
    rw [loopN]
    refine (zzI fuel f2 R i xss _ _ _).trans ?_
    have h1 : decide ((i : Int) < zz xss.length) = false := by rw [zz_cast]; simp; omega
    rw [h1, cond_false, List.take_of_length_le (by omega)]
    rfl
  | k + 1, i, hi => by
    have hlt : i < xss.length := by omega
    obtain ⟨τ, h3, ih⟩ := zDl fuel f2 xss hx hl K k (i + 1) (by omega)
    refine ⟨τ, h3, ?_⟩
    rw [loopN]
    refine (zzI fuel f2 R i xss _ _ _).trans ?_
    have h1 : decide ((i : Int) < zz xss.length) = true := by rw [zz_cast]; simp; omega
    have h2 : decide ((0 : Int) ≤ (i : Int)) = true := by simp
    have hg : xss.getD i [] = xss[i] := by rw [List.getD_eq_getElem?_getD, List.getElem?_eq_getElem hlt]; rfl
    have hcl : (owns 1 (xss.take i).length ++ List.replicate (k + 1) SV.nils).length = xss.length := by
      rw [List.length_append, zaO, List.length_replicate, List.length_take]; omega
    have h4 : decide ((i : Int) < zz ((owns 1 (xss.take i).length ++ List.replicate (k + 1) SV.nils).length / 1)) = true := by
      rw [hcl, Nat.div_one]; exact h1
    rw [h1, cond_true, h2, h4]
    simp only [cond_true, Int.toNat_natCast, hg, hx _ (List.getElem_mem hlt), Option.bind_some]
    rw [if_pos ⟨by rw [hcl]; omega, rfl⟩]
    have htl : (xss.take i).length = i := by rw [List.length_take]; omega
    have htk : xss.take i ++ [xss[i]] = xss.take (i + 1) := by rw [List.take_succ_eq_append_getElem hlt]
    have hheap : (Blk.cells (setCells (owns 1 (xss.take i).length ++ List.replicate (k + 1) SV.nils) (i * 1) [SV.own (((xss.take i).map aR).length + 1)]) 0 1 :: ((xss.take i).map aR ++ [aR xss[i]])) = rowsH (xss.take (i + 1)) k 0 := by
      have e1 : ((xss.take i).map aR).length = i := by rw [List.length_map, htl]
      rw [e1, htl, zPI, ← htk]
      show _ = Blk.cells (owns 1 (xss.take i ++ [xss[i]]).length ++ List.replicate k .nils) 0 1 :: (xss.take i ++ [xss[i]]).map aR
      rw [List.length_append, htl, List.map_append]; rfl
    refine (congrArg (fun H => loopK 0 zcG (fun τ H => loopN (run (zZ fuel) 0 f2 zcF) 0 zcG (k + 1) τ H K) K .normal _ H) hheap).trans ?_
    have hw : w64 ((i : Int) + 1) = ((i + 1 : Nat) : Int) := w64_up2 (by omega)
    show (match gc 0 [(4, .int .i64 (w64 ((i : Int) + 1))), (0, .es (.list I6) xss), (3, .own 0)] (rowsH (xss.take (i + 1)) k 0) with
      | some (τ, H) => loopN (run (zZ fuel) 0 f2 zcF) 0 zcG (k + 1) τ H K
      | none => none) = _
    rw [hw, gc_rows (by rw [List.length_take]; omega)]
    exact ih
theorem zq1 : ∀ (ys : List (List Int)) (a : Nat) (H : Heap), (∀ (i : Nat) (y : List Int), ys[i]? = some y → H[a + i]? = some (aR y)) → ∃ H', takeL I6 (owns a ys.length) H = some (ys, H')
  | [], a, H, h => ⟨H, rfl⟩
  | y :: ys, a, H, h => by
    have h0 := h 0 y rfl
    rw [Nat.add_zero] at h0
    obtain ⟨H', h1⟩ := zq1 ys (a + 1) (H.set a .dead) (fun i z hz => by
      rw [List.getElem?_set_ne (by omega), ← h (i + 1) z (by simpa using hz)]; congr 1; omega)
    refine ⟨H', ?_⟩
    rw [List.length_cons, owns, takeL, h0]
    simp only [dite_true, h1]
theorem zME (fuel : Nat) (x : (List (List Int)) × Unit) (y : List (List Int)) (h : zbc fuel x = some y) : ∃ f2, run (zZ fuel) 0 f2 zpq (env0 (svS zpr x) 0) [] (endR zcH I6) = some y := by
  obtain ⟨xss, u⟩ := x
  unfold zbc at h
  split at h
  · rename_i hc
    obtain ⟨hl, hx⟩ := hc
    have hl : xss.length ≤ 1048576 := hl
    simp only [Option.some.injEq] at h
    subst h
    refine ⟨xss.length + 1, ?_⟩
    obtain ⟨τ, h3, hloop⟩ := zDl fuel (xss.length + 1) xss hx hl (blkK 0 (seqK (run (zZ fuel) 0 (xss.length + 1) (C.seq (C.reg false [{ d := some 22, g := none, i := I.mv (S.t 3) }, { d := some 2, g := none, i := I.mv (S.t 22) }]) C.ret)) (endR zcH I6))) xss.length 0 (by omega)
    have hpre : run (zZ fuel) 0 (xss.length + 1) zpq (env0 (svS zpr (xss, u)) 0) [] (endR zcH I6) =
        if xss.length ≤ xss.length ∧ xss.length < LIM then (match gc 0 [(4, .int .i64 (0 : Int)), (0, .es (.list I6) xss), (3, .own 0)] [.cells ((List.replicate xss.length [SV.nils]).flatten) 23 1] with
          | some (τ, H) => loopN (run (zZ fuel) 0 (xss.length + 1) zcF) 0 zcG (xss.length + 1) τ H (blkK 0 (seqK (run (zZ fuel) 0 (xss.length + 1) (C.seq (C.reg false [{ d := some 22, g := none, i := I.mv (S.t 3) }, { d := some 2, g := none, i := I.mv (S.t 22) }]) C.ret)) (endR zcH I6)))
          | none => none) else none := by kernel_rfl
    rw [hpre, if_pos ⟨Nat.le_refl _, by show xss.length < 4294967296; omega⟩]
    have hflat : (List.replicate xss.length [SV.nils]).flatten = List.replicate xss.length SV.nils := by simp
    have hg := gc_rows (xss := xss) (ys := []) (m := xss.length) (t := 23) (n := 0) (by simp)
    rw [hflat]
    have hg' : gc 0 [(4, .int .i64 (0 : Int)), (0, .es (.list I6) xss), (3, .own 0)] [.cells (List.replicate xss.length SV.nils) 23 1] = some ([(4, .int .i64 (0 : Int)), (0, .es (.list I6) xss), (3, .own 0)], rowsH [] xss.length 0) := hg
    rw [hg']
    refine Eq.trans hloop ?_
    show (endR zcH I6) .ret ((2, Tm.get ((22, Tm.get τ 3) :: τ) 22) :: (22, Tm.get τ 3) :: τ) (rowsH xss 0 0) = some xss
    show (takeRR (rowsH xss 0 0) I6 (Tm.get τ 3)).map Prod.fst = some xss
    rw [h3]
    show (takeL I6 (owns 1 xss.length ++ List.replicate 0 SV.nils) ((rowsH xss 0 0).set 0 .dead)).map Prod.fst = some xss
    obtain ⟨H', ht⟩ := zq1 xss 1 ((rowsH xss 0 0).set 0 .dead) (fun i z hz => by
      have hi : i < xss.length := (List.getElem?_eq_some_iff.1 hz).1
      rw [List.getElem?_set_ne (by omega), rowsAt _ xss hi]
      rw [List.getElem?_eq_getElem hi] at hz
      rw [Option.some.inj hz])
    rw [List.replicate_zero, List.append_nil, ht]; rfl
  · cases h
theorem zMF (fuel : Nat) : FnSpecR Tryz.prog 179 (zps fuel) :=
  zPC (T := zZ fuel) (c := bodyOf Tryz.f179) (fn := Tryz.f179) rfl (TabOK.of (entCons (zjG fuel) entNil) methNil) mixed (by kernel_rfl) (by kernel_rfl) zMD (by kernel_rfl) (Nat.le_of_ble_eq_true (by kernel_rfl)) (rv := zcH) (by kernel_rfl) (fun x y h => zME fuel x y h)
theorem zMG (fuel : Nat) : EntryOK Tryz.prog 179 (zps fuel).te := EntryOK.tr rfl (zMF fuel) (isFn (fn := Tryz.f179) (by kernel_rfl) (by kernel_rfl) (by kernel_rfl))
end Go.Proofs.YtdgdoeknpakmlaaGreat.Den
namespace Go.Proofs.YtdgdoeknpakmlaaGreat.Den
open Go Go.RowKit
def markRows (fuel : Nat) : List (List Int) → Int → Option (List (List Int) × Int)
  | [], k => some ([], k)
  | x :: r, k => (zJ fuel (x, (), ((k, ()), ()))).bind fun y => (markRows fuel r y.2.1.1).map fun z => (y.1 :: z.1, z.2)
def zaG (fuel : Nat) (z : List (List Int) × Int) : Option (List (List Int) × Int) := if z.1.length ≤ 1048576 then markRows fuel z.1 z.2 else none
def zpt (fuel : Nat) : TM := ⟨I6, zaG fuel⟩
abbrev mm_bd : C := C.seq (C.seq (C.reg false [{ d := some 6, g := none, i := I.mv (S.t 5) }, { d := some 7, g := none, i := I.mv (S.t 0) }, { d := some 8, g := none, i := I.len (S.t 7) }, { d := some 9, g := none, i := I.bin BinOp.lss (S.t 6) (S.t 8) }]) (C.cnd (S.t 9) C.skip (C.exit 0))) (C.seq (C.blk 1 (C.reg false [{ d := some 12, g := none, i := I.mv (S.t 0) }, { d := some 13, g := none, i := I.mv (S.t 5) }, { d := some 14, g := none, i := I.ia 1 (S.t 12) (S.t 13) }, { d := some 15, g := none, i := I.ld 1 false (S.t 14) }, { d := some 16, g := none, i := I.mv (S.t 1) }, { d := some 17, g := none, i := I.call 71 [S.t 15, S.t 16] }, { d := some 1, g := none, i := I.mv (S.t 17) }])) (C.reg false [{ d := some 10, g := none, i := I.mv (S.t 5) }, { d := some 11, g := none, i := I.bin BinOp.add (S.t 10) (S.c (SV.int .i64 (Int.ofNat 1))) }, { d := some 5, g := none, i := I.mv (S.t 11) }]))
abbrev mm_nm : Norm := { live := [5, 0, 1], fix := [] }
abbrev mm_end : C := C.seq (C.reg false [{ d := some 18, g := none, i := I.mv (S.t 1) }, { d := some 4, g := none, i := I.mv (S.t 18) }]) C.ret
def mm_c : C := C.seq (C.reg false [{ d := some 4, g := none, i := I.mv (S.c (SV.int .i64 (Int.ofNat 0))) }]) (C.seq (C.seq (C.reg false [{ d := some 5, g := none, i := I.mv (S.c (SV.int .i64 (Int.ofNat 0))) }]) (C.blk 0 (C.loop mm_nm mm_bd))) mm_end)
theorem mm_l : lightC Tryz.prog [] Tryz.f168.ntmps zo3 [] 0 (bodyOf Tryz.f168) = some (mm_c, 1) := by kernel_rfl
theorem zDm (fuel n0 f2 : Nat) (R : Type) (i k : Int) (cs : List SV) (Rs : Heap) (K : Ex → Env → Heap → Option R) :
    run (zv fuel) n0 f2 mm_bd [(5, .int .i64 i), (0, .own 0), (1, .int .i64 k)] (.cells cs 0 1 :: Rs) K =
    cond (decide (i < (zz (cs.length / 1))))
      (tst (decide (0 ≤ i)) <| tst (decide (i < (zz (cs.length / 1)))) <| match cs[i.toNat * 1]? with
        | some s => callI (zv fuel) 71 [s, .int .i64 k] (.cells cs 0 1 :: Rs) fun v H =>
          K .normal [(5, .int .i64 (w64 (i + 1))), (11, .int .i64 (w64 (i + 1))), (10, .int .i64 i), (1, v), (17, v), (16, .int .i64 k), (15, s), (14, .ptr 0 (i.toNat * 1)), (13, .int .i64 i), (12, .own 0), (9, .bool (decide (i < (zz (cs.length / 1))))), (8, .int .i64 (zz (cs.length / 1))), (7, .own 0), (6, .int .i64 i), (5, .int .i64 i), (0, .own 0), (1, .int .i64 k)] H
        | none => none)
      (K (.exit 0) [(9, .bool (decide (i < (zz (cs.length / 1))))), (8, .int .i64 (zz (cs.length / 1))), (7, .own 0), (6, .int .i64 i), (5, .int .i64 i), (0, .own 0), (1, .int .i64 k)] (.cells cs 0 1 :: Rs)) := by
  kernel_rfl
theorem mm_call (fuel : Nat) {R : Type} {b : Nat} {x : List Int} {k : Int} {H : Heap} {kk : SV → Heap → Option R} (h : H[b]? = some (aR x)) :
    callI (zv fuel) 71 [.own b, .int .i64 k] H kk = (zJ fuel (x, (), ((k, ()), ()))).bind fun y => kk (.int .i64 y.2.1.1) (H.set b (aR y.1)) := by
  show callL [(za9 fuel).te, (zf9 fuel).te] [.own b, .int .i64 k] H kk = _
  rw [callL]
  have hv : (za9 fuel).te.view [.own b, .int .i64 k] H = some (x, (), ((k, ()), ())) := by
    simp only [TFS.te, za9, firstOf, h]; rfl
  rw [hv]
  rfl
theorem zDn (n0 : Nat) (H : Heap) : ∀ (l : List Nat) (f : Nat), (∀ β ∈ l, β < n0) → gcOrder n0 H f l [] = []
  | l, 0, _ => by cases l <;> rfl
  | [], f + 1, _ => rfl
  | β :: r, f + 1, h => by
    rw [gcOrder]
    have h1 : Nat.blt β n0 = true := by rw [Nat.blt_eq]; exact h β (by simp)
    rw [h1, Bool.true_or, cond_true]
    exact zDn n0 H r f fun γ hγ => h γ (by simp [hγ])
abbrev mmH (n : Nat) (ys : List (List Int)) : Heap := .cells (owns 1 n) 0 1 :: ys.map aR
theorem gc_mm {ys : List (List Int)} {n : Nat} {i k : Int} (hn : ys.length = n) :
    gc (n + 1) [(5, .int .i64 i), (0, .own 0), (1, .int .i64 k)] (mmH n ys) = some ([(5, .int .i64 i), (0, .own 0), (1, .int .i64 k)], mmH n ys) := by
  subst hn
  have htake : (mmH ys.length ys).take (ys.length + 1) = mmH ys.length ys := List.take_of_length_le (by simp)
  have hord : gcOrder (ys.length + 1) (mmH ys.length ys) LIM (([(5, .int .i64 i), (0, .own 0), (1, .int .i64 k)] : Env).flatMap (fun p => p.2.refs) ++ ((mmH ys.length ys).take (ys.length + 1)).flatMap Blk.refs) [] = [] := by
    refine zDn _ _ _ _ fun β hβ => ?_
    rw [htake] at hβ
    have hβ : β ∈ [0] ++ (SV.refsL (owns 1 ys.length) ++ (ys.map aR).flatMap Blk.refs) := hβ
    rw [zqZ] at hβ
    simp only [List.mem_append, List.mem_singleton, List.mem_range'_1, List.mem_flatMap, List.mem_map] at hβ
    rcases hβ with h | h | ⟨_, ⟨y, _, rfl⟩, h⟩
    · omega
    · omega
    · simp [Blk.refs] at h
  rw [gc_of (σ := []) hord (by simp [nodupB])]
  have hren : ∀ β, β < ys.length + 1 → renF (ys.length + 1) [] β = some β := fun β h => by
    unfold renF
    rw [show Nat.blt β (ys.length + 1) = true by rw [Nat.blt_eq]; exact h, cond_true]
  have h0 := hren 0 (by omega)
  have e1 : (mmH ys.length ys).map (Blk.ren (renF (ys.length + 1) [])) = mmH ys.length ys := by
    rw [List.map_cons, Blk.ren, zq0 (fun j hj => hren j (by omega)), List.map_map]
    rfl
  rw [htake, e1]
  simp only [List.map_cons, List.map_nil, SV.ren, h0, List.append_nil]
theorem mm_loop (fuel f2 : Nat) {R : Type} (n : Nat) (hn : n ≤ 1048576) (K : Ex → Env → Heap → Option R) :
    ∀ (xs ys : List (List Int)) (k k' : Int) (zs : List (List Int)), ys.length + xs.length = n → markRows fuel xs k = some (zs, k') →
      ∃ τ, Tm.get τ 1 = .int .i64 k' ∧ loopN (run (zv fuel) (n + 1) f2 mm_bd) (n + 1) mm_nm (xs.length + 1) [(5, .int .i64 (ys.length : Int)), (0, .own 0), (1, .int .i64 k)] (mmH n (ys ++ xs)) K = K (.exit 0) τ (mmH n (ys ++ zs))
  | [], ys, k, k', zs, hl, hm => by
    simp only [markRows, Option.some.injEq, Prod.mk.injEq] at hm
    obtain ⟨rfl, rfl⟩ := hm
    refine ⟨[(9, .bool false), (8, .int .i64 (zz ((owns 1 n).length / 1))), (7, .own 0), (6, .int .i64 (ys.length : Int)), (5, .int .i64 (ys.length : Int)), (0, .own 0), (1, .int .i64 k)], rfl, ?_⟩
    rw [loopN]
    refine (zDm fuel (n + 1) f2 R _ _ _ _ _).trans ?_
    have h1 : decide ((ys.length : Int) < zz ((owns 1 n).length / 1)) = false := by rw [zz_cast, zaO]; simp at hl ⊢; omega
    rw [h1, cond_false]
    rfl
  | x :: xs, ys, k, k', zs, hl, hm => by
    simp only [markRows, Option.bind_eq_some_iff, Option.map_eq_some_iff] at hm
    obtain ⟨y, hy, ⟨zs', k2⟩, hz, he⟩ := hm
    simp only [Prod.mk.injEq] at he
    obtain ⟨rfl, rfl⟩ := he
    simp only [List.length_cons] at hl
    have hlt : ys.length < n := by omega
    obtain ⟨τ, h3, ih⟩ := mm_loop fuel f2 n hn K xs (ys ++ [y.1]) y.2.1.1 k2 zs' (by simp; omega) hz
    refine ⟨τ, h3, ?_⟩
    rw [loopN]
    refine (zDm fuel (n + 1) f2 R _ _ _ _ _).trans ?_
    have h1 : decide ((ys.length : Int) < zz ((owns 1 n).length / 1)) = true := by rw [zz_cast, zaO]; simp; omega
    have h2 : decide ((0 : Int) ≤ (ys.length : Int)) = true := by simp
    rw [h1, cond_true, h2]
    simp only [cond_true, Int.toNat_natCast, Nat.mul_one, zqY hlt]
    have hrow : (mmH n (ys ++ x :: xs))[1 + ys.length]? = some (aR x) := by
      rw [rowsAt _ _ (by simp)]; simp
    rw [mm_call fuel hrow, hy, Option.bind_some]
    have hheap : (mmH n (ys ++ x :: xs)).set (1 + ys.length) (aR y.1) = mmH n (ys ++ [y.1] ++ xs) := by
      rw [Nat.add_comm, List.set_cons_succ]
      congr 1
      rw [List.map_append, List.map_cons, show ys.length = (ys.map aR).length by simp, set_midR]
      simp
    rw [hheap]
    have hw : w64 ((ys.length : Int) + 1) = ((ys ++ [y.1]).length : Int) := by rw [w64_up2 (by omega)]; simp
    show (match gc (n + 1) [(5, .int .i64 (w64 ((ys.length : Int) + 1))), (0, .own 0), (1, .int .i64 y.2.1.1)] (mmH n (ys ++ [y.1] ++ xs)) with
      | some (τ, H) => loopN (run (zv fuel) (n + 1) f2 mm_bd) (n + 1) mm_nm (xs.length + 1) τ H K
      | none => none) = _
    rw [hw, gc_mm (by simp; omega)]
    rw [show ys ++ y.1 :: zs' = ys ++ [y.1] ++ zs' by simp]
    exact ih
where
  set_midR {α : Type} {x y : α} {r : List α} : ∀ {p : List α}, (p ++ x :: r).set p.length y = p ++ y :: r
    | [] => rfl
    | z :: p => by simp [set_midR (p := p)]
theorem zDo {fuel : Nat} : ∀ {xs : List (List Int)} {k : Int} {y : List (List Int) × Int}, markRows fuel xs k = some y → y.1.length = xs.length
  | [], k, y, h => by simp only [markRows, Option.some.injEq] at h; subst h; rfl
  | x :: xs, k, y, h => by
    simp only [markRows, Option.bind_eq_some_iff, Option.map_eq_some_iff] at h
    obtain ⟨y, hy, z, hz, rfl⟩ := h
    simp [zDo hz]
theorem zPJ (n : Nat) : ownRow 0 n = .cells (owns 1 n) 0 1 := by
  unfold ownRow
  congr 1
  refine List.ext_getElem? fun i => ?_
  rw [List.getElem?_map]
  rcases Nat.lt_or_ge i n with h | h
  · rw [List.getElem?_range h, zqY h]; simp
  · rw [List.getElem?_eq_none (by simpa using h), List.getElem?_eq_none (by rw [zaO]; exact h)]; rfl
theorem mm_run (fuel : Nat) (xss : List (List Int)) (k : Int) (y : List (List Int) × Int) (h : zaG fuel (xss, k) = some y) :
    ∃ f2, run (zv fuel) (xss.length + 1) f2 mm_c (env0 [.own 0, .int .i64 k] 0) (ownRow 0 xss.length :: innerB I6 xss) (endM zak I6 xss.length) = some y := by
  unfold zaG at h
  split at h
  · rename_i hl
    have hl : xss.length ≤ 1048576 := hl
    obtain ⟨zs, k'⟩ := y
    have hlen : zs.length = xss.length := zDo h
    refine ⟨xss.length + 1, ?_⟩
    obtain ⟨τ, h3, hloop⟩ := mm_loop fuel (xss.length + 1) xss.length hl (blkK 0 (seqK (run (zv fuel) (xss.length + 1) (xss.length + 1) mm_end) (endM zak I6 xss.length))) xss [] k k' zs (by simp) h
    rw [zPJ]
    show (match gc (xss.length + 1) [(5, .int .i64 (0 : Int)), (0, .own 0), (1, .int .i64 k)] (mmH xss.length xss) with
      | some (τ, H) => loopN (run (zv fuel) (xss.length + 1) (xss.length + 1) mm_bd) (xss.length + 1) mm_nm (xss.length + 1) τ H (blkK 0 (seqK (run (zv fuel) (xss.length + 1) (xss.length + 1) mm_end) (endM zak I6 xss.length)))
      | none => none) = _
    rw [gc_mm rfl]
    refine Eq.trans hloop ?_
    show endM zak I6 xss.length .ret ((4, Tm.get ((18, Tm.get τ 1) :: τ) 18) :: (18, Tm.get τ 1) :: τ) (mmH xss.length zs) = some (zs, k')
    have e : evalRes ((4, Tm.get ((18, Tm.get τ 1) :: τ) 18) :: (18, Tm.get τ 1) :: τ) (mmH xss.length zs) zak = some [.int .i64 k'] := by
      show some [Tm.get τ 1] = _
      rw [h3]
    unfold endM
    simp only [e]
    rw [if_pos (by simp [hlen])]
    obtain ⟨H', ht⟩ := zq1 zs 1 ((mmH xss.length zs).set 0 .dead) (fun i z hz => by
      have hi : i < zs.length := (List.getElem?_eq_some_iff.1 hz).1
      rw [List.getElem?_set_ne (by omega), rowsAt _ zs hi]
      rw [List.getElem?_eq_getElem hi] at hz
      rw [Option.some.inj hz])
    show (takeL I6 (owns 1 xss.length) ((mmH xss.length zs).set 0 .dead)).map (fun p => (p.1, k')) = _
    rw [← hlen, ← hlen] at *
    rw [ht]; rfl
  · cases h
theorem mm_run0 (fuel : Nat) (k : Int) (y : List (List Int) × Int) (h : zaG fuel ([], k) = some y) : y.1 = [] ∧ ∃ f2, run (zv fuel) 0 f2 mm_c (env0 [.es (.list I6) [], .int .i64 k] 0) [] (fun ex τ H => match ex with
      | .exit _ => none
      | _ => evalRes τ H zak) = some [.int .i64 y.2] := by
  have h : (if (0 : Nat) ≤ 1048576 then some (([] : List (List Int)), k) else none) = some y := h
  rw [if_pos (by omega)] at h
  simp only [Option.some.injEq] at h
  subst h
  exact ⟨rfl, 1, by kernel_rfl⟩
theorem zMH (fuel : Nat) : FnSpecM Tryz.prog 168 (zpt fuel) :=
  zPD (T := zv fuel) (c := bodyOf Tryz.f168) (fn := Tryz.f168) rfl (TabOK.of (entCons (zo1 fuel) (entCons (zo2 fuel) entNil)) methNil) mixed (by kernel_rfl) (by kernel_rfl) mm_l (by kernel_rfl) (Nat.le_of_ble_eq_true (by kernel_rfl)) (rv := zak) (by kernel_rfl) (fun k y h => mm_run0 fuel k y h) (fun xss k y _ h => mm_run fuel xss k y h)
theorem zMI (fuel : Nat) : EntryOK Tryz.prog 168 (zpt fuel).te := EntryOK.tm rfl (zMH fuel) (isFn (fn := Tryz.f168) (by kernel_rfl) (by kernel_rfl) (by kernel_rfl))
end Go.Proofs.YtdgdoeknpakmlaaGreat.Den
