/- Part 13 of the texts behind the row. -/
import Derived.Test.YtdgdoeknpakmlaaGreatB9e875af25f
set_option linter.unusedVariables false
set_option linter.unusedSimpArgs false
namespace Go.Proofs.YtdgdoeknpakmlaaGreat.Den
open Go Go.RowKit
def zzC (fuel : Nat) : Tab := Tab.of [(68, (zcZ fuel).te)] []
def zzD : List Norm := []
noncomputable def zzE : C := irOf Tryz.prog Tryz.f131 [] zzD []
theorem zLG : lightC Tryz.prog [] Tryz.f131.ntmps zzD [] 0 (bodyOf Tryz.f131) = some (zzE, 0) := by kernel_rfl
def zzF : List (Nat × Option (Nat × Bool)) := [(2, some (1, true))]
noncomputable def zzG (fuel : Nat) : IE := inlIE 1 (zzC fuel) fuel zzE zzF
theorem zLH (fuel : Nat) : ISound Tryz.prog 131 (zzG fuel) :=
  zC (T := zzC fuel) (c := bodyOf Tryz.f131) (fn := Tryz.f131) (TabOK.of (entCons (zj8 fuel) entNil) (methNil)) mixed (by kernel_rfl) (by kernel_rfl) zLG (by kernel_rfl) (Nat.le_of_ble_eq_true (by kernel_rfl)) (rv := zzF) (by kernel_rfl) (isFn (fn := Tryz.f131) (by kernel_rfl) (by kernel_rfl) (by kernel_rfl))
def zzH (fuel : Nat) : Tab := Tab.of [] []
abbrev zpV : List Pm := [{ cs := [(I6, false), (I6, false)], ag := true }]
abbrev zzI : List Pm := [{ cs := [(I6, false), (I6, false)], ag := true }]
def zzJ : List Norm := []
noncomputable def zzK : C := irOf Tryz.prog Tryz.f191 [] zzJ []
theorem zLI : lightC Tryz.prog [] Tryz.f191.ntmps zzJ [] 0 (bodyOf Tryz.f191) = some (zzK, 0) := by kernel_rfl
def zzL : List (Nat × Option (Nat × Bool)) := [(2, some (2, true))]
def zLJ (fuel : Nat) (x0 : Int) (x1 : Int) : Option ((Int × (Int × Unit)) × Unit) :=
 some (((x0, x1, ()), ()))
def zlg (fuel : Nat) (x : ((Int × (Int × Unit)) × Unit)) : Option ((Int × (Int × Unit)) × Unit) := zLJ fuel x.1.1 x.1.2.1
theorem zLK (fuel : Nat) (x : PsT zpV) : run (zzH fuel) 0 fuel zzK (env0 (svPs zpV x) 0) [] (endF zzL zzI) = zlg fuel x := by kernel_rfl
def zpW (fuel : Nat) : TF := ⟨zpV, zzI, true, zlg fuel⟩
theorem zLL (fuel : Nat) : FnSpec Tryz.prog 191 (zpW fuel) :=
  fn_spec (T := zzH fuel) (c := bodyOf Tryz.f191) (fn := Tryz.f191) (TabOK.of (entNil) (methNil)) mixed (by kernel_rfl) (by kernel_rfl) zLI (by kernel_rfl) (Nat.le_of_ble_eq_true (by kernel_rfl)) (rv := zzL) (by kernel_rfl) (zLK fuel)
theorem zLM (fuel : Nat) : EntryOK Tryz.prog 191 (zpW fuel).te := EntryOK.tf rfl (zLL fuel) (isFn (fn := Tryz.f191) (by kernel_rfl) (by kernel_rfl) (by kernel_rfl))
abbrev zbI := Option ((LP × Unit) × Unit)
def zht (fuel : Nat) : Tab := Tab.of [(191, (zpW fuel).te)] []
abbrev zlh : List Pm := [{ cs := [(Kd.list KP, false)], ag := false }]
abbrev zhu : List Pm := [{ cs := [(Kd.list KP, true)], ag := false }]
def zzM : List Norm := [{ live := [4, 0, 3], fix := [] }]
noncomputable def zhv : C := irOf Tryz.prog Tryz.f180 [] zzM []
theorem zLN : lightC Tryz.prog [] Tryz.f180.ntmps zzM [] 0 (bodyOf Tryz.f180) = some (zhv, 1) := by kernel_rfl
def zhw : List (Nat × Option (Nat × Bool)) := [(2, none)]
abbrev zdj := (Int) × LP × LP
def zzN (v : zdj) : Env × Heap := ([(4, SV.int .i64 v.1), (0, SV.es KP v.2.1), (3, SV.own 0)], [Blk.arr KP v.2.2 0])
def zhx (fuel : Nat) (g0 : zdj → zbI) (v : zdj) : zbI :=
 cond (decide (v.1 < (zz (List.length v.2.1))))
 (tst (decide (0 ≤ v.1)) <|
 tst (decide (v.1 < (zz (List.length v.2.1)))) <|
 Option.bind (zlg fuel (((List.getD v.2.1 (Int.toNat v.1) (0, (0, ()))).1, (List.getD v.2.1 (Int.toNat v.1) (0, (0, ()))).2.1, ()), ())) fun y_2 =>
 tst (decide (0 ≤ v.1)) <|
 tst (decide (v.1 < (zz (List.length v.2.2)))) <|
 tst (decide (Int.toNat v.1 < List.length v.2.2)) <|
 g0 (w64 (v.1 + (1 : Int)), v.2.1, List.set v.2.2 (Int.toNat v.1) (y_2.1.1, y_2.1.2.1, ())))
 (some (((v.2.2, ()), ())))
def zli (fuel : Nat) (g0 : zdj → zbI) : zdj → zbI := zhx fuel g0
theorem zLO (fuel : Nat) (G) : zhv.lp (zht fuel) 0 fuel G (endF zhw zhu) 0 zzN = iter (zli fuel) fuel := C.lp_iter fun g v => by kernel_rfl
def zlj (fuel : Nat) (X0 : zdj → zbI) (x0 : LP) : zbI :=
 tst (decide (0 ≤ (zz (List.length x0)))) <|
 tst (decide ((zz (List.length x0)) ≤ (zz (List.length x0)))) <|
 tst (decide (Int.toNat (zz (List.length x0)) < LIM)) <|
 X0 ((0 : Int), x0, List.replicate (Int.toNat (zz (List.length x0))) (0, (0, ())))
def za0 (fuel : Nat) (x : ((LP × Unit) × Unit)) : zbI := zlj fuel (iter (zli fuel) fuel) x.1.1
theorem zLP (fuel : Nat) (x : PsT zlh) : run (zht fuel) 0 fuel zhv (env0 (svPs zlh x) 0) [] (endF zhw zhu) = za0 fuel x :=
  (show run (zht fuel) 0 fuel zhv (env0 (svPs zlh x) 0) [] (endF zhw zhu) = zlj fuel (zhv.lp (zht fuel) 0 fuel (fun _ _ _ => none) (endF zhw zhu) 0 zzN) x.1.1 by kernel_rfl).trans (by rw [zLO]; rfl)
def zlk (fuel : Nat) : TF := ⟨zlh, zhu, true, za0 fuel⟩
theorem zLQ (fuel : Nat) : FnSpec Tryz.prog 180 (zlk fuel) :=
  fn_spec (T := zht fuel) (c := bodyOf Tryz.f180) (fn := Tryz.f180) (TabOK.of (entCons (zLM fuel) entNil) (methNil)) mixed (by kernel_rfl) (by kernel_rfl) zLN (by kernel_rfl) (Nat.le_of_ble_eq_true (by kernel_rfl)) (rv := zhw) (by kernel_rfl) (zLP fuel)
theorem zzO (fuel : Nat) : EntryOK Tryz.prog 180 (zlk fuel).te := EntryOK.tf rfl (zLQ fuel) (isFn (fn := Tryz.f180) (by kernel_rfl) (by kernel_rfl) (by kernel_rfl))
def zzP (fuel : Nat) : Tab := Tab.of [(180, (zlk fuel).te)] []
def zzQ : List Norm := []
noncomputable def zzR : C := irOf Tryz.prog Tryz.f132 [] zzQ []
theorem zLR : lightC Tryz.prog [] Tryz.f132.ntmps zzQ [] 0 (bodyOf Tryz.f132) = some (zzR, 0) := by kernel_rfl
def zzS : List (Nat × Option (Nat × Bool)) := [(2, some (3, true))]
noncomputable def zzT (fuel : Nat) : IE := inlIE 1 (zzP fuel) fuel zzR zzS
theorem zLS (fuel : Nat) : ISound Tryz.prog 132 (zzT fuel) :=
  zC (T := zzP fuel) (c := bodyOf Tryz.f132) (fn := Tryz.f132) (TabOK.of (entCons (zzO fuel) entNil) (methNil)) mixed (by kernel_rfl) (by kernel_rfl) zLR (by kernel_rfl) (Nat.le_of_ble_eq_true (by kernel_rfl)) (rv := zzS) (by kernel_rfl) (isFn (fn := Tryz.f132) (by kernel_rfl) (by kernel_rfl) (by kernel_rfl))
def zzU (fuel : Nat) : Tab := Tab.of [] []
abbrev zpX : List Pm := [{ cs := [(I6, false), (I6, false)], ag := true }]
abbrev zzV : List Pm := [{ cs := [(I6, false), (I6, false)], ag := true }]
def zzW : List Norm := []
noncomputable def zzX : C := irOf Tryz.prog Tryz.f192 [] zzW []
theorem zLT : lightC Tryz.prog [] Tryz.f192.ntmps zzW [] 0 (bodyOf Tryz.f192) = some (zzX, 0) := by kernel_rfl
def zzY : List (Nat × Option (Nat × Bool)) := [(2, some (2, true))]
def zLU (fuel : Nat) (x0 : Int) (x1 : Int) : Option ((Int × (Int × Unit)) × Unit) :=
 some (((x0, x1, ()), ()))
def zll (fuel : Nat) (x : ((Int × (Int × Unit)) × Unit)) : Option ((Int × (Int × Unit)) × Unit) := zLU fuel x.1.1 x.1.2.1
theorem zLV (fuel : Nat) (x : PsT zpX) : run (zzU fuel) 0 fuel zzX (env0 (svPs zpX x) 0) [] (endF zzY zzV) = zll fuel x := by kernel_rfl
def zpY (fuel : Nat) : TF := ⟨zpX, zzV, true, zll fuel⟩
theorem zLW (fuel : Nat) : FnSpec Tryz.prog 192 (zpY fuel) :=
  fn_spec (T := zzU fuel) (c := bodyOf Tryz.f192) (fn := Tryz.f192) (TabOK.of (entNil) (methNil)) mixed (by kernel_rfl) (by kernel_rfl) zLT (by kernel_rfl) (Nat.le_of_ble_eq_true (by kernel_rfl)) (rv := zzY) (by kernel_rfl) (zLV fuel)
theorem zLX (fuel : Nat) : EntryOK Tryz.prog 192 (zpY fuel).te := EntryOK.tf rfl (zLW fuel) (isFn (fn := Tryz.f192) (by kernel_rfl) (by kernel_rfl) (by kernel_rfl))
abbrev zbJ := Option ((LP × Unit) × Unit)
def zhy (fuel : Nat) : Tab := Tab.of [(192, (zpY fuel).te)] []
abbrev zlm : List Pm := [{ cs := [(Kd.list KP, false)], ag := false }]
abbrev zhz : List Pm := [{ cs := [(Kd.list KP, true)], ag := false }]
def zzZ : List Norm := [{ live := [4, 0, 3], fix := [] }]
noncomputable def zhA : C := irOf Tryz.prog Tryz.f181 [] zzZ []
theorem zLY : lightC Tryz.prog [] Tryz.f181.ntmps zzZ [] 0 (bodyOf Tryz.f181) = some (zhA, 1) := by kernel_rfl
def zhB : List (Nat × Option (Nat × Bool)) := [(2, none)]
abbrev zdk := (Int) × LP × LP
def zz0 (v : zdk) : Env × Heap := ([(4, SV.int .i64 v.1), (0, SV.es KP v.2.1), (3, SV.own 0)], [Blk.arr KP v.2.2 0])
def zhC (fuel : Nat) (g0 : zdk → zbJ) (v : zdk) : zbJ :=
 cond (decide (v.1 < (zz (List.length v.2.1))))
 (tst (decide (0 ≤ v.1)) <|
 tst (decide (v.1 < (zz (List.length v.2.1)))) <|
 Option.bind (zll fuel (((List.getD v.2.1 (Int.toNat v.1) (0, (0, ()))).1, (List.getD v.2.1 (Int.toNat v.1) (0, (0, ()))).2.1, ()), ())) fun y_2 =>
 tst (decide (0 ≤ v.1)) <|
 tst (decide (v.1 < (zz (List.length v.2.2)))) <|
 tst (decide (Int.toNat v.1 < List.length v.2.2)) <|
 g0 (w64 (v.1 + (1 : Int)), v.2.1, List.set v.2.2 (Int.toNat v.1) (y_2.1.1, y_2.1.2.1, ())))
 (some (((v.2.2, ()), ())))
def zln (fuel : Nat) (g0 : zdk → zbJ) : zdk → zbJ := zhC fuel g0
theorem zLZ (fuel : Nat) (G) : zhA.lp (zhy fuel) 0 fuel G (endF zhB zhz) 0 zz0 = iter (zln fuel) fuel := C.lp_iter fun g v => by kernel_rfl
def zlo (fuel : Nat) (X0 : zdk → zbJ) (x0 : LP) : zbJ :=
 tst (decide (0 ≤ (zz (List.length x0)))) <|
 tst (decide ((zz (List.length x0)) ≤ (zz (List.length x0)))) <|
 tst (decide (Int.toNat (zz (List.length x0)) < LIM)) <|
 X0 ((0 : Int), x0, List.replicate (Int.toNat (zz (List.length x0))) (0, (0, ())))
def za1 (fuel : Nat) (x : ((LP × Unit) × Unit)) : zbJ := zlo fuel (iter (zln fuel) fuel) x.1.1
theorem zL0 (fuel : Nat) (x : PsT zlm) : run (zhy fuel) 0 fuel zhA (env0 (svPs zlm x) 0) [] (endF zhB zhz) = za1 fuel x :=
  (show run (zhy fuel) 0 fuel zhA (env0 (svPs zlm x) 0) [] (endF zhB zhz) = zlo fuel (zhA.lp (zhy fuel) 0 fuel (fun _ _ _ => none) (endF zhB zhz) 0 zz0) x.1.1 by kernel_rfl).trans (by rw [zLZ]; rfl)
def zlp (fuel : Nat) : TF := ⟨zlm, zhz, true, za1 fuel⟩
theorem zL1 (fuel : Nat) : FnSpec Tryz.prog 181 (zlp fuel) :=
  fn_spec (T := zhy fuel) (c := bodyOf Tryz.f181) (fn := Tryz.f181) (TabOK.of (entCons (zLX fuel) entNil) (methNil)) mixed (by kernel_rfl) (by kernel_rfl) zLY (by kernel_rfl) (Nat.le_of_ble_eq_true (by kernel_rfl)) (rv := zhB) (by kernel_rfl) (zL0 fuel)
theorem zz1 (fuel : Nat) : EntryOK Tryz.prog 181 (zlp fuel).te := EntryOK.tf rfl (zL1 fuel) (isFn (fn := Tryz.f181) (by kernel_rfl) (by kernel_rfl) (by kernel_rfl))
def zz2 (fuel : Nat) : Tab := Tab.of [(181, (zlp fuel).te)] []
def zz3 : List Norm := []
noncomputable def zz4 : C := irOf Tryz.prog Tryz.f133 [] zz3 []
theorem zL2 : lightC Tryz.prog [] Tryz.f133.ntmps zz3 [] 0 (bodyOf Tryz.f133) = some (zz4, 0) := by kernel_rfl
def zz5 : List (Nat × Option (Nat × Bool)) := [(2, some (2, true))]
noncomputable def zz6 (fuel : Nat) : IE := inlIE 1 (zz2 fuel) fuel zz4 zz5
theorem zL3 (fuel : Nat) : ISound Tryz.prog 133 (zz6 fuel) :=
  zC (T := zz2 fuel) (c := bodyOf Tryz.f133) (fn := Tryz.f133) (TabOK.of (entCons (zz1 fuel) entNil) (methNil)) mixed (by kernel_rfl) (by kernel_rfl) zL2 (by kernel_rfl) (Nat.le_of_ble_eq_true (by kernel_rfl)) (rv := zz5) (by kernel_rfl) (isFn (fn := Tryz.f133) (by kernel_rfl) (by kernel_rfl) (by kernel_rfl))
noncomputable def zz7 (fuel : Nat) : Tab := Tab.ofI [] [] [(130, zzB fuel), (131, zzG fuel), (132, zzT fuel), (133, zz6 fuel)]
def zz8 : List Norm := []
noncomputable def zz9 : C := irOf Tryz.prog Tryz.f75 [6, 10, 14, 18] zz8 []
theorem zL4 : lightC Tryz.prog [6, 10, 14, 18] Tryz.f75.ntmps zz8 [] 0 (bodyOf Tryz.f75) = some (zz9, 0) := by kernel_rfl
def zAa : List (Nat × Option (Nat × Bool)) := [(2, some (7, true))]
noncomputable def zpZ (fuel : Nat) : IE := inlIE 1 (zz7 fuel) fuel zz9 zAa
theorem zAb (fuel : Nat) : ISound Tryz.prog 75 (zpZ fuel) :=
  zC (T := zz7 fuel) (c := bodyOf Tryz.f75) (fn := Tryz.f75) (TabOK.ofI (entNil) (methNil) (inlCons (zLF fuel) (inlCons (zLH fuel) (inlCons (zLS fuel) (inlCons (zL3 fuel) (inlNil)))))) mixed (by kernel_rfl) (by kernel_rfl) zL4 (by kernel_rfl) (Nat.le_of_ble_eq_true (by kernel_rfl)) (rv := zAa) (by kernel_rfl) (isFn (fn := Tryz.f75) (by kernel_rfl) (by kernel_rfl) (by kernel_rfl))
abbrev zbK := Option (((List (List Int)) × Unit) × Unit)
def zhD (fuel : Nat) : Tab := Tab.of [(68, (zcZ fuel).te)] []
abbrev zlq : List Pm := [{ cs := [(Kd.list (Kd.list I6), false)], ag := false }]
abbrev zhE : List Pm := [{ cs := [(Kd.list (Kd.list I6), false)], ag := false }]
def zAc : List Norm := [{ live := [4, 0, 3], fix := [] }]
noncomputable def zhF : C := irOf Tryz.prog Tryz.f179 [] zAc []
theorem zL5 : lightC Tryz.prog [] Tryz.f179.ntmps zAc [] 0 (bodyOf Tryz.f179) = some (zhF, 1) := by kernel_rfl
def zhG : List (Nat × Option (Nat × Bool)) := [(2, none)]
abbrev zdl := (Int) × (List (List Int)) × (List (List Int))
def zAd (v : zdl) : Env × Heap := ([(4, SV.int .i64 v.1), (0, SV.es (Kd.list I6) v.2.1), (3, SV.own 0)], [Blk.arr (Kd.list I6) v.2.2 0])
def zhH (fuel : Nat) (g0 : zdl → zbK) (v : zdl) : zbK :=
 cond (decide (v.1 < (zz (List.length v.2.1))))
 (tst (decide (0 ≤ v.1)) <|
 tst (decide (v.1 < (zz (List.length v.2.1)))) <|
 Option.bind (zF fuel ((List.getD v.2.1 (Int.toNat v.1) [], ()), ())) fun y_2 =>
 tst (decide (0 ≤ v.1)) <|
 tst (decide (v.1 < (zz (List.length v.2.2)))) <|
 tst (decide (Int.toNat v.1 < List.length v.2.2)) <|
 g0 (w64 (v.1 + (1 : Int)), v.2.1, List.set v.2.2 (Int.toNat v.1) y_2.1.1))
 (some (((v.2.2, ()), ())))
def zlr (fuel : Nat) (g0 : zdl → zbK) : zdl → zbK := zhH fuel g0
theorem zL6 (fuel : Nat) (G) : zhF.lp (zhD fuel) 0 fuel G (endF zhG zhE) 0 zAd = iter (zlr fuel) fuel := C.lp_iter fun g v => by kernel_rfl
def zls (fuel : Nat) (X0 : zdl → zbK) (x0 : List (List Int)) : zbK :=
 tst (decide (0 ≤ (zz (List.length x0)))) <|
 tst (decide ((zz (List.length x0)) ≤ (zz (List.length x0)))) <|
 tst (decide (Int.toNat (zz (List.length x0)) < LIM)) <|
 X0 ((0 : Int), x0, List.replicate (Int.toNat (zz (List.length x0))) [])
def zlt (fuel : Nat) (x : (((List (List Int)) × Unit) × Unit)) : zbK := zls fuel (iter (zlr fuel) fuel) x.1.1
theorem zL7 (fuel : Nat) (x : PsT zlq) : run (zhD fuel) 0 fuel zhF (env0 (svPs zlq x) 0) [] (endF zhG zhE) = zlt fuel x :=
  (show run (zhD fuel) 0 fuel zhF (env0 (svPs zlq x) 0) [] (endF zhG zhE) = zls fuel (zhF.lp (zhD fuel) 0 fuel (fun _ _ _ => none) (endF zhG zhE) 0 zAd) x.1.1 by kernel_rfl).trans (by rw [zL6]; rfl)
def zp0 (fuel : Nat) : TF := ⟨zlq, zhE, false, zlt fuel⟩
theorem zL8 (fuel : Nat) : FnSpec Tryz.prog 179 (zp0 fuel) :=
  fn_spec (T := zhD fuel) (c := bodyOf Tryz.f179) (fn := Tryz.f179) (TabOK.of (entCons (zj8 fuel) entNil) (methNil)) mixed (by kernel_rfl) (by kernel_rfl) zL5 (by kernel_rfl) (Nat.le_of_ble_eq_true (by kernel_rfl)) (rv := zhG) (by kernel_rfl) (zL7 fuel)
theorem zL9 (fuel : Nat) : EntryOK Tryz.prog 179 (zp0 fuel).te := EntryOK.tf rfl (zL8 fuel) (isFn (fn := Tryz.f179) (by kernel_rfl) (by kernel_rfl) (by kernel_rfl))
def zAe (fuel : Nat) : Tab := Tab.of [(179, (zp0 fuel).te)] []
abbrev zp1 : List Pm := [{ cs := [(Kd.list (Kd.list I6), false)], ag := true }]
abbrev zAf : List Pm := [{ cs := [(Kd.list (Kd.list I6), false)], ag := true }]
def zAg : List Norm := []
noncomputable def zAh : C := irOf Tryz.prog Tryz.f130 [] zAg []
theorem zMa : lightC Tryz.prog [] Tryz.f130.ntmps zAg [] 0 (bodyOf Tryz.f130) = some (zAh, 0) := by kernel_rfl
def zAi : List (Nat × Option (Nat × Bool)) := [(2, some (1, true))]
def zp2 (fuel : Nat) (x0 : List (List Int)) : Option (((List (List Int)) × Unit) × Unit) :=
 Option.bind (zlt fuel ((x0, ()), ())) fun y_1 =>
 some (((y_1.1.1, ()), ()))
def zlu (fuel : Nat) (x : (((List (List Int)) × Unit) × Unit)) : Option (((List (List Int)) × Unit) × Unit) := zp2 fuel x.1.1
theorem zMb (fuel : Nat) (x : PsT zp1) : run (zAe fuel) 0 fuel zAh (env0 (svPs zp1 x) 0) [] (endF zAi zAf) = zlu fuel x := by kernel_rfl
def zp3 (fuel : Nat) : TF := ⟨zp1, zAf, false, zlu fuel⟩
theorem zMc (fuel : Nat) : FnSpec Tryz.prog 130 (zp3 fuel) :=
  fn_spec (T := zAe fuel) (c := bodyOf Tryz.f130) (fn := Tryz.f130) (TabOK.of (entCons (zL9 fuel) entNil) (methNil)) mixed (by kernel_rfl) (by kernel_rfl) zMa (by kernel_rfl) (Nat.le_of_ble_eq_true (by kernel_rfl)) (rv := zAi) (by kernel_rfl) (zMb fuel)
theorem zMd (fuel : Nat) : EntryOK Tryz.prog 130 (zp3 fuel).te := EntryOK.tf rfl (zMc fuel) (isFn (fn := Tryz.f130) (by kernel_rfl) (by kernel_rfl) (by kernel_rfl))
def zAj (fuel : Nat) : Tab := Tab.of [(68, (zcZ fuel).te)] []
abbrev zp4 : List Pm := [{ cs := [(Kd.list I6, false)], ag := true }]
abbrev zAk : List Pm := [{ cs := [(Kd.list I6, true)], ag := true }]
def zAl : List Norm := []
noncomputable def zAm : C := irOf Tryz.prog Tryz.f131 [] zAl []
theorem zMe : lightC Tryz.prog [] Tryz.f131.ntmps zAl [] 0 (bodyOf Tryz.f131) = some (zAm, 0) := by kernel_rfl
def zAn : List (Nat × Option (Nat × Bool)) := [(2, some (1, true))]
def zp5 (fuel : Nat) (x0 : List Int) : Option (((List Int) × Unit) × Unit) :=
 Option.bind (zF fuel ((x0, ()), ())) fun y_1 =>
 some (((y_1.1.1, ()), ()))
def zlv (fuel : Nat) (x : (((List Int) × Unit) × Unit)) : Option (((List Int) × Unit) × Unit) := zp5 fuel x.1.1
theorem zMf (fuel : Nat) (x : PsT zp4) : run (zAj fuel) 0 fuel zAm (env0 (svPs zp4 x) 0) [] (endF zAn zAk) = zlv fuel x := by kernel_rfl
def zp6 (fuel : Nat) : TF := ⟨zp4, zAk, true, zlv fuel⟩
theorem zMg (fuel : Nat) : FnSpec Tryz.prog 131 (zp6 fuel) :=
  fn_spec (T := zAj fuel) (c := bodyOf Tryz.f131) (fn := Tryz.f131) (TabOK.of (entCons (zj8 fuel) entNil) (methNil)) mixed (by kernel_rfl) (by kernel_rfl) zMe (by kernel_rfl) (Nat.le_of_ble_eq_true (by kernel_rfl)) (rv := zAn) (by kernel_rfl) (zMf fuel)
theorem zMh (fuel : Nat) : EntryOK Tryz.prog 131 (zp6 fuel).te := EntryOK.tf rfl (zMg fuel) (isFn (fn := Tryz.f131) (by kernel_rfl) (by kernel_rfl) (by kernel_rfl))
def zAo (fuel : Nat) : Tab := Tab.of [(180, (zlk fuel).te)] []
abbrev zp7 : List Pm := [{ cs := [(Kd.list KP, false), (I6, false), (I6, false)], ag := true }]
abbrev zAp : List Pm := [{ cs := [(Kd.list KP, true), (I6, false), (I6, false)], ag := true }]
def zAq : List Norm := []
noncomputable def zAr : C := irOf Tryz.prog Tryz.f132 [] zAq []
theorem zMi : lightC Tryz.prog [] Tryz.f132.ntmps zAq [] 0 (bodyOf Tryz.f132) = some (zAr, 0) := by kernel_rfl
def zAs : List (Nat × Option (Nat × Bool)) := [(2, some (3, true))]
def zp8 (fuel : Nat) (x0 : LP) (x1 : Int) (x2 : Int) : Option ((LP × (Int × (Int × Unit))) × Unit) :=
 Option.bind (za0 fuel ((x0, ()), ())) fun y_1 =>
 some (((y_1.1.1, x1, x2, ()), ()))
def zlw (fuel : Nat) (x : ((LP × (Int × (Int × Unit))) × Unit)) : Option ((LP × (Int × (Int × Unit))) × Unit) := zp8 fuel x.1.1 x.1.2.1 x.1.2.2.1
theorem zMj (fuel : Nat) (x : PsT zp7) : run (zAo fuel) 0 fuel zAr (env0 (svPs zp7 x) 0) [] (endF zAs zAp) = zlw fuel x := by kernel_rfl
def zp9 (fuel : Nat) : TF := ⟨zp7, zAp, true, zlw fuel⟩
theorem zMk (fuel : Nat) : FnSpec Tryz.prog 132 (zp9 fuel) :=
  fn_spec (T := zAo fuel) (c := bodyOf Tryz.f132) (fn := Tryz.f132) (TabOK.of (entCons (zzO fuel) entNil) (methNil)) mixed (by kernel_rfl) (by kernel_rfl) zMi (by kernel_rfl) (Nat.le_of_ble_eq_true (by kernel_rfl)) (rv := zAs) (by kernel_rfl) (zMj fuel)
theorem zMl (fuel : Nat) : EntryOK Tryz.prog 132 (zp9 fuel).te := EntryOK.tf rfl (zMk fuel) (isFn (fn := Tryz.f132) (by kernel_rfl) (by kernel_rfl) (by kernel_rfl))
def zAt (fuel : Nat) : Tab := Tab.of [(181, (zlp fuel).te)] []
abbrev zqa : List Pm := [{ cs := [(Kd.list KP, false), (I6, false)], ag := true }]
abbrev zAu : List Pm := [{ cs := [(Kd.list KP, true), (I6, false)], ag := true }]
def zAv : List Norm := []
noncomputable def zAw : C := irOf Tryz.prog Tryz.f133 [] zAv []
theorem zMm : lightC Tryz.prog [] Tryz.f133.ntmps zAv [] 0 (bodyOf Tryz.f133) = some (zAw, 0) := by kernel_rfl
def zAx : List (Nat × Option (Nat × Bool)) := [(2, some (2, true))]
def zqb (fuel : Nat) (x0 : LP) (x1 : Int) : Option ((LP × (Int × Unit)) × Unit) :=
 Option.bind (za1 fuel ((x0, ()), ())) fun y_1 =>
 some (((y_1.1.1, x1, ()), ()))
def zlx (fuel : Nat) (x : ((LP × (Int × Unit)) × Unit)) : Option ((LP × (Int × Unit)) × Unit) := zqb fuel x.1.1 x.1.2.1
theorem zMn (fuel : Nat) (x : PsT zqa) : run (zAt fuel) 0 fuel zAw (env0 (svPs zqa x) 0) [] (endF zAx zAu) = zlx fuel x := by kernel_rfl
def zqc (fuel : Nat) : TF := ⟨zqa, zAu, true, zlx fuel⟩
theorem zMo (fuel : Nat) : FnSpec Tryz.prog 133 (zqc fuel) :=
  fn_spec (T := zAt fuel) (c := bodyOf Tryz.f133) (fn := Tryz.f133) (TabOK.of (entCons (zz1 fuel) entNil) (methNil)) mixed (by kernel_rfl) (by kernel_rfl) zMm (by kernel_rfl) (Nat.le_of_ble_eq_true (by kernel_rfl)) (rv := zAx) (by kernel_rfl) (zMn fuel)
theorem zMp (fuel : Nat) : EntryOK Tryz.prog 133 (zqc fuel).te := EntryOK.tf rfl (zMo fuel) (isFn (fn := Tryz.f133) (by kernel_rfl) (by kernel_rfl) (by kernel_rfl))
def zAy (fuel : Nat) : Tab := Tab.of [(130, (zp3 fuel).te), (131, (zp6 fuel).te), (132, (zp9 fuel).te), (133, (zqc fuel).te)] []
abbrev zqd : List Pm := [{ cs := [(Kd.list (Kd.list I6), false), (Kd.list I6, false), (Kd.list KP, false), (I6, false), (I6, false), (Kd.list KP, false), (I6, false)], ag := true }]
abbrev zAz : List Pm := [{ cs := [(Kd.list (Kd.list I6), false), (Kd.list I6, false), (Kd.list KP, false), (I6, false), (I6, false), (Kd.list KP, false), (I6, false)], ag := true }]
def zAA : List Norm := []
noncomputable def zAB : C := irOf Tryz.prog Tryz.f75 [] zAA []
theorem zMq : lightC Tryz.prog [] Tryz.f75.ntmps zAA [] 0 (bodyOf Tryz.f75) = some (zAB, 0) := by kernel_rfl
def zAC : List (Nat × Option (Nat × Bool)) := [(2, some (7, true))]
def zqe (fuel : Nat) (x0 : List (List Int)) (x1 : List Int) (x2 : LP) (x3 : Int) (x4 : Int) (x5 : LP) (x6 : Int) : Option (SumY × Unit) :=
 Option.bind (zlu fuel ((x0, ()), ())) fun y_1 =>
 Option.bind (zlv fuel ((x1, ()), ())) fun y_2 =>
 Option.bind (zlw fuel ((x2, x3, x4, ()), ())) fun y_3 =>
 Option.bind (zlx fuel ((x5, x6, ()), ())) fun y_4 =>
 some (((y_1.1.1, y_2.1.1, y_3.1.1, y_3.1.2.1, y_3.1.2.2.1, y_4.1.1, y_4.1.2.1, ()), ()))
def zm (fuel : Nat) (x : (SumY × Unit)) : Option (SumY × Unit) := zqe fuel x.1.1 x.1.2.1 x.1.2.2.1 x.1.2.2.2.1 x.1.2.2.2.2.1 x.1.2.2.2.2.2.1 x.1.2.2.2.2.2.2.1
theorem zMr (fuel : Nat) (x : PsT zqd) : run (zAy fuel) 0 fuel zAB (env0 (svPs zqd x) 0) [] (endF zAC zAz) = zm fuel x := by kernel_rfl
def zly (fuel : Nat) : TF := ⟨zqd, zAz, false, zm fuel⟩
theorem zMs (fuel : Nat) : FnSpec Tryz.prog 75 (zly fuel) :=
  fn_spec (T := zAy fuel) (c := bodyOf Tryz.f75) (fn := Tryz.f75) (TabOK.of (entCons (zMd fuel) (entCons (zMh fuel) (entCons (zMl fuel) (entCons (zMp fuel) entNil)))) (methNil)) mixed (by kernel_rfl) (by kernel_rfl) zMq (by kernel_rfl) (Nat.le_of_ble_eq_true (by kernel_rfl)) (rv := zAC) (by kernel_rfl) (zMr fuel)
theorem zAD (fuel : Nat) : EntryOK Tryz.prog 75 (zly fuel).te := EntryOK.tf rfl (zMs fuel) (isFn (fn := Tryz.f75) (by kernel_rfl) (by kernel_rfl) (by kernel_rfl))
end Go.Proofs.YtdgdoeknpakmlaaGreat.Den
namespace Go.Proofs.YtdgdoeknpakmlaaGreat.Den
open Go Go.RowKit
def zAE (fuel : Nat) : Tab := Tab.of [(47, (zeU fuel).te), (89, (zcj fuel).te), (112, (ziX fuel).te)] []
abbrev zqf : Sh := (.agg (.cell (Kd.list (Kd.list I6)) 0 .nil) (.agg (.cell (Kd.list (Kd.list I6)) 0 .nil) .nil))
abbrev zAF : Sh := (.agg (.cell (Kd.list (Kd.list I6)) 5 .nil) (.cell Kd.bool 0 .nil))
def zAG : List Norm := []
noncomputable def zAH : C := irOf Tryz.prog Tryz.f153 [] zAG []
theorem zMt : lightC Tryz.prog [] Tryz.f153.ntmps zAG [] 0 (bodyOf Tryz.f153) = some (zAH, 0) := by kernel_rfl
def zAI : List (Nat × Option (Nat × Bool)) := [(4, some (1, true)), (5, none)]
def zqg (fuel : Nat) (x0 : List (List Int)) (x1 : List (List Int)) : Option (((List (List Int)) × Unit) × (Bool × Unit)) :=
 Option.bind (zaj fuel ((x0, ()), ())) fun y_1 =>
 cond (!y_1.1.1)
 (none)
 (Option.bind (zaj fuel ((x1, ()), ())) fun y_3 =>
 cond (!y_3.1.1)
 (none)
 (Option.bind (zaK fuel ((x0, ()), ())) fun y_5 =>
 Option.bind (zaK fuel ((x1, ()), ())) fun y_6 =>
 cond (decide (w64 (y_5.1.1 + y_6.1.1) > (2000 : Int)))
 (none)
 (Option.bind (ze0 fuel ((x0, ()), (x1, ()), ())) fun y_8 =>
 some ((([List.getD y_8.1.1 0 [], List.getD y_8.1.1 1 [], List.getD y_8.1.1 2 []], ()), true, ())))))
def zlz (fuel : Nat) (x : (((List (List Int)) × Unit) × (((List (List Int)) × Unit) × Unit))) : Option (((List (List Int)) × Unit) × (Bool × Unit)) := zqg fuel x.1.1 x.2.1.1
theorem zMu (fuel : Nat) (x : Sh.T zqf) : run (zAE fuel) 0 fuel zAH (env0 (svS zqf x) 0) [] (endG zAI zAF) = zlz fuel x := by kernel_rfl
def zqh (fuel : Nat) : TG := ⟨zqf, zAF, true, zlz fuel⟩
theorem zMv (fuel : Nat) : FnSpecG Tryz.prog 153 (zqh fuel) :=
  ze (T := zAE fuel) (c := bodyOf Tryz.f153) (fn := Tryz.f153) (TabOK.of (entCons (zm7 fuel) (entCons (ziR fuel) (entCons (zts fuel) entNil))) (methNil)) mixed (by kernel_rfl) (by kernel_rfl) zMt (by kernel_rfl) (Nat.le_of_ble_eq_true (by kernel_rfl)) (rv := zAI) (by kernel_rfl) (fun x y h => (zMu fuel x).trans h)
theorem zMw (fuel : Nat) : EntryOK Tryz.prog 153 (zqh fuel).te := EntryOK.tg rfl (zMv fuel) (isFn (fn := Tryz.f153) (by kernel_rfl) (by kernel_rfl) (by kernel_rfl))
def zAJ (fuel : Nat) : Tab := Tab.of [(46, (zas fuel).te), (56, (z8 fuel).te), (153, (zqh fuel).te), (154, (z9 fuel).te)] []
abbrev zqi : Sh := (.ifc 27 (.agg (.cell (Kd.list (Kd.list I6)) 0 .nil) .nil) (.ifc 27 (.agg (.cell (Kd.list (Kd.list I6)) 0 .nil) .nil) .nil))
abbrev zAK : Sh := (.ifc 27 (.agg (.cell (Kd.list (Kd.list I6)) 5 .nil) .nil) (.cell Kd.bool 0 .nil))
def zAL : List Norm := []
noncomputable def zAM : C := irOf Tryz.prog Tryz.f103 [] zAL []
theorem zMx : lightC Tryz.prog [] Tryz.f103.ntmps zAL [] 0 (bodyOf Tryz.f103) = some (zAM, 0) := by kernel_rfl
def zAN : List (Nat × Option (Nat × Bool)) := [(4, none), (5, none)]
def zqj (fuel : Nat) (x0 : List (List Int)) (x1 : List (List Int)) : Option ((((List (List Int)) × Unit) × Unit) × (Bool × Unit)) :=
 Option.bind (zlz fuel ((x0, ()), (x1, ()), ())) fun y_1 =>
 some (((([List.getD y_1.1.1 0 [], List.getD y_1.1.1 1 [], List.getD y_1.1.1 2 []], ()), ()), y_1.2.1, ()))
def zlA (fuel : Nat) (x : ((((List (List Int)) × Unit) × Unit) × ((((List (List Int)) × Unit) × Unit) × Unit))) : Option ((((List (List Int)) × Unit) × Unit) × (Bool × Unit)) := zqj fuel x.1.1.1 x.2.1.1.1
theorem zMy (fuel : Nat) (x : Sh.T zqi) : run (zAJ fuel) 0 fuel zAM (env0 (svS zqi x) 0) [] (endG zAN zAK) = zlA fuel x := by kernel_rfl
def zqk (fuel : Nat) : TG := ⟨zqi, zAK, true, zlA fuel⟩
theorem zMz (fuel : Nat) : FnSpecG Tryz.prog 103 (zqk fuel) :=
  ze (T := zAJ fuel) (c := bodyOf Tryz.f103) (fn := Tryz.f103) (TabOK.of (entCons (zbv fuel) (entCons (zaV fuel) (entCons (zMw fuel) (entCons (zaW fuel) entNil)))) (methNil)) mixed (by kernel_rfl) (by kernel_rfl) zMx (by kernel_rfl) (Nat.le_of_ble_eq_true (by kernel_rfl)) (rv := zAN) (by kernel_rfl) (fun x y h => (zMy fuel x).trans h)
theorem zMA (fuel : Nat) : EntryOK Tryz.prog 103 (zqk fuel).te := EntryOK.tg rfl (zMz fuel) (isFn (fn := Tryz.f103) (by kernel_rfl) (by kernel_rfl) (by kernel_rfl))
def zAO (fuel : Nat) : Tab := Tab.of [(46, (zas fuel).te), (56, (z8 fuel).te), (153, (zaw fuel).te), (154, (z9 fuel).te)] []
abbrev zql : Sh := (.ifc 29 (.agg (.cell (Kd.list I6) 0 .nil) .nil) (.ifc 29 (.agg (.cell (Kd.list I6) 0 .nil) .nil) .nil))
abbrev zAP : Sh := (.ifc 29 (.agg (.cell (Kd.list I6) 1 .nil) .nil) (.cell Kd.bool 0 .nil))
def zAQ : List Norm := []
noncomputable def zAR : C := irOf Tryz.prog Tryz.f103 [] zAQ []
theorem zMB : lightC Tryz.prog [] Tryz.f103.ntmps zAQ [] 0 (bodyOf Tryz.f103) = some (zAR, 0) := by kernel_rfl
def zAS : List (Nat × Option (Nat × Bool)) := [(4, none), (5, none)]
def zqm (fuel : Nat) (x0 : List Int) (x1 : List Int) : Option ((((List Int) × Unit) × Unit) × (Bool × Unit)) :=
 Option.bind (zf6 fuel ((x0, ()), (x1, ()), ())) fun y_1 =>
 some ((((y_1.1.1, ()), ()), y_1.2.1.1, ()))
def zlB (fuel : Nat) (x : ((((List Int) × Unit) × Unit) × ((((List Int) × Unit) × Unit) × Unit))) : Option ((((List Int) × Unit) × Unit) × (Bool × Unit)) := zqm fuel x.1.1.1 x.2.1.1.1
theorem zMC (fuel : Nat) (x : Sh.T zql) : run (zAO fuel) 0 fuel zAR (env0 (svS zql x) 0) [] (endG zAS zAP) = zlB fuel x := by kernel_rfl
def zqn (fuel : Nat) : TG := ⟨zql, zAP, true, zlB fuel⟩
theorem zMD (fuel : Nat) : FnSpecG Tryz.prog 103 (zqn fuel) :=
  ze (T := zAO fuel) (c := bodyOf Tryz.f103) (fn := Tryz.f103) (TabOK.of (entCons (zbv fuel) (entCons (zaV fuel) (entCons (zbA fuel) (entCons (zaW fuel) entNil)))) (methNil)) mixed (by kernel_rfl) (by kernel_rfl) zMB (by kernel_rfl) (Nat.le_of_ble_eq_true (by kernel_rfl)) (rv := zAS) (by kernel_rfl) (fun x y h => (zMC fuel x).trans h)
theorem zME (fuel : Nat) : EntryOK Tryz.prog 103 (zqn fuel).te := EntryOK.tg rfl (zMD fuel) (isFn (fn := Tryz.f103) (by kernel_rfl) (by kernel_rfl) (by kernel_rfl))
def zAT (fuel : Nat) : Tab := Tab.of [(85, (zfb fuel).te), (90, (zoG fuel).te)] []
abbrev zqo : List Pm := [{ cs := [(Kd.list KP, false), (I6, false), (I6, false)], ag := true }, { cs := [(Kd.list KP, false), (I6, false), (I6, false)], ag := true }]
abbrev zAU : List Pm := [{ cs := [(Kd.list KP, true), (I6, false), (I6, false)], ag := true }, { cs := [(Kd.bool, false)], ag := false }]
def zAV : List Norm := []
noncomputable def zAW : C := irOf Tryz.prog Tryz.f46 [] zAV []
theorem zMF : lightC Tryz.prog [] Tryz.f46.ntmps zAV [] 0 (bodyOf Tryz.f46) = some (zAW, 0) := by kernel_rfl
def zAX : List (Nat × Option (Nat × Bool)) := [(4, some (3, true)), (5, none)]
def zqp (fuel : Nat) (x0 : LP) (x1 : Int) (x2 : Int) (x3 : LP) (x4 : Int) (x5 : Int) : Option ((LP × (Int × (Int × Unit))) × ((Bool × Unit) × Unit)) :=
 Option.bind (zaL fuel ((x0, x1, x2, ()), ())) fun y_1 =>
 cond (!y_1.1.1)
 (some ((([], (0 : Int), (0 : Int), ()), (false, ()), ())))
 (Option.bind (zaL fuel ((x3, x4, x5, ()), ())) fun y_3 =>
 cond (!y_3.1.1)
 (some ((([], (0 : Int), (0 : Int), ()), (false, ()), ())))
 (cond (decide (w64 (x2 + x5) > (2000 : Int)))
 (some ((([], (0 : Int), (0 : Int), ()), (false, ()), ())))
 (Option.bind (zj4 fuel ((x0, x1, x2, ()), (x3, x4, x5, ()), ())) fun y_6 =>
 some (((y_6.1.1, y_6.1.2.1, y_6.1.2.2.1, ()), (true, ()), ())))))
def zlC (fuel : Nat) (x : ((LP × (Int × (Int × Unit))) × ((LP × (Int × (Int × Unit))) × Unit))) : Option ((LP × (Int × (Int × Unit))) × ((Bool × Unit) × Unit)) := zqp fuel x.1.1 x.1.2.1 x.1.2.2.1 x.2.1.1 x.2.1.2.1 x.2.1.2.2.1
theorem zMG (fuel : Nat) (x : PsT zqo) : run (zAT fuel) 0 fuel zAW (env0 (svPs zqo x) 0) [] (endF zAX zAU) = zlC fuel x := by kernel_rfl
def zqq (fuel : Nat) : TF := ⟨zqo, zAU, true, zlC fuel⟩
theorem zMH (fuel : Nat) : FnSpec Tryz.prog 46 (zqq fuel) :=
  fn_spec (T := zAT fuel) (c := bodyOf Tryz.f46) (fn := Tryz.f46) (TabOK.of (entCons (zni fuel) (entCons (zIQ fuel) entNil)) (methNil)) mixed (by kernel_rfl) (by kernel_rfl) zMF (by kernel_rfl) (Nat.le_of_ble_eq_true (by kernel_rfl)) (rv := zAX) (by kernel_rfl) (zMG fuel)
theorem zMI (fuel : Nat) : EntryOK Tryz.prog 46 (zqq fuel).te := EntryOK.tf rfl (zMH fuel) (isFn (fn := Tryz.f46) (by kernel_rfl) (by kernel_rfl) (by kernel_rfl))
def zAY (fuel : Nat) : Tab := Tab.of [(46, (zqq fuel).te), (56, (z8 fuel).te), (153, (zaw fuel).te), (154, (z9 fuel).te)] []
abbrev zqr : Sh := (.ifc 32 (.agg (.cell (Kd.list KP) 0 (.cell I6 0 (.cell I6 0 .nil))) .nil) (.ifc 32 (.agg (.cell (Kd.list KP) 0 (.cell I6 0 (.cell I6 0 .nil))) .nil) .nil))
abbrev zAZ : Sh := (.ifc 32 (.agg (.cell (Kd.list KP) 1 (.cell I6 0 (.cell I6 0 .nil))) .nil) (.cell Kd.bool 0 .nil))
def zA0 : List Norm := []
noncomputable def zA1 : C := irOf Tryz.prog Tryz.f103 [] zA0 []
theorem zMJ : lightC Tryz.prog [] Tryz.f103.ntmps zA0 [] 0 (bodyOf Tryz.f103) = some (zA1, 0) := by kernel_rfl
def zA2 : List (Nat × Option (Nat × Bool)) := [(4, none), (5, none)]
def zqs (fuel : Nat) (x0 : LP) (x1 : Int) (x2 : Int) (x3 : LP) (x4 : Int) (x5 : Int) : Option (((LP × (Int × (Int × Unit))) × Unit) × (Bool × Unit)) :=
 Option.bind (zlC fuel ((x0, x1, x2, ()), (x3, x4, x5, ()), ())) fun y_1 =>
 some ((((y_1.1.1, y_1.1.2.1, y_1.1.2.2.1, ()), ()), y_1.2.1.1, ()))
def zlD (fuel : Nat) (x : (((LP × (Int × (Int × Unit))) × Unit) × (((LP × (Int × (Int × Unit))) × Unit) × Unit))) : Option (((LP × (Int × (Int × Unit))) × Unit) × (Bool × Unit)) := zqs fuel x.1.1.1 x.1.1.2.1 x.1.1.2.2.1 x.2.1.1.1 x.2.1.1.2.1 x.2.1.1.2.2.1
theorem zMK (fuel : Nat) (x : Sh.T zqr) : run (zAY fuel) 0 fuel zA1 (env0 (svS zqr x) 0) [] (endG zA2 zAZ) = zlD fuel x := by kernel_rfl
def zqt (fuel : Nat) : TG := ⟨zqr, zAZ, true, zlD fuel⟩
theorem zML (fuel : Nat) : FnSpecG Tryz.prog 103 (zqt fuel) :=
  ze (T := zAY fuel) (c := bodyOf Tryz.f103) (fn := Tryz.f103) (TabOK.of (entCons (zMI fuel) (entCons (zaV fuel) (entCons (zbA fuel) (entCons (zaW fuel) entNil)))) (methNil)) mixed (by kernel_rfl) (by kernel_rfl) zMJ (by kernel_rfl) (Nat.le_of_ble_eq_true (by kernel_rfl)) (rv := zA2) (by kernel_rfl) (fun x y h => (zMK fuel x).trans h)
theorem zMM (fuel : Nat) : EntryOK Tryz.prog 103 (zqt fuel).te := EntryOK.tg rfl (zML fuel) (isFn (fn := Tryz.f103) (by kernel_rfl) (by kernel_rfl) (by kernel_rfl))
def zA3 (fuel : Nat) : Tab := Tab.of [(46, (zas fuel).te), (56, (z8 fuel).te), (153, (zaw fuel).te), (154, (z9 fuel).te)] []
abbrev zqu : Sh := (.ifc 35 (.agg (.cell (Kd.list KP) 0 (.cell I6 0 .nil)) .nil) (.ifc 35 (.agg (.cell (Kd.list KP) 0 (.cell I6 0 .nil)) .nil) .nil))
abbrev zA4 : Sh := (.ifc 35 (.agg (.cell (Kd.list KP) 1 (.cell I6 0 .nil)) .nil) (.cell Kd.bool 0 .nil))
def zA5 : List Norm := []
noncomputable def zA6 : C := irOf Tryz.prog Tryz.f103 [] zA5 []
theorem zMN : lightC Tryz.prog [] Tryz.f103.ntmps zA5 [] 0 (bodyOf Tryz.f103) = some (zA6, 0) := by kernel_rfl
def zA7 : List (Nat × Option (Nat × Bool)) := [(4, none), (5, none)]
def zqv (fuel : Nat) (x0 : LP) (x1 : Int) (x2 : LP) (x3 : Int) : Option (((LP × (Int × Unit)) × Unit) × (Bool × Unit)) :=
 Option.bind (zcW fuel ((x0, x1, ()), (x2, x3, ()), ())) fun y_1 =>
 some ((((y_1.1.1, y_1.1.2.1, ()), ()), y_1.2.1.1, ()))
def zlE (fuel : Nat) (x : (((LP × (Int × Unit)) × Unit) × (((LP × (Int × Unit)) × Unit) × Unit))) : Option (((LP × (Int × Unit)) × Unit) × (Bool × Unit)) := zqv fuel x.1.1.1 x.1.1.2.1 x.2.1.1.1 x.2.1.1.2.1
theorem zMO (fuel : Nat) (x : Sh.T zqu) : run (zA3 fuel) 0 fuel zA6 (env0 (svS zqu x) 0) [] (endG zA7 zA4) = zlE fuel x := by kernel_rfl
def zqw (fuel : Nat) : TG := ⟨zqu, zA4, true, zlE fuel⟩
theorem zMP (fuel : Nat) : FnSpecG Tryz.prog 103 (zqw fuel) :=
  ze (T := zA3 fuel) (c := bodyOf Tryz.f103) (fn := Tryz.f103) (TabOK.of (entCons (zbv fuel) (entCons (zaV fuel) (entCons (zbA fuel) (entCons (zaW fuel) entNil)))) (methNil)) mixed (by kernel_rfl) (by kernel_rfl) zMN (by kernel_rfl) (Nat.le_of_ble_eq_true (by kernel_rfl)) (rv := zA7) (by kernel_rfl) (fun x y h => (zMO fuel x).trans h)
theorem zMQ (fuel : Nat) : EntryOK Tryz.prog 103 (zqw fuel).te := EntryOK.tg rfl (zMP fuel) (isFn (fn := Tryz.f103) (by kernel_rfl) (by kernel_rfl) (by kernel_rfl))
noncomputable def zA8 (fuel : Nat) : Tab := Tab.ofI [(34, (zjN fuel).te), (82, (zeJ fuel).te), (103, (zqk fuel).te), (103, (zqn fuel).te), (103, (zqt fuel).te), (103, (zqw fuel).te)] [] [(104, zww fuel)]
abbrev zqx : Sh := (.agg (.cell (Kd.list (Kd.list I6)) 0 (.cell (Kd.list I6) 0 (.cell (Kd.list KP) 0 (.cell I6 0 (.cell I6 0 (.cell (Kd.list KP) 0 (.cell I6 0 .nil))))))) (.agg (.cell (Kd.list (Kd.list I6)) 0 (.cell (Kd.list I6) 0 (.cell (Kd.list KP) 0 (.cell I6 0 (.cell I6 0 (.cell (Kd.list KP) 0 (.cell I6 0 .nil))))))) .nil))
abbrev zA9 : Sh := (.agg (.cell (Kd.list (Kd.list I6)) 5 (.cell (Kd.list I6) 1 (.cell (Kd.list KP) 1 (.cell I6 0 (.cell I6 0 (.cell (Kd.list KP) 1 (.cell I6 0 .nil))))))) (.cell Kd.bool 0 .nil))
def zBa : List Norm := [{ live := [24, 6, 7, 4], fix := [] }]
noncomputable def zBb : C := irOf Tryz.prog Tryz.f55 [45] zBa []
theorem zMR : lightC Tryz.prog [45] Tryz.f55.ntmps zBa [] 0 (bodyOf Tryz.f55) = some (zBb, 1) := by kernel_rfl
def zBc : List (Nat × Option (Nat × Bool)) := [(4, some (7, true)), (5, none)]
def zqy (fuel : Nat) (x0 : List (List Int)) (x1 : List Int) (x2 : LP) (x3 : Int) (x4 : Int) (x5 : LP) (x6 : Int) (x7 : List (List Int)) (x8 : List Int) (x9 : LP) (x10 : Int) (x11 : Int) (x12 : LP) (x13 : Int) : Option (SumY × (Bool × Unit)) :=
 Option.bind (zaU fuel ((x0, x1, x2, x3, x4, x5, x6, ()), ())) fun y_1 =>
 cond (!y_1.1.1)
 (none)
 (Option.bind (zaU fuel ((x7, x8, x9, x10, x11, x12, x13, ()), ())) fun y_3 =>
 cond (!y_3.1.1)
 (none)
 (Option.bind (zX fuel ((x0, x1, x2, x3, x4, x5, x6, ()), ())) fun y_5 =>
 Option.bind (zX fuel ((x7, x8, x9, x10, x11, x12, x13, ()), ())) fun y_6 =>
 Option.bind (zlA fuel (((y_5.1.1.1.1, ()), ()), ((y_6.1.1.1.1, ()), ()), ())) fun y_7 =>
 cond (!y_7.2.1)
 (none)
 (Option.bind (zlB fuel (((y_5.1.2.1.1.1, ()), ()), ((y_6.1.2.1.1.1, ()), ()), ())) fun y_9 =>
 cond (!y_9.2.1)
 (none)
 (Option.bind (zlD fuel (((y_5.1.2.2.1.1.1, y_5.1.2.2.1.1.2.1, y_5.1.2.2.1.1.2.2.1, ()), ()), ((y_6.1.2.2.1.1.1, y_6.1.2.2.1.1.2.1, y_6.1.2.2.1.1.2.2.1, ()), ()), ())) fun y_11 =>
 cond (!y_11.2.1)
 (none)
 (Option.bind (zlE fuel (((y_5.1.2.2.2.1.1.1, y_5.1.2.2.2.1.1.2.1, ()), ()), ((y_6.1.2.2.2.1.1.1, y_6.1.2.2.2.1.1.2.1, ()), ()), ())) fun y_13 =>
 cond (!y_13.2.1)
 (none)
 (some ((([List.getD y_7.1.1.1 0 [], List.getD y_7.1.1.1 1 [], List.getD y_7.1.1.1 2 []], y_9.1.1.1, y_11.1.1.1, y_11.1.1.2.1, y_11.1.1.2.2.1, y_13.1.1.1, y_13.1.1.2.1, ()), true, ()))))))))
def zhI (fuel : Nat) (x : (SumY × (SumY × Unit))) : Option (SumY × (Bool × Unit)) := zqy fuel x.1.1 x.1.2.1 x.1.2.2.1 x.1.2.2.2.1 x.1.2.2.2.2.1 x.1.2.2.2.2.2.1 x.1.2.2.2.2.2.2.1 x.2.1.1 x.2.1.2.1 x.2.1.2.2.1 x.2.1.2.2.2.1 x.2.1.2.2.2.2.1 x.2.1.2.2.2.2.2.1 x.2.1.2.2.2.2.2.2.1
theorem zMS (fuel : Nat) (x : Sh.T zqx) : run (zA8 fuel) 0 (fuel + 6) zBb (env0 (svS zqx x) 0) [] (endG zBc zA9) = zhI fuel x := by kernel_rfl
def zqz (fuel : Nat) : TG := ⟨zqx, zA9, true, zhI fuel⟩
theorem zMT (fuel : Nat) : FnSpecG Tryz.prog 55 (zqz fuel) :=
  ze (T := zA8 fuel) (c := bodyOf Tryz.f55) (fn := Tryz.f55) (TabOK.ofI (entCons (zvx fuel) (entCons (zm1 fuel) (entCons (zMA fuel) (entCons (zME fuel) (entCons (zMM fuel) (entCons (zMQ fuel) entNil)))))) (methNil) (inlCons (zID fuel) (inlNil))) mixed (by kernel_rfl) (by kernel_rfl) zMR (by kernel_rfl) (Nat.le_of_ble_eq_true (by kernel_rfl)) (rv := zBc) (by kernel_rfl) (fun x y h => (zMS fuel x).trans h)
theorem zMU (fuel : Nat) : EntryOK Tryz.prog 55 (zqz fuel).te := EntryOK.tg rfl (zMT fuel) (isFn (fn := Tryz.f55) (by kernel_rfl) (by kernel_rfl) (by kernel_rfl))
def zBd (fuel : Nat) : Tab := Tab.of [(34, (zjN fuel).te), (82, (zeJ fuel).te), (103, (zos fuel).te), (103, (zov fuel).te), (103, (zoy fuel).te), (103, (zoB fuel).te), (104, (zm4 fuel).te)] []
abbrev zqA : Sh := (.agg (.cell (Kd.list (Kd.list I6)) 0 (.cell (Kd.list I6) 0 (.cell (Kd.list KP) 0 (.cell I6 0 (.cell I6 0 (.cell (Kd.list KP) 0 (.cell I6 0 .nil))))))) (.agg (.cell (Kd.list (Kd.list I6)) 0 (.cell (Kd.list I6) 0 (.cell (Kd.list KP) 0 (.cell I6 0 (.cell I6 0 (.cell (Kd.list KP) 0 (.cell I6 0 .nil))))))) .nil))
abbrev zBe : Sh := (.agg (.nls (.nls (.nls (.cell I6 0 (.cell I6 0 (.nls (.cell I6 0 .nil))))))) (.cell Kd.bool 0 .nil))
def zBf : List Norm := [{ live := [24, 6, 7, 4], fix := [] }]
noncomputable def zBg : C := irOf Tryz.prog Tryz.f55 [] zBf []
theorem zMV : lightC Tryz.prog [] Tryz.f55.ntmps zBf [] 0 (bodyOf Tryz.f55) = some (zBg, 1) := by kernel_rfl
def zBh : List (Nat × Option (Nat × Bool)) := [(4, some (7, true)), (5, none)]
def zbL (fuel : Nat) (x0 : List (List Int)) (x1 : List Int) (x2 : LP) (x3 : Int) (x4 : Int) (x5 : LP) (x6 : Int) (x7 : List (List Int)) (x8 : List Int) (x9 : LP) (x10 : Int) (x11 : Int) (x12 : LP) (x13 : Int) : Option ((Int × (Int × (Int × Unit))) × (Bool × Unit)) :=
 Option.bind (zaU fuel ((x0, x1, x2, x3, x4, x5, x6, ()), ())) fun y_1 =>
 cond (!y_1.1.1)
 (some ((((0 : Int), (0 : Int), (0 : Int), ()), false, ())))
 (Option.bind (zaU fuel ((x7, x8, x9, x10, x11, x12, x13, ()), ())) fun y_3 =>
 cond (!y_3.1.1)
 (some ((((0 : Int), (0 : Int), (0 : Int), ()), false, ())))
 (Option.bind (zX fuel ((x0, x1, x2, x3, x4, x5, x6, ()), ())) fun y_5 =>
 Option.bind (zX fuel ((x7, x8, x9, x10, x11, x12, x13, ()), ())) fun y_6 =>
 Option.bind (zj0 fuel (((y_5.1.1.1.1, ()), ()), ((y_6.1.1.1.1, ()), ()), ())) fun y_7 =>
 cond (!y_7.2.1)
 (some ((((0 : Int), (0 : Int), (0 : Int), ()), false, ())))
 (Option.bind (zou fuel (((y_5.1.2.1.1.1, ()), ()), ((y_6.1.2.1.1.1, ()), ()), ())) fun y_9 =>
 cond (!y_9.2.1)
 (some ((((0 : Int), (0 : Int), (0 : Int), ()), false, ())))
 (Option.bind (zox fuel (((y_5.1.2.2.1.1.1, y_5.1.2.2.1.1.2.1, y_5.1.2.2.1.1.2.2.1, ()), ()), ((y_6.1.2.2.1.1.1, y_6.1.2.2.1.1.2.1, y_6.1.2.2.1.1.2.2.1, ()), ()), ())) fun y_11 =>
 cond (!y_11.2.1)
 (some ((((0 : Int), (0 : Int), (0 : Int), ()), false, ())))
 (Option.bind (zoA fuel (((y_5.1.2.2.2.1.1.1, y_5.1.2.2.2.1.1.2.1, ()), ()), ((y_6.1.2.2.2.1.1.1, y_6.1.2.2.2.1.1.2.1, ()), ()), ())) fun y_13 =>
 cond (!y_13.2.1)
 (some ((((0 : Int), (0 : Int), (0 : Int), ()), false, ())))
 (Option.bind (zm3 fuel ((((y_7.1.1.1, ()), ()), ((y_9.1.1.1, ()), ()), ((y_11.1.1.1, y_11.1.1.2.1, y_11.1.1.2.2.1, ()), ()), ((y_13.1.1.1, y_13.1.1.2.1, ()), ()), ()), ())) fun y_15 =>
 none))))))
def zhJ (fuel : Nat) (x : (SumY × (SumY × Unit))) : Option ((Int × (Int × (Int × Unit))) × (Bool × Unit)) := zbL fuel x.1.1 x.1.2.1 x.1.2.2.1 x.1.2.2.2.1 x.1.2.2.2.2.1 x.1.2.2.2.2.2.1 x.1.2.2.2.2.2.2.1 x.2.1.1 x.2.1.2.1 x.2.1.2.2.1 x.2.1.2.2.2.1 x.2.1.2.2.2.2.1 x.2.1.2.2.2.2.2.1 x.2.1.2.2.2.2.2.2.1
theorem zMW (fuel : Nat) (x : Sh.T zqA) : run (zBd fuel) 0 (fuel + 6) zBg (env0 (svS zqA x) 0) [] (endG zBh zBe) = zhJ fuel x := by kernel_rfl
def zqB (fuel : Nat) : TG := ⟨zqA, zBe, true, zhJ fuel⟩
theorem zMX (fuel : Nat) : FnSpecG Tryz.prog 55 (zqB fuel) :=
  ze (T := zBd fuel) (c := bodyOf Tryz.f55) (fn := Tryz.f55) (TabOK.of (entCons (zvx fuel) (entCons (zm1 fuel) (entCons (zIm fuel) (entCons (zIr fuel) (entCons (zIw fuel) (entCons (zIB fuel) (entCons (zFf fuel) entNil))))))) (methNil)) mixed (by kernel_rfl) (by kernel_rfl) zMV (by kernel_rfl) (Nat.le_of_ble_eq_true (by kernel_rfl)) (rv := zBh) (by kernel_rfl) (fun x y h => (zMW fuel x).trans h)
theorem zMY (fuel : Nat) : EntryOK Tryz.prog 55 (zqB fuel).te := EntryOK.tg rfl (zMX fuel) (isFn (fn := Tryz.f55) (by kernel_rfl) (by kernel_rfl) (by kernel_rfl))
end Go.Proofs.YtdgdoeknpakmlaaGreat.Den
namespace Go.Proofs.YtdgdoeknpakmlaaGreat.Den
open Go Go.RowKit
noncomputable def zBi (fuel : Nat) : Tab := Tab.ofI [(54, (zjZ fuel).te), (55, (zqz fuel).te), (69, (zkv fuel).te), (73, (zk4 fuel).te), (74, (zlf fuel).te), (75, (zly fuel).te)] [] [(72, zpx fuel), (75, zpZ fuel)]
abbrev zlF : List Pm := [{ cs := [(Kd.list (Kd.list I6), false), (Kd.list I6, false), (Kd.list KP, false), (I6, false), (I6, false), (Kd.list KP, false), (I6, false)], ag := true }, { cs := [(Kd.list (Kd.list I6), false), (Kd.list I6, false), (Kd.list KP, false), (I6, false), (I6, false), (Kd.list KP, false), (I6, false)], ag := true }]
abbrev zBj : List Pm := [{ cs := [(Kd.bool, false)], ag := false }]
def zBk : List Norm := []
noncomputable def zBl : C := irOf Tryz.prog Tryz.f26 [36, 38, 66, 69, 85] zBk []
theorem zMZ : lightC Tryz.prog [36, 38, 66, 69, 85] Tryz.f26.ntmps zBk [] 0 (bodyOf Tryz.f26) = some (zBl, 0) := by kernel_rfl
def zBm : List (Nat × Option (Nat × Bool)) := [(4, none)]
def zqC (fuel : Nat) (x0 : List (List Int)) (x1 : List Int) (x2 : LP) (x3 : Int) (x4 : Int) (x5 : LP) (x6 : Int) (x7 : List (List Int)) (x8 : List Int) (x9 : LP) (x10 : Int) (x11 : Int) (x12 : LP) (x13 : Int) : Option ((Bool × Unit) × Unit) :=
 Option.bind (zbH fuel ((x0, x1, x2, x3, x4, x5, x6, ()), ((1048576 : Int), ()), ())) fun y_1 =>
 cond (decide (y_1.1.1 < (0 : Int)))
 (some (((true, ()), ())))
 (Option.bind (zbH fuel ((x7, x8, x9, x10, x11, x12, x13, ()), (y_1.1.1, ()), ())) fun y_3 =>
 cond (decide (y_3.1.1 < (0 : Int)))
 (some (((true, ()), ())))
 (Option.bind (zm fuel ((x0, x1, x2, x3, x4, x5, x6, ()), ())) fun y_5 =>
 Option.bind (zm fuel ((x7, x8, x9, x10, x11, x12, x13, ()), ())) fun y_6 =>
 Option.bind (zcV fuel ((y_5.1.1, y_5.1.2.1, y_5.1.2.2.1, y_5.1.2.2.2.1, y_5.1.2.2.2.2.1, y_5.1.2.2.2.2.2.1, y_5.1.2.2.2.2.2.2.1, ()), (y_6.1.1, y_6.1.2.1, y_6.1.2.2.1, y_6.1.2.2.2.1, y_6.1.2.2.2.2.1, y_6.1.2.2.2.2.2.1, y_6.1.2.2.2.2.2.2.1, ()), ())) fun y_7 =>
 Option.bind (zaz fuel (x0, ())) fun y_8 =>
 Option.bind (zF fuel ((x1, ()), ())) fun y_9 =>
 Option.bind (za0 fuel ((x2, ()), ())) fun y_10 =>
 Option.bind (za1 fuel ((x5, ()), ())) fun y_11 =>
 Option.bind (zaz fuel (x7, ())) fun y_12 =>
 Option.bind (zF fuel ((x8, ()), ())) fun y_13 =>
 Option.bind (za0 fuel ((x9, ()), ())) fun y_14 =>
 Option.bind (za1 fuel ((x12, ()), ())) fun y_15 =>
 Option.bind (zhI fuel ((List.map (fun xs => xs) y_8, y_9.1.1, y_10.1.1, x3, x4, y_11.1.1, x6, ()), (List.map (fun xs => xs) y_12, y_13.1.1, y_14.1.1, x10, x11, y_15.1.1, x13, ()), ())) fun y_16 =>
 Option.bind (zl fuel (([List.getD y_16.1.1 0 [], List.getD y_16.1.1 1 [], List.getD y_16.1.1 2 []], y_16.1.2.1, y_16.1.2.2.1, y_16.1.2.2.2.1, y_16.1.2.2.2.2.1, y_16.1.2.2.2.2.2.1, y_16.1.2.2.2.2.2.2.1, ()), (y_7.1.1, y_7.1.2.1, y_7.1.2.2.1, y_7.1.2.2.2.1, y_7.1.2.2.2.2.1, y_7.1.2.2.2.2.2.1, y_7.1.2.2.2.2.2.2.1, ()), ())) fun y_17 =>
 cond (!y_17.1.1)
 (some (((false, ()), ())))
 (cond (!y_16.2.1 == y_7.2.1.1)
 (some (((false, ()), ())))
 (Option.bind (zm fuel ((x0, x1, x2, x3, x4, x5, x6, ()), ())) fun y_20 =>
 Option.bind (zl fuel ((List.map (fun xs => xs) y_8, y_9.1.1, y_10.1.1, x3, x4, y_11.1.1, x6, ()), (y_20.1.1, y_20.1.2.1, y_20.1.2.2.1, y_20.1.2.2.2.1, y_20.1.2.2.2.2.1, y_20.1.2.2.2.2.2.1, y_20.1.2.2.2.2.2.2.1, ()), ())) fun y_21 =>
 cond (!y_21.1.1)
 (some (((false, ()), ())))
 (Option.bind (zm fuel ((x7, x8, x9, x10, x11, x12, x13, ()), ())) fun y_23 =>
 Option.bind (zl fuel ((List.map (fun xs => xs) y_12, y_13.1.1, y_14.1.1, x10, x11, y_15.1.1, x13, ()), (y_23.1.1, y_23.1.2.1, y_23.1.2.2.1, y_23.1.2.2.2.1, y_23.1.2.2.2.2.1, y_23.1.2.2.2.2.2.1, y_23.1.2.2.2.2.2.2.1, ()), ())) fun y_24 =>
 cond (!y_24.1.1)
 (some (((false, ()), ())))
 (Option.bind (zab fuel (y_8, (1 : Int))) fun y_26 =>
 Option.bind (zy fuel (y_9.1.1, (), (y_26.2, ()), ())) fun y_27 =>
 Option.bind (zaX fuel (y_10.1.1, (), (y_27.2.1.1, ()), ())) fun y_28 =>
 Option.bind (zaY fuel (y_11.1.1, (), (y_28.2.1.1, ()), ())) fun y_29 =>
 Option.bind (zab fuel (y_12, y_29.2.1.1)) fun y_30 =>
 Option.bind (zy fuel (y_13.1.1, (), (y_30.2, ()), ())) fun y_31 =>
 Option.bind (zaX fuel (y_14.1.1, (), (y_31.2.1.1, ()), ())) fun y_32 =>
 Option.bind (zaY fuel (y_15.1.1, (), (y_32.2.1.1, ()), ())) fun y_33 =>
 cond (decide (y_33.2.1.1 < (0 : Int)))
 (some (((false, ()), ())))
 (Option.bind (zl fuel (([List.getD y_16.1.1 0 [], List.getD y_16.1.1 1 [], List.getD y_16.1.1 2 []], y_16.1.2.1, y_16.1.2.2.1, y_16.1.2.2.2.1, y_16.1.2.2.2.2.1, y_16.1.2.2.2.2.2.1, y_16.1.2.2.2.2.2.2.1, ()), (y_7.1.1, y_7.1.2.1, y_7.1.2.2.1, y_7.1.2.2.2.1, y_7.1.2.2.2.2.1, y_7.1.2.2.2.2.2.1, y_7.1.2.2.2.2.2.2.1, ()), ())) fun y_35 =>
 cond (!y_35.1.1)
 (some (((false, ()), ())))
 (cond (!y_16.2.1 == y_7.2.1.1)
 (some (((false, ()), ())))
 (Option.bind (zy fuel (List.getD y_16.1.1 0 [], (), ((1 : Int), ()), ())) fun y_38 =>
 Option.bind (zy fuel (List.getD y_16.1.1 1 [], (), (y_38.2.1.1, ()), ())) fun y_39 =>
 Option.bind (zy fuel (List.getD y_16.1.1 2 [], (), (y_39.2.1.1, ()), ())) fun y_40 =>
 Option.bind (zy fuel (y_16.1.2.1, (), (y_40.2.1.1, ()), ())) fun y_41 =>
 Option.bind (zaX fuel (y_16.1.2.2.1, (), (y_41.2.1.1, ()), ())) fun y_42 =>
 Option.bind (zaY fuel (y_16.1.2.2.2.2.2.1, (), (y_42.2.1.1, ()), ())) fun y_43 =>
 Option.bind (zaZ fuel (([y_38.1, y_39.1, y_40.1], y_41.1, y_42.1, y_16.1.2.2.2.1, y_16.1.2.2.2.2.1, y_43.1, y_16.1.2.2.2.2.2.2.1, ()), ((1 : Int), ()), ())) fun y_44 =>
 cond (decide (y_44.1.1 < (0 : Int)))
 (some (((false, ()), ())))
 (cond (y_44.1.1 != y_43.2.1.1)
 (some (((false, ()), ())))
 (Option.bind (zm fuel ((x0, x1, x2, x3, x4, x5, x6, ()), ())) fun y_47 =>
 Option.bind (zm fuel ((x7, x8, x9, x10, x11, x12, x13, ()), ())) fun y_48 =>
 Option.bind (zhI fuel ((y_47.1.1, y_47.1.2.1, y_47.1.2.2.1, y_47.1.2.2.2.1, y_47.1.2.2.2.2.1, y_47.1.2.2.2.2.2.1, y_47.1.2.2.2.2.2.2.1, ()), (y_48.1.1, y_48.1.2.1, y_48.1.2.2.1, y_48.1.2.2.2.1, y_48.1.2.2.2.2.1, y_48.1.2.2.2.2.2.1, y_48.1.2.2.2.2.2.2.1, ()), ())) fun y_49 =>
 Option.bind (zl fuel (([List.getD y_49.1.1 0 [], List.getD y_49.1.1 1 [], List.getD y_49.1.1 2 []], y_49.1.2.1, y_49.1.2.2.1, y_49.1.2.2.2.1, y_49.1.2.2.2.2.1, y_49.1.2.2.2.2.2.1, y_49.1.2.2.2.2.2.2.1, ()), (y_7.1.1, y_7.1.2.1, y_7.1.2.2.1, y_7.1.2.2.2.1, y_7.1.2.2.2.2.1, y_7.1.2.2.2.2.2.1, y_7.1.2.2.2.2.2.2.1, ()), ())) fun y_50 =>
 cond (!y_50.1.1)
 (some (((false, ()), ())))
 (cond (!y_49.2.1 == y_7.2.1.1)
 (some (((false, ()), ())))
 (Option.bind (zaZ fuel (([y_38.1, y_39.1, y_40.1], y_41.1, y_42.1, y_16.1.2.2.2.1, y_16.1.2.2.2.2.1, y_43.1, y_16.1.2.2.2.2.2.2.1, ()), ((1 : Int), ()), ())) fun y_53 =>
 cond (decide (y_53.1.1 < (0 : Int)))
 (some (((false, ()), ())))
 (cond (y_53.1.1 != y_43.2.1.1)
 (some (((false, ()), ())))
 (some (((true, ()), ())))))))))))))))))
def zlG (fuel : Nat) (x : (SumY × (SumY × Unit))) : Option ((Bool × Unit) × Unit) := zqC fuel x.1.1 x.1.2.1 x.1.2.2.1 x.1.2.2.2.1 x.1.2.2.2.2.1 x.1.2.2.2.2.2.1 x.1.2.2.2.2.2.2.1 x.2.1.1 x.2.1.2.1 x.2.1.2.2.1 x.2.1.2.2.2.1 x.2.1.2.2.2.2.1 x.2.1.2.2.2.2.2.1 x.2.1.2.2.2.2.2.2.1
theorem zM0 (fuel : Nat) (x : PsT zlF) : run (zBi fuel) 0 fuel zBl (env0 (svPs zlF x) 0) [] (endF zBm zBj) = zlG fuel x := by kernel_rfl
def zM1 (fuel : Nat) : TF := ⟨zlF, zBj, true, zlG fuel⟩
theorem zM2 (fuel : Nat) : FnSpec Tryz.prog 26 (zM1 fuel) :=
  fn_spec (T := zBi fuel) (c := bodyOf Tryz.f26) (fn := Tryz.f26) (TabOK.ofI (entCons (zvS fuel) (entCons (zMU fuel) (entCons (zxu fuel) (entCons (zyC fuel) (entCons (zzw fuel) (entCons (zAD fuel) entNil)))))) (methNil) (inlCons (zyO fuel) (inlCons (zAb fuel) (inlNil)))) mixed (by kernel_rfl) (by kernel_rfl) zMZ (by kernel_rfl) (Nat.le_of_ble_eq_true (by kernel_rfl)) (rv := zBm) (by kernel_rfl) (zM0 fuel)
noncomputable def zBn (fuel : Nat) : Tab := Tab.ofI [(54, (zjZ fuel).te), (55, (zqB fuel).te), (69, (zkv fuel).te), (73, (zk4 fuel).te), (74, (zlf fuel).te), (75, (zly fuel).te)] [] [(72, zpx fuel), (75, zpZ fuel)]
abbrev zlH : List Pm := [{ cs := [(Kd.list (Kd.list I6), false), (Kd.list I6, false), (Kd.list KP, false), (I6, false), (I6, false), (Kd.list KP, false), (I6, false)], ag := true }, { cs := [(Kd.list (Kd.list I6), false), (Kd.list I6, false), (Kd.list KP, false), (I6, false), (I6, false), (Kd.list KP, false), (I6, false)], ag := true }]
abbrev zBo : List Pm := [{ cs := [(Kd.bool, false)], ag := false }]
def zBp : List Norm := []
noncomputable def zBq : C := irOf Tryz.prog Tryz.f26 [36, 38, 66, 69, 85] zBp []
theorem zM3 : lightC Tryz.prog [36, 38, 66, 69, 85] Tryz.f26.ntmps zBp [] 0 (bodyOf Tryz.f26) = some (zBq, 0) := by kernel_rfl
def zBr : List (Nat × Option (Nat × Bool)) := [(4, none)]
def zqD (fuel : Nat) (x0 : List (List Int)) (x1 : List Int) (x2 : LP) (x3 : Int) (x4 : Int) (x5 : LP) (x6 : Int) (x7 : List (List Int)) (x8 : List Int) (x9 : LP) (x10 : Int) (x11 : Int) (x12 : LP) (x13 : Int) : Option ((Bool × Unit) × Unit) :=
 Option.bind (zbH fuel ((x0, x1, x2, x3, x4, x5, x6, ()), ((1048576 : Int), ()), ())) fun y_1 =>
 cond (decide (y_1.1.1 < (0 : Int)))
 (some (((true, ()), ())))
 (Option.bind (zbH fuel ((x7, x8, x9, x10, x11, x12, x13, ()), (y_1.1.1, ()), ())) fun y_3 =>
 cond (decide (y_3.1.1 < (0 : Int)))
 (some (((true, ()), ())))
 (Option.bind (zm fuel ((x0, x1, x2, x3, x4, x5, x6, ()), ())) fun y_5 =>
 Option.bind (zm fuel ((x7, x8, x9, x10, x11, x12, x13, ()), ())) fun y_6 =>
 Option.bind (zcV fuel ((y_5.1.1, y_5.1.2.1, y_5.1.2.2.1, y_5.1.2.2.2.1, y_5.1.2.2.2.2.1, y_5.1.2.2.2.2.2.1, y_5.1.2.2.2.2.2.2.1, ()), (y_6.1.1, y_6.1.2.1, y_6.1.2.2.1, y_6.1.2.2.2.1, y_6.1.2.2.2.2.1, y_6.1.2.2.2.2.2.1, y_6.1.2.2.2.2.2.2.1, ()), ())) fun y_7 =>
 Option.bind (zaz fuel (x0, ())) fun y_8 =>
 Option.bind (zF fuel ((x1, ()), ())) fun y_9 =>
 Option.bind (za0 fuel ((x2, ()), ())) fun y_10 =>
 Option.bind (za1 fuel ((x5, ()), ())) fun y_11 =>
 Option.bind (zaz fuel (x7, ())) fun y_12 =>
 Option.bind (zF fuel ((x8, ()), ())) fun y_13 =>
 Option.bind (za0 fuel ((x9, ()), ())) fun y_14 =>
 Option.bind (za1 fuel ((x12, ()), ())) fun y_15 =>
 Option.bind (zhJ fuel ((List.map (fun xs => xs) y_8, y_9.1.1, y_10.1.1, x3, x4, y_11.1.1, x6, ()), (List.map (fun xs => xs) y_12, y_13.1.1, y_14.1.1, x10, x11, y_15.1.1, x13, ()), ())) fun y_16 =>
 Option.bind (zl fuel (([], [], [], y_16.1.1, y_16.1.2.1, [], y_16.1.2.2.1, ()), (y_7.1.1, y_7.1.2.1, y_7.1.2.2.1, y_7.1.2.2.2.1, y_7.1.2.2.2.2.1, y_7.1.2.2.2.2.2.1, y_7.1.2.2.2.2.2.2.1, ()), ())) fun y_17 =>
 cond (!y_17.1.1)
 (some (((false, ()), ())))
 (cond (!y_16.2.1 == y_7.2.1.1)
 (some (((false, ()), ())))
 (Option.bind (zm fuel ((x0, x1, x2, x3, x4, x5, x6, ()), ())) fun y_20 =>
 Option.bind (zl fuel ((List.map (fun xs => xs) y_8, y_9.1.1, y_10.1.1, x3, x4, y_11.1.1, x6, ()), (y_20.1.1, y_20.1.2.1, y_20.1.2.2.1, y_20.1.2.2.2.1, y_20.1.2.2.2.2.1, y_20.1.2.2.2.2.2.1, y_20.1.2.2.2.2.2.2.1, ()), ())) fun y_21 =>
 cond (!y_21.1.1)
 (some (((false, ()), ())))
 (Option.bind (zm fuel ((x7, x8, x9, x10, x11, x12, x13, ()), ())) fun y_23 =>
 Option.bind (zl fuel ((List.map (fun xs => xs) y_12, y_13.1.1, y_14.1.1, x10, x11, y_15.1.1, x13, ()), (y_23.1.1, y_23.1.2.1, y_23.1.2.2.1, y_23.1.2.2.2.1, y_23.1.2.2.2.2.1, y_23.1.2.2.2.2.2.1, y_23.1.2.2.2.2.2.2.1, ()), ())) fun y_24 =>
 cond (!y_24.1.1)
 (some (((false, ()), ())))
 (Option.bind (zab fuel (y_8, (1 : Int))) fun y_26 =>
 Option.bind (zy fuel (y_9.1.1, (), (y_26.2, ()), ())) fun y_27 =>
 Option.bind (zaX fuel (y_10.1.1, (), (y_27.2.1.1, ()), ())) fun y_28 =>
 Option.bind (zaY fuel (y_11.1.1, (), (y_28.2.1.1, ()), ())) fun y_29 =>
 Option.bind (zab fuel (y_12, y_29.2.1.1)) fun y_30 =>
 Option.bind (zy fuel (y_13.1.1, (), (y_30.2, ()), ())) fun y_31 =>
 Option.bind (zaX fuel (y_14.1.1, (), (y_31.2.1.1, ()), ())) fun y_32 =>
 Option.bind (zaY fuel (y_15.1.1, (), (y_32.2.1.1, ()), ())) fun y_33 =>
 cond (decide (y_33.2.1.1 < (0 : Int)))
 (some (((false, ()), ())))
 (Option.bind (zl fuel (([], [], [], y_16.1.1, y_16.1.2.1, [], y_16.1.2.2.1, ()), (y_7.1.1, y_7.1.2.1, y_7.1.2.2.1, y_7.1.2.2.2.1, y_7.1.2.2.2.2.1, y_7.1.2.2.2.2.2.1, y_7.1.2.2.2.2.2.2.1, ()), ())) fun y_35 =>
 cond (!y_35.1.1)
 (some (((false, ()), ())))
 (cond (!y_16.2.1 == y_7.2.1.1)
 (some (((false, ()), ())))
 (Option.bind (zkA fuel ((1 : Int), ())) fun y_38 =>
 Option.bind (zkF fuel (y_38.1, ())) fun y_39 =>
 Option.bind (zkK fuel (y_39.1, ())) fun y_40 =>
 Option.bind (zaZ fuel (([], [], [], y_16.1.1, y_16.1.2.1, [], y_16.1.2.2.1, ()), ((1 : Int), ()), ())) fun y_41 =>
 cond (decide (y_41.1.1 < (0 : Int)))
 (some (((false, ()), ())))
 (cond (y_41.1.1 != y_40.1)
 (some (((false, ()), ())))
 (Option.bind (zm fuel ((x0, x1, x2, x3, x4, x5, x6, ()), ())) fun y_44 =>
 Option.bind (zm fuel ((x7, x8, x9, x10, x11, x12, x13, ()), ())) fun y_45 =>
 Option.bind (zhJ fuel ((y_44.1.1, y_44.1.2.1, y_44.1.2.2.1, y_44.1.2.2.2.1, y_44.1.2.2.2.2.1, y_44.1.2.2.2.2.2.1, y_44.1.2.2.2.2.2.2.1, ()), (y_45.1.1, y_45.1.2.1, y_45.1.2.2.1, y_45.1.2.2.2.1, y_45.1.2.2.2.2.1, y_45.1.2.2.2.2.2.1, y_45.1.2.2.2.2.2.2.1, ()), ())) fun y_46 =>
 Option.bind (zl fuel (([], [], [], y_46.1.1, y_46.1.2.1, [], y_46.1.2.2.1, ()), (y_7.1.1, y_7.1.2.1, y_7.1.2.2.1, y_7.1.2.2.2.1, y_7.1.2.2.2.2.1, y_7.1.2.2.2.2.2.1, y_7.1.2.2.2.2.2.2.1, ()), ())) fun y_47 =>
 cond (!y_47.1.1)
 (some (((false, ()), ())))
 (cond (!y_46.2.1 == y_7.2.1.1)
 (some (((false, ()), ())))
 (Option.bind (zaZ fuel (([], [], [], y_16.1.1, y_16.1.2.1, [], y_16.1.2.2.1, ()), ((1 : Int), ()), ())) fun y_50 =>
 cond (decide (y_50.1.1 < (0 : Int)))
 (some (((false, ()), ())))
 (cond (y_50.1.1 != y_40.1)
 (some (((false, ()), ())))
 (some (((true, ()), ())))))))))))))))))
def zlI (fuel : Nat) (x : (SumY × (SumY × Unit))) : Option ((Bool × Unit) × Unit) := zqD fuel x.1.1 x.1.2.1 x.1.2.2.1 x.1.2.2.2.1 x.1.2.2.2.2.1 x.1.2.2.2.2.2.1 x.1.2.2.2.2.2.2.1 x.2.1.1 x.2.1.2.1 x.2.1.2.2.1 x.2.1.2.2.2.1 x.2.1.2.2.2.2.1 x.2.1.2.2.2.2.2.1 x.2.1.2.2.2.2.2.2.1
theorem zM4 (fuel : Nat) (x : PsT zlH) : run (zBn fuel) 0 fuel zBq (env0 (svPs zlH x) 0) [] (endF zBr zBo) = zlI fuel x := by kernel_rfl
def zM5 (fuel : Nat) : TF := ⟨zlH, zBo, true, zlI fuel⟩
theorem zM6 (fuel : Nat) : FnSpec Tryz.prog 26 (zM5 fuel) :=
  fn_spec (T := zBn fuel) (c := bodyOf Tryz.f26) (fn := Tryz.f26) (TabOK.ofI (entCons (zvS fuel) (entCons (zMY fuel) (entCons (zxu fuel) (entCons (zyC fuel) (entCons (zzw fuel) (entCons (zAD fuel) entNil)))))) (methNil) (inlCons (zyO fuel) (inlCons (zAb fuel) (inlNil)))) mixed (by kernel_rfl) (by kernel_rfl) zM3 (by kernel_rfl) (Nat.le_of_ble_eq_true (by kernel_rfl)) (rv := zBr) (by kernel_rfl) (zM4 fuel)
end Go.Proofs.YtdgdoeknpakmlaaGreat.Den


namespace Go.Proofs.YtdgdoeknpakmlaaGreat.Den
open Go
abbrev Knot := Int × Int × Unit
theorem in_eq (f : Nat) (n lo hi : Int) : zr f ((n, ()), (lo, ()), (hi, ()), ()) = some ((decide (lo ≤ n ∧ n ≤ hi), ()), ()) := by
  unfold zr zrN
  by_cases h : lo ≤ n
  · simp [h]
  · simp [h]
def okGo (all : Int) : List Knot → Int → Int → Bool
  | [], _, sum => sum == all
  | k :: r, before, sum => if k.1 ≤ before ∨ 128 ≤ k.1 ∨ k.2.1 < 1 ∨ 2000 < k.2.1 ∨ (k.1 < 64 ∧ w64 (all.tdiv 8) < k.2.1) then false else okGo all r k.1 (w64 (sum + k.2.1))
def okB (ks : List Knot) (all : Int) : Bool := if all < 0 ∨ 2000 < all then false else okGo all ks 0 0
theorem zdw {α : Type} {ks : List α} {i : Nat} (d : α) (h : i < ks.length) : ks.drop i = ks.getD i d :: ks.drop (i + 1) := by
  rw [List.drop_eq_getElem_cons h, List.getD_eq_getElem?_getD, List.getElem?_eq_getElem h]; rfl
theorem zBs (f : Nat) (ks : List Knot) (all : Int) (hl : ks.length < 4294967296) : ∀ (d i : Nat) (before sum : Int) (fuel : Nat), i + d = ks.length → d < fuel →
    iter (zif f) fuel ((i : Int), (ks.length : Int), ks, before, sum, ks, all) = some ((okGo all (ks.drop i) before sum, ()), ())
  | 0, i, before, sum, fuel + 1, hi, hf => by
    rw [iter]
    show zdL f _ _ = _
    unfold zdL
    have h1 : ¬ ((i : Int) < (ks.length : Int)) := by omega
    have h2 : ks.drop i = [] := List.drop_eq_nil_of_le (by omega)
    simp [h1, h2, okGo]
  | d + 1, i, before, sum, fuel + 1, hi, hf => by
    rw [iter]
    show zdL f _ _ = _
    unfold zdL
    have h1 : (i : Int) < (ks.length : Int) := by omega
    have h2 : (0 : Int) ≤ (i : Int) := by omega
    have h3 : w64 ((i : Int) + 1) = (i : Int) + 1 := by rw [w64_id] <;> omega
    have ih : ∀ before sum, iter (zif f) fuel ((i : Int) + 1, (ks.length : Int), ks, before, sum, ks, all) = some ((okGo all (ks.drop (i + 1)) before sum, ()), ()) := fun b s => by
      exact_mod_cast zBs f ks all hl d (i + 1) b s fuel (by omega) (by omega)
    rw [zdw (0, 0, ()) (show i < ks.length by omega)]
    simp only [h1, h2, h3, zz_eq, Int.toNat_natCast, decide_true, cond_true]
    obtain ⟨k, hk⟩ : ∃ k : Knot, ks.getD i (0, 0, ()) = k := ⟨_, rfl⟩
    simp only [hk]
    unfold okGo
    by_cases c1 : k.1 ≤ before
    · simp [c1]
    by_cases c2 : 128 ≤ k.1
    · simp [c1, c2]
    by_cases c3 : k.2.1 < 1
    · simp [c1, c2, c3]
    by_cases c4 : 2000 < k.2.1
    · simp [c1, c2, c3, c4]
    by_cases c5 : k.1 < 64
    · by_cases c6 : w64 (all.tdiv 8) < k.2.1
      · simp [c1, c2, c3, c4, c5, c6]
      · simp [c1, c2, c3, c4, c5, c6, ih]
    · simp [c1, c2, c3, c4, c5, ih]
theorem zrk (f : Nat) (ks : List Knot) (all : Int) (hl : ks.length < 4294967296) (hf : ks.length < f) : zbc f ((ks, all, ()), ()) = some ((okB ks all, ()), ()) := by
  unfold zbc zmz okB
  by_cases c1 : all < 0
  · simp [c1]
  by_cases c2 : 2000 < all
  · simp [c1, c2]
  have := zBs f ks all hl ks.length 0 0 0 f (by omega) hf
  simp [c1, c2, zz_eq]
  simpa using this
theorem zBt (f : Nat) (ks : List Knot) (all : Int) (hl : ks.length < 4294967296) : ∀ (d i : Nat) (before sum : Int) (fuel : Nat), i + d = ks.length → (i = 0 → before = 0) → (0 < i → before = (ks.getD (i - 1) (0, 0, ())).1 ∧ 1 ≤ before) → d < fuel →
    iter (zic f) fuel ((i : Int), sum, ks, all) = some ((okGo all (ks.drop i) before sum, ()), ())
  | 0, i, before, sum, fuel + 1, hi, hb0, hb1, hf => by
    rw [iter]
    show zdG f _ _ = _
    unfold zdG
    have h1 : ¬ ((i : Int) < (ks.length : Int)) := by omega
    have h2 : ks.drop i = [] := List.drop_eq_nil_of_le (by omega)
    simp [h1, h2, okGo, zz_eq]
  | d + 1, i, before, sum, fuel + 1, hi, hb0, hb1, hf => by
    rw [iter]
    show zdG f _ _ = _
    unfold zdG
    have h1 : (i : Int) < (ks.length : Int) := by omega
    have h2 : (0 : Int) ≤ (i : Int) := by omega
    have h3 : w64 ((i : Int) + 1) = (i : Int) + 1 := by rw [w64_id] <;> omega
    have ih : ∀ sum, 1 ≤ (ks.getD i (0, 0, ())).1 → iter (zic f) fuel ((i : Int) + 1, sum, ks, all) = some ((okGo all (ks.drop (i + 1)) (ks.getD i (0, 0, ())).1 sum, ()), ()) := fun sum h => by
      exact_mod_cast zBt f ks all hl d (i + 1) _ sum fuel (by omega) (by omega) (fun _ => ⟨rfl, h⟩) (by omega)
    rw [zdw (0, 0, ()) (show i < ks.length by omega)]
    simp only [h1, h2, h3, zz_eq, Int.toNat_natCast, decide_true, cond_true, in_eq, Option.bind_some]
    have hpos : (decide ((i : Int) > 0) = true → 0 < i ∧ (0 : Int) ≤ w64 ((i : Int) - 1) ∧ w64 ((i : Int) - 1) < (ks.length : Int) ∧ (w64 ((i : Int) - 1)).toNat = i - 1) := by
      intro h
      have h0 : 0 < i := by simpa using h
      have e : w64 ((i : Int) - 1) = ((i - 1 : Nat) : Int) := by rw [w64_id] <;> omega
      rw [e]; omega
    obtain ⟨k, hk⟩ : ∃ k : Knot, ks.getD i (0, 0, ()) = k := ⟨_, rfl⟩
    simp only [hk] at ih ⊢
    unfold okGo
    by_cases c1 : 1 ≤ k.1 ∧ k.1 ≤ 127
    · by_cases c2 : 1 ≤ k.2.1 ∧ k.2.1 ≤ 2000
      · have d2 : ¬ 128 ≤ k.1 := by omega
        have d3 : ¬ k.2.1 < 1 := by omega
        have d4 : ¬ 2000 < k.2.1 := by omega
        have ih' := fun s => ih s c1.1
        simp only [c1, c2, and_self, decide_true, Bool.not_true, cond_false, d2, d3, d4, false_or]
        cases hz : decide ((i : Int) > 0) with
        | true =>
          obtain ⟨g0, g1, g2, g3⟩ := hpos hz
          obtain ⟨g4, g5⟩ := hb1 g0
          simp only [cond_true, g1, g2, g3, decide_true, ← g4]
          by_cases c3 : k.1 ≤ before
          · simp [c3]
          · by_cases c5 : k.1 < 64
            · by_cases c6 : w64 (all.tdiv 8) < k.2.1
              · simp [c3, c5, c6]
              · simp [c3, c5, c6, ih']
            · simp [c3, c5, ih']
        | false =>
          have g0 : i = 0 := by have : ¬ (i : Int) > 0 := of_decide_eq_false hz; omega
          have g1 := hb0 g0
          have c3 : ¬ k.1 ≤ before := by omega
          by_cases c5 : k.1 < 64
          · by_cases c6 : w64 (all.tdiv 8) < k.2.1
            · simp [c3, c5, c6]
            · simp [c3, c5, c6, ih']
          · simp [c3, c5, ih']
      · have : k.1 ≤ before ∨ 128 ≤ k.1 ∨ k.2.1 < 1 ∨ 2000 < k.2.1 ∨ (k.1 < 64 ∧ w64 (all.tdiv 8) < k.2.1) := by omega
        simp [c1, c2, this]
    · have hbp : 0 ≤ before := by
        rcases Nat.eq_zero_or_pos i with h | h
        · rw [hb0 h]; omega
        · have := (hb1 h).2; omega
      have : k.1 ≤ before ∨ 128 ≤ k.1 ∨ k.2.1 < 1 ∨ 2000 < k.2.1 ∨ (k.1 < 64 ∧ w64 (all.tdiv 8) < k.2.1) := by omega
      simp [c1, this]
theorem zrl (f : Nat) (ks : List Knot) (all : Int) (hl : ks.length < 4294967296) (hf : ks.length < f) : zbb f ((ks, all, ()), ()) = some ((okB ks all, ()), ()) := by
  unfold zbb zmy okB
  simp only [in_eq, Option.bind_some]
  by_cases c : 0 ≤ all ∧ all ≤ 2000
  · have c1 : ¬ (all < 0 ∨ 2000 < all) := by omega
    have := zBt f ks all hl ks.length 0 0 0 f (by omega) (fun _ => rfl) (by omega) hf
    simp only [c, c1, and_self, decide_true, Bool.not_true, cond_false, if_false]
    simpa using this
  · have c1 : all < 0 ∨ 2000 < all := by omega
    simp [c, c1]
end Go.Proofs.YtdgdoeknpakmlaaGreat.Den
namespace Go.Proofs.YtdgdoeknpakmlaaGreat.Den
open Go
def isum (l : List Int) : Int := l.foldl (fun s x => w64 (s + x)) 0
def rng (x : Int) : Bool := decide (0 ≤ x ∧ x ≤ 2000)
theorem isum_eq (f : Nat) (l : List Int) (hl : l.length < 4294967296) (hf : l.length < f) : zJ f ((l, ()), ()) = some ((isum l, ()), ()) := by
  show iter (zii f) f ((0 : Int), l, (0 : Int)) = _
  refine (zD (st := zii f) (enc := fun i s => ((i : Int), l, s)) (fun x k s => k (w64 (s + x))) (fun s => some ((s, ()), ())) l 0 ?_ ?_ f 0 hf).trans (fold_go (fun s x => w64 (s + x)) (fun _ _ _ => rfl) l 0)
  · intro i s g hi
    show zdQ f g _ = _
    unfold zdQ
    simp only [zz_eq, lt_cast hi, le_cast, decide_true, cond_true, Int.toNat_natCast, w64_up (Nat.lt_trans hi hl)]
  · intro s g
    show zdQ f g _ = _
    unfold zdQ
    simp only [zz_eq, zb, decide_false, cond_false]
def rowB (row : List Int) : Bool := decide (row.length = 8) && (row.all rng && decide (isum row ≤ 2000))
def roughB (rs : List (List Int)) : Bool := decide (rs.length = 3) && rs.all fun row => rowB row && (isum row == isum (rs.getD 0 []))
theorem zrm (f : Nat) (l : List Int) (hf : 8 < f) : zch f ((l, ()), ()) = some (cond (decide (l.length = 8) && l.all rng) ((isum l, ()), (decide (isum l ≤ 2000), ()), ()) ((0, ()), (false, ()), ())) := by
  show ziM f (iter (ziL f) f) l = _
  unfold ziM
  by_cases h : l.length = 8
  · have hl : l.length < 4294967296 := by omega
    have e : (zz l.length != (8 : Int)) = false := by simp [zz_eq, h]
    rw [e, cond_false, zz_eq]
    have := zD (st := ziL f) (enc := fun i s => ((i : Int), (l.length : Int), l, s)) (fun x k s => cond (rng x) (k (w64 (s + x))) (some ((0, ()), (false, ()), ()))) (fun s => some ((s, ()), (decide (s ≤ 2000), ()), ())) l 0 ?_ ?_ f 0 (by omega)
    · refine this.trans ?_
      have : ∀ (l : List Int) (s : Int), goL (R := ((Int × Unit) × ((Bool × Unit) × Unit))) (fun x k s => cond (rng x) (k (w64 (s + x))) (some ((0, ()), (false, ()), ()))) (fun s => some ((s, ()), (decide (s ≤ 2000), ()), ())) l s = some (cond (l.all rng) ((l.foldl (fun s x => w64 (s + x)) s, ()), (decide (l.foldl (fun s x => w64 (s + x)) s ≤ 2000), ()), ()) ((0, ()), (false, ()), ())) := by
        intro l
        induction l with
        | nil => intro s; rfl
        | cons x l ih =>
          intro s
          show cond (rng x) (goL _ _ l _) _ = _
          rw [ih, List.all_cons]
          cases rng x <;> rfl
      rw [this]
      simp only [h, decide_true, Bool.true_and]
      rfl
    · intro i s g hi
      show zeO f g _ = _
      unfold zeO
      simp only [zz_eq, lt_cast hi, le_cast, decide_true, cond_true, Int.toNat_natCast, w64_up (Nat.lt_trans hi hl)]
      obtain ⟨x, hx⟩ : ∃ x : Int, l.getD i 0 = x := ⟨_, rfl⟩
      simp only [hx]
      unfold rng
      by_cases c1 : x < 0
      · have : ¬ (0 ≤ x ∧ x ≤ 2000) := by omega
        simp [c1, this]
      · by_cases c2 : x > 2000
        · have : ¬ (0 ≤ x ∧ x ≤ 2000) := by omega
          simp [c1, c2, this]
        · have : (0 ≤ x ∧ x ≤ 2000) := by omega
          simp [c1, c2, this]
    · intro s g
      show zeO f g _ = _
      unfold zeO
      simp only [zb, decide_false, cond_false]
  · have e : (zz l.length != (8 : Int)) = true := by simp [zz_eq]; omega
    rw [e, cond_true]
    simp [h]
theorem three {α : Type} {rs : List α} (h : rs.length = 3) : ∃ a b c, rs = [a, b, c] := by
  match rs, h with
  | [a, b, c], _ => exact ⟨a, b, c, rfl⟩
theorem zmb (f : Nat) (rs : List (List Int)) (hf : 8 < f) : zaj f ((rs, ()), ()) = some ((roughB rs, ()), ()) := by
  show ziQ f (iter (ziP f) f) rs = _
  unfold ziQ
  by_cases h : rs.length = 3
  · have e : ((rs.length : Int) != (3 : Int)) = false := by simp [h]
    have e0 : (0 : Int) < (rs.length : Int) := by omega
    simp only [zz_eq, e, cond_false, e0, decide_true, cond_true, zrm f _ hf, Option.bind_some]
    obtain ⟨w, hw⟩ : ∃ w : Int, (cond (decide ((rs.getD (Int.toNat 0) []).length = 8) && (rs.getD (Int.toNat 0) []).all rng) ((isum (rs.getD (Int.toNat 0) []), ()), (decide (isum (rs.getD (Int.toNat 0) []) ≤ 2000), ()), ()) ((0, ()), (false, ()), ()) : ((Int × Unit) × ((Bool × Unit) × Unit))).fst.fst = w := ⟨_, rfl⟩
    rw [hw]
    have := zD (st := ziP f) (enc := fun i (s : Unit) => ((i : Int), (rs.length : Int), rs, w)) (fun row k s => cond (rowB row && (isum row == w)) (k s) (some ((false, ()), ()))) (fun s => some ((true, ()), ())) rs [] ?_ ?_ f () (by omega)
    · refine this.trans ?_
      rw [all_go _ _ (fun _ _ _ => rfl)]
      obtain ⟨a, b, c, rfl⟩ := three h
      unfold roughB
      simp only [List.all_cons, List.all_nil, List.getD_cons_zero, Int.toNat_zero, decide_true, Bool.true_and, List.length_cons, List.length_nil, Bool.and_true] at hw ⊢
      by_cases ha : rowB a = true
      · have ha' := ha
        unfold rowB at ha'
        have : (decide (a.length = 8) && a.all rng) = true := by
          revert ha'; cases decide (a.length = 8) <;> cases a.all rng <;> simp
        rw [this, cond_true] at hw
        rw [← hw, ha]
        simp only [beq_self_eq_true, Bool.and_self, Bool.true_and]
        cases (rowB b && (isum b == isum a)) <;> cases (rowB c && (isum c == isum a)) <;> rfl
      · have : rowB a = false := by simpa using ha
        simp [this]
    · intro i s g hi
      show zeT f g _ = _
      unfold zeT
      simp only [zz_eq, lt_cast hi, le_cast, decide_true, cond_true, Int.toNat_natCast, w64_up (show i < 4294967296 by omega), zrm f _ hf, Option.bind_some]
      obtain ⟨x, hx⟩ : ∃ x : List Int, rs.getD i [] = x := ⟨_, rfl⟩
      simp only [hx]
      unfold rowB
      rw [← Bool.and_assoc]
      cases (decide (x.length = 8) && x.all rng) with
      | false => rfl
      | true =>
        simp only [cond_true, bne]
        cases decide (isum x ≤ 2000) <;> cases (isum x == w) <;> rfl
    · intro s g
      show zeT f g _ = _
      unfold zeT
      simp only [zb, decide_false, cond_false]
  · have e : (zz rs.length != (3 : Int)) = true := by simp [zz_eq]; omega
    rw [e, cond_true]
    unfold roughB
    simp [h]
theorem zmc (f : Nat) (rs : List (List Int)) (hf : 8 < f) (hr : ∀ r ∈ rs, r.length < f ∧ r.length < 4294967296) : zbd f ((rs, ()), ()) = some ((roughB rs, ()), ()) := by
  show zil f (iter (zik f) f) rs = _
  unfold zil
  by_cases h : rs.length = 3
  · have e : (zz rs.length != (3 : Int)) = false := by simp [zz_eq, h]
    rw [e, cond_false]
    have := zD (st := zik f) (enc := fun i (s : Unit) => ((i : Int), rs)) (fun row k s => cond (rowB row && (isum row == isum (rs.getD 0 []))) (k s) (some ((false, ()), ()))) (fun s => some ((true, ()), ())) rs [] ?_ ?_ f () (by omega)
    · refine this.trans ?_
      rw [all_go _ _ (fun _ _ _ => rfl)]
      unfold roughB
      simp only [h, decide_true, Bool.true_and]
      cases (rs.all fun row => rowB row && (isum row == isum (rs.getD 0 []))) <;> rfl
    · intro i s g hi
      show zbY f _ g _ = _
      unfold zbY
      have l3 : (i : Int) < 3 := by omega
      simp only [zz_eq, lt_cast hi, l3, le_cast, decide_true, cond_true, Int.toNat_natCast]
      obtain ⟨x, hx⟩ : ∃ x : List Int, rs.getD i [] = x := ⟨_, rfl⟩
      simp only [hx]
      by_cases c1 : x.length = 8
      · have e8 : ((x.length : Int) != 8) = false := by simp [c1]
        rw [e8, cond_false]
        have := zD (st := zmB f g) (enc := fun k (s : Unit) => ((k : Int), (i : Int), rs)) (fun y k s => cond (rng y) (k s) (some ((false, ()), ()))) (fun s => cond (isum x == isum (rs.getD 0 []) && decide (isum x ≤ 2000)) (g (((i + 1 : Nat) : Int), rs)) (some ((false, ()), ()))) x 0 ?_ ?_ f () (by omega)
        · refine this.trans ?_
          rw [all_go _ _ (fun _ _ _ => rfl)]
          unfold rowB
          simp only [c1, decide_true, Bool.true_and]
          cases x.all rng <;> cases (isum x == isum (rs.getD 0 [])) <;> cases decide (isum x ≤ 2000) <;> rfl
        · intro k s g' hk
          show zbX f _ g' _ = _
          unfold zbX
          have l8 : (k : Int) < 8 := by omega
          simp only [zz_eq, lt_cast hi, lt_cast hk, l8, le_cast, decide_true, cond_true, Int.toNat_natCast, hx, in_eq, Option.bind_some, w64_up (show k < 4294967296 by omega)]
          unfold rng
          cases decide (0 ≤ x.getD k 0 ∧ x.getD k 0 ≤ 2000) <;> rfl
        · intro s g'
          show zbX f _ g' _ = _
          unfold zbX
          have l8 : ¬ ((x.length : Int) < 8) := by omega
          have l0 : (0 : Int) < (rs.length : Int) := by omega
          have ix : zJ f ((x, ()), ()) = some ((isum x, ()), ()) := isum_eq f x (by omega) (by omega)
          simp only [zz_eq, l8, decide_false, cond_false, lt_cast hi, l0, le_cast, decide_true, cond_true, Int.toNat_natCast, hx, ix, Option.bind_some, w64_up (show i < 4294967296 by omega)]
          obtain ⟨g1, g2⟩ : (rs.getD 0 []).length < f ∧ (rs.getD 0 []).length < 4294967296 := by
            obtain ⟨a, b, c, rfl⟩ := three h
            exact hr a (by simp)
          have i0 : zJ f ((rs.getD 0 [], ()), ()) = some ((isum (rs.getD 0 []), ()), ()) := isum_eq f _ g2 g1
          simp only [Int.toNat_zero, i0, Option.bind_some]
          by_cases c3 : isum x = isum (rs.getD 0 [])
          · simp only [c3, bne_self_eq_false, cond_false, beq_self_eq_true, Bool.true_and]
            by_cases c : isum (rs.getD 0 []) ≤ 2000
            · have : ¬ isum (rs.getD 0 []) > 2000 := by omega
              simp only [c, this, decide_true, decide_false, cond_true, cond_false]
            · have : isum (rs.getD 0 []) > 2000 := by omega
              simp only [c, this, decide_true, decide_false, cond_true, cond_false]
          · have c4 : (isum x == isum (rs.getD 0 [])) = false := by simpa using c3
            simp only [bne, c4, Bool.not_false, Bool.false_and, cond_true, cond_false]
      · have e8 : ((x.length : Int) != 8) = true := by simp; omega
        rw [e8, cond_true]
        unfold rowB
        simp [c1]
    · intro s g
      show zbY f _ g _ = _
      unfold zbY
      have l3 : ¬ ((rs.length : Int) < 3) := by omega
      simp only [l3, decide_false, cond_false]
  · have e : (zz rs.length != (3 : Int)) = true := by simp [zz_eq]; omega
    rw [e, cond_true]
    unfold roughB
    simp [h]
end Go.Proofs.YtdgdoeknpakmlaaGreat.Den
namespace Go.Proofs.YtdgdoeknpakmlaaGreat.Den
open Go
def fewGo : List Int → Int → Bool
  | [], _ => true
  | x :: r, p => decide (p < x ∧ x ≤ 63) && fewGo r x
def fewB (l : List Int) : Bool := decide (l.length ≤ 6) && fewGo l (-1)
theorem zrn (f : Nat) (l : List Int) (hf : 8 < f) : zco f ((l, ()), ()) = some ((fewB l, ()), ()) := by
  show zi0 f (iter (ziZ f) f) l = _
  unfold zi0 fewB
  by_cases h : l.length ≤ 6
  · have e : ¬ ((l.length : Int) > 6) := by omega
    simp only [zz_eq, e, decide_false, cond_false, h, decide_true, Bool.true_and]
    refine (zD (st := ziZ f) (enc := fun i (p : Int) => ((i : Int), (l.length : Int), l, p)) (fun x k p => cond (decide (p < x ∧ x ≤ 63)) (k x) (some ((false, ()), ()))) (fun s => some ((true, ()), ())) l 0 ?_ ?_ f (-1) (by omega)).trans ?_
    · intro i p g hi
      show ze5 f g _ = _
      unfold ze5
      simp only [zz_eq, lt_cast hi, le_cast, decide_true, cond_true, Int.toNat_natCast, w64_up (show i < 4294967296 by omega)]
      obtain ⟨x, hx⟩ : ∃ x : Int, l.getD i 0 = x := ⟨_, rfl⟩
      simp only [hx]
      by_cases c1 : x ≤ p
      · have : ¬ (p < x ∧ x ≤ 63) := by omega
        simp only [c1, this, and_self, and_true, true_and, and_false, false_and, decide_true, decide_false, cond_true, cond_false]
      · by_cases c2 : x ≥ 64
        · have : ¬ (p < x ∧ x ≤ 63) := by omega
          simp only [c1, c2, this, and_self, and_true, true_and, and_false, false_and, decide_true, decide_false, cond_true, cond_false]
        · have : p < x ∧ x ≤ 63 := by omega
          simp only [c1, c2, this, and_self, and_true, true_and, and_false, false_and, decide_true, decide_false, cond_true, cond_false]
    · intro s g
      show ze5 f g _ = _
      unfold ze5
      simp only [zb, decide_false, cond_false]
    · have : ∀ (l : List Int) (p : Int), goL (R := ((Bool × Unit) × Unit)) (fun x k p => cond (decide (p < x ∧ x ≤ 63)) (k x) (some ((false, ()), ()))) (fun s => some ((true, ()), ())) l p = some ((fewGo l p, ()), ()) := by
        intro l
        induction l with
        | nil => intro p; rfl
        | cons x l ih =>
          intro p
          show cond _ (goL _ _ l x) _ = _
          rw [ih]
          show _ = some ((decide (p < x ∧ x ≤ 63) && fewGo l x, ()), ())
          cases decide (p < x ∧ x ≤ 63) <;> rfl
      exact this l (-1)
  · have e : ((l.length : Int) > 6) := by omega
    simp only [zz_eq, e, decide_true, cond_true, h, decide_false, Bool.false_and]
theorem zro (f : Nat) (l : List Int) (hl : l.length < 4294967296) (hf : l.length < f) : zb0 f ((l, ()), ()) = some ((fewB l, ()), ()) := by
  show iter (zin f) f ((0 : Int), l) = _
  refine (zCo (st := zin f) (enc := fun i (s : Unit) => ((i : Int), l)) (fun x p k s => cond (decide (p < x ∧ 0 ≤ x ∧ x ≤ 63)) (k s) (some ((false, ()), ()))) (fun s => some ((decide (l.length ≤ 6), ()), ())) l 0 (-1) id ?_ ?_ f () hf).trans ?_
  · intro i s g hi
    show zdX f g _ = _
    unfold zdX
    simp only [zz_eq, lt_cast hi, le_cast, decide_true, cond_true, Int.toNat_natCast, w64_up (show i < 4294967296 by omega), in_eq, Option.bind_some, id]
    obtain ⟨x, hx⟩ : ∃ x : Int, l.getD i 0 = x := ⟨_, rfl⟩
    simp only [hx]
    by_cases c1 : 0 ≤ x ∧ x ≤ 63
    · by_cases z : i = 0
      · have : -1 < x ∧ 0 ≤ x ∧ x ≤ 63 := by omega
        simp only [zCr z, c1, this, z, and_self, if_true, decide_true, decide_false, cond_true, cond_false, Bool.not_true]
        subst z; rfl
      · have g1 : i - 1 < l.length := by omega
        simp only [zCs z, w64_dn z (show i < 4294967296 by omega), lt_cast g1, le_cast, c1, z, and_self, if_false, decide_true, decide_false, cond_true, cond_false, Bool.not_true, Int.toNat_natCast]
        obtain ⟨y, hy⟩ : ∃ y : Int, l.getD (i - 1) 0 = y := ⟨_, rfl⟩
        simp only [hy]
        by_cases c2 : y ≥ x
        · have : ¬ (y < x ∧ True) := fun h => by have := h.1; omega
          simp only [c2, this, and_self, and_true, true_and, and_false, false_and, decide_true, decide_false, cond_true, cond_false]
        · have : (y < x ∧ True) := ⟨by omega, trivial⟩
          simp only [c2, this, and_self, and_true, true_and, and_false, false_and, decide_true, decide_false, cond_true, cond_false]
    · have : ∀ p : Int, ¬ (p < x ∧ 0 ≤ x ∧ x ≤ 63) := fun p h => c1 h.2
      simp only [c1, this, and_self, and_true, true_and, and_false, false_and, decide_true, decide_false, cond_true, cond_false, Bool.not_false]
  · intro s g
    show zdX f g _ = _
    unfold zdX
    have : ((l.length : Int) ≤ 6) = (l.length ≤ 6) := by apply propext; omega
    simp only [zz_eq, zb, decide_false, cond_false, this]
  · have : ∀ (q : Bool) (l : List Int) (p : Int), -1 ≤ p → goL (R := ((Bool × Unit) × Unit)) (fun x k (ps : Int × Unit) => cond (decide (ps.1 < x ∧ 0 ≤ x ∧ x ≤ 63)) (k (id x, ps.2)) (some ((false, ()), ()))) (fun s => some ((q, ()), ())) l (p, ()) = some ((q && fewGo l p, ()), ()) := by
      intro q l
      induction l with
      | nil => intro p _; cases q <;> rfl
      | cons x l ih =>
        intro p hp
        show cond _ (goL _ _ l (x, ())) _ = _
        unfold fewGo
        by_cases c : p < x ∧ x ≤ 63
        · have : p < x ∧ 0 ≤ x ∧ x ≤ 63 := by omega
          rw [ih x (by omega)]
          simp only [c, this, and_self, decide_true, cond_true, Bool.true_and]
        · have : ¬ (p < x ∧ 0 ≤ x ∧ x ≤ 63) := by omega
          simp only [c, this, decide_false, cond_false, Bool.false_and, Bool.and_false]
    unfold fewB
    exact this _ l (-1) (by omega)
def topGo (all : Int) : List Knot → Int → Int → Bool
  | [], _, s => decide (s ≤ all)
  | x :: r, p, s => decide (p < x.1 ∧ x.1 ≤ 63 ∧ 1 ≤ x.2.1 ∧ x.2.1 ≤ 2000) && topGo all r x.1 (w64 (s + x.2.1))
def topB (l : List Knot) (lost all : Int) : Bool := decide (l.length ≤ 4 ∧ 0 ≤ lost ∧ lost ≤ 2000 ∧ 0 ≤ all ∧ all ≤ 2000) && topGo all l (-1) (lost * 5)
theorem zrp (f : Nat) (l : List Knot) (lost all : Int) (hf : 8 < f) : zaL f ((l, lost, all, ()), ()) = some ((topB l lost all, ()), ()) := by
  show zi4 f (iter (zi3 f) f) l lost all = _
  unfold zi4 topB
  simp only [zz_eq]
  by_cases h : l.length ≤ 4 ∧ 0 ≤ lost ∧ lost ≤ 2000 ∧ 0 ≤ all ∧ all ≤ 2000
  · have e1 : ¬ ((l.length : Int) > 4) := by omega
    have e2 : ¬ (lost < 0) := by omega
    have e3 : ¬ (lost > 2000) := by omega
    have e4 : ¬ (all < 0) := by omega
    have e5 : ¬ (all > 2000) := by omega
    have e6 : w64 (lost * 5) = lost * 5 := by rw [w64_id] <;> omega
    simp only [e1, e2, e3, e4, e5, e6, decide_false, cond_false, h, and_self, decide_true, Bool.true_and]
    refine (zD (st := zi3 f) (enc := fun i (p : Int × Int) => ((i : Int), (l.length : Int), l, p.1, p.2, l, lost, all)) (fun x k p => cond (decide (p.1 < x.1 ∧ x.1 ≤ 63 ∧ 1 ≤ x.2.1 ∧ x.2.1 ≤ 2000)) (k (x.1, w64 (p.2 + x.2.1))) (some ((false, ()), ()))) (fun p => some ((decide (p.2 ≤ all), ()), ())) l (0, 0, ()) ?_ ?_ f (-1, lost * 5) (by omega)).trans ?_
    · intro i p g hi
      show zfa f g _ = _
      unfold zfa
      simp only [zz_eq, lt_cast hi, le_cast, decide_true, cond_true, Int.toNat_natCast, w64_up (show i < 4294967296 by omega)]
      obtain ⟨x, hx⟩ : ∃ x : Knot, l.getD i (0, 0, ()) = x := ⟨_, rfl⟩
      simp only [hx]
      by_cases c1 : x.1 ≤ p.1
      · have : ¬ (p.1 < x.1 ∧ x.1 ≤ 63 ∧ 1 ≤ x.2.1 ∧ x.2.1 ≤ 2000) := by omega
        simp only [c1, this, and_self, and_true, true_and, and_false, false_and, decide_true, decide_false, cond_true, cond_false]
      by_cases c2 : x.1 ≥ 64
      · have : ¬ (p.1 < x.1 ∧ x.1 ≤ 63 ∧ 1 ≤ x.2.1 ∧ x.2.1 ≤ 2000) := by omega
        simp only [c1, c2, this, and_self, and_true, true_and, and_false, false_and, decide_true, decide_false, cond_true, cond_false]
      by_cases c3 : x.2.1 < 1
      · have : ¬ (p.1 < x.1 ∧ x.1 ≤ 63 ∧ 1 ≤ x.2.1 ∧ x.2.1 ≤ 2000) := by omega
        simp only [c1, c2, c3, this, and_self, and_true, true_and, and_false, false_and, decide_true, decide_false, cond_true, cond_false]
      by_cases c4 : x.2.1 > 2000
      · have : ¬ (p.1 < x.1 ∧ x.1 ≤ 63 ∧ 1 ≤ x.2.1 ∧ x.2.1 ≤ 2000) := by omega
        simp only [c1, c2, c3, c4, this, and_self, and_true, true_and, and_false, false_and, decide_true, decide_false, cond_true, cond_false]
      have : (p.1 < x.1 ∧ x.1 ≤ 63 ∧ 1 ≤ x.2.1 ∧ x.2.1 ≤ 2000) := by omega
      simp only [c1, c2, c3, c4, this, and_self, and_true, true_and, and_false, false_and, decide_true, decide_false, cond_true, cond_false]
    · intro s g
      show zfa f g _ = _
      unfold zfa
      simp only [zb, decide_false, cond_false]
    · have : ∀ (l : List Knot) (p : Int × Int), goL (R := ((Bool × Unit) × Unit)) (fun (x : Knot) k p => cond (decide (p.1 < x.1 ∧ x.1 ≤ 63 ∧ 1 ≤ x.2.1 ∧ x.2.1 ≤ 2000)) (k (x.1, w64 (p.2 + x.2.1))) (some ((false, ()), ()))) (fun p => some ((decide (p.2 ≤ all), ()), ())) l p = some ((topGo all l p.1 p.2, ()), ()) := by
        intro l
        induction l with
        | nil => intro p; rfl
        | cons x l ih =>
          intro p
          show cond _ (goL _ _ l _) _ = _
          rw [ih]
          show _ = some ((decide (p.1 < x.1 ∧ x.1 ≤ 63 ∧ 1 ≤ x.2.1 ∧ x.2.1 ≤ 2000) && topGo all l x.1 (w64 (p.2 + x.2.1)), ()), ())
          cases decide (p.1 < x.1 ∧ x.1 ≤ 63 ∧ 1 ≤ x.2.1 ∧ x.2.1 ≤ 2000) <;> rfl
      exact this l _
  · simp only [h, decide_false, Bool.false_and]
    by_cases c1 : (l.length : Int) > 4
    · simp only [c1, decide_true, cond_true]
    by_cases c2 : lost < 0
    · simp only [c1, c2, decide_true, cond_true, decide_false, cond_false]
    by_cases c3 : lost > 2000
    · simp only [c1, c2, c3, decide_true, cond_true, decide_false, cond_false]
    by_cases c4 : all < 0
    · simp only [c1, c2, c3, c4, decide_true, cond_true, decide_false, cond_false]
    by_cases c5 : all > 2000
    · simp only [c1, c2, c3, c4, c5, decide_true, cond_true, decide_false, cond_false]
    exact absurd ⟨by omega, by omega, by omega, by omega, by omega⟩ h
def tsum (l : List Knot) : Int := l.foldl (fun s x => w64 (s + x.2.1)) 0
theorem tsum_eq (f : Nat) (l : List Knot) (hl : l.length < 4294967296) (hf : l.length < f) : zis f ((l, ()), ()) = some ((tsum l, ()), ()) := by
  show iter (zir f) f ((0 : Int), l, (0 : Int)) = _
  refine (zD (st := zir f) (enc := fun i s => ((i : Int), l, s)) (fun (x : Knot) k s => k (w64 (s + x.2.1))) (fun s => some ((s, ()), ())) l (0, 0, ()) ?_ ?_ f 0 hf).trans (fold_go (fun s x => w64 (s + x.2.1)) (fun _ _ _ => rfl) l 0)
  · intro i s g hi
    show zd2 f g _ = _
    unfold zd2
    simp only [zz_eq, lt_cast hi, le_cast, decide_true, cond_true, Int.toNat_natCast, w64_up (Nat.lt_trans hi hl)]
  · intro s g
    show zd2 f g _ = _
    unfold zd2
    simp only [zz_eq, zb, decide_false, cond_false]
def topAsc : List Knot → Int → Bool
  | [], _ => true
  | x :: r, p => decide (p < x.1 ∧ x.1 ≤ 63 ∧ 1 ≤ x.2.1 ∧ x.2.1 ≤ 2000) && topAsc r x.1
def psum : List Knot → Int
  | [] => 0
  | x :: r => x.2.1 + psum r
theorem zCK (all : Int) : ∀ (l : List Knot) (p s : Int), 0 ≤ s → s + 2000 * l.length ≤ 1000000000000 → topGo all l p s = (topAsc l p && decide (s + psum l ≤ all))
  | [], p, s, _, _ => by simp [topGo, topAsc, psum]
  | x :: l, p, s, h0, h1 => by
    unfold topGo topAsc psum
    simp only [List.length_cons] at h1
    by_cases c : p < x.1 ∧ x.1 ≤ 63 ∧ 1 ≤ x.2.1 ∧ x.2.1 ≤ 2000
    · have e : w64 (s + x.2.1) = s + x.2.1 := by rw [w64_id] <;> omega
      rw [e, zCK all l x.1 _ (by omega) (by omega)]
      simp only [c, and_self, decide_true, Bool.true_and, Int.add_assoc]
    · simp only [c, decide_false, Bool.false_and]
theorem tsum_go : ∀ (l : List Knot) (p s : Int), 0 ≤ s → s + 2000 * l.length ≤ 1000000000000 → topAsc l p = true → l.foldl (fun s x => w64 (s + x.2.1)) s = s + psum l ∧ 0 ≤ psum l ∧ psum l ≤ 2000 * l.length
  | [], p, s, _, _, _ => by simp [psum]
  | x :: l, p, s, h0, h1, h2 => by
    unfold topAsc at h2
    simp only [Bool.and_eq_true, decide_eq_true_eq] at h2
    simp only [List.length_cons] at h1 ⊢
    have e : w64 (s + x.2.1) = s + x.2.1 := by rw [w64_id] <;> omega
    obtain ⟨a, b, c⟩ := tsum_go l x.1 (s + x.2.1) (by omega) (by omega) h2.2
    unfold psum
    simp only [List.foldl_cons, e, a]
    omega
theorem zrq (f : Nat) (l : List Knot) (lost all : Int) (hl : l.length < 4294967296) (hf : l.length < f) : zb3 f ((l, lost, all, ()), ()) = some ((topB l lost all, ()), ()) := by
  show iter (ziu f) f ((0 : Int), l, lost, all) = _
  refine (zCo (st := ziu f) (enc := fun i (s : Unit) => ((i : Int), l, lost, all)) (fun x p k s => cond (decide (p < x.1 ∧ 0 ≤ x.1 ∧ x.1 ≤ 63 ∧ 1 ≤ x.2.1 ∧ x.2.1 ≤ 2000)) (k s) (some ((false, ()), ()))) (fun s => some ((decide (l.length ≤ 4 ∧ 0 ≤ lost ∧ lost ≤ 2000 ∧ 0 ≤ all ∧ all ≤ 2000) && decide (w64 (tsum l + w64 (5 * lost)) ≤ all), ()), ())) l (0, 0, ()) (-1) (fun x => x.1) ?_ ?_ f () hf).trans ?_
  · intro i s g hi
    show zd7 f g _ = _
    unfold zd7
    simp only [zz_eq, lt_cast hi, le_cast, decide_true, cond_true, Int.toNat_natCast, w64_up (show i < 4294967296 by omega), in_eq, Option.bind_some]
    obtain ⟨x, hx⟩ : ∃ x : Knot, l.getD i (0, 0, ()) = x := ⟨_, rfl⟩
    simp only [hx]
    by_cases c1 : 0 ≤ x.1 ∧ x.1 ≤ 63
    · by_cases c3 : 1 ≤ x.2.1 ∧ x.2.1 ≤ 2000
      · by_cases z : i = 0
        · have : -1 < x.1 ∧ 0 ≤ x.1 ∧ x.1 ≤ 63 ∧ 1 ≤ x.2.1 ∧ x.2.1 ≤ 2000 := by omega
          simp only [zCr z, c1, c3, this, z, and_self, if_true, decide_true, decide_false, cond_true, cond_false, Bool.not_true]
          subst z; rfl
        · have g1 : i - 1 < l.length := by omega
          simp only [zCs z, w64_dn z (show i < 4294967296 by omega), lt_cast g1, le_cast, c1, c3, z, and_self, if_false, decide_true, decide_false, cond_true, cond_false, Bool.not_true, Int.toNat_natCast]
          obtain ⟨y, hy⟩ : ∃ y : Knot, l.getD (i - 1) (0, 0, ()) = y := ⟨_, rfl⟩
          simp only [hy]
          by_cases c2 : y.1 ≥ x.1
          · have : ¬ (y.1 < x.1 ∧ True) := fun h => by have := h.1; omega
            simp only [c2, this, and_self, and_true, true_and, and_false, false_and, decide_true, decide_false, cond_true, cond_false]
          · have : (y.1 < x.1 ∧ True) := ⟨by omega, trivial⟩
            simp only [c2, this, and_self, and_true, true_and, and_false, false_and, decide_true, decide_false, cond_true, cond_false]
      · have : ∀ p : Int, ¬ (p < x.1 ∧ 0 ≤ x.1 ∧ x.1 ≤ 63 ∧ 1 ≤ x.2.1 ∧ x.2.1 ≤ 2000) := fun p h => c3 h.2.2.2
        simp only [c1, c3, this, and_self, and_true, true_and, and_false, false_and, decide_true, decide_false, cond_true, cond_false, Bool.not_false, Bool.not_true]
    · have : ∀ p : Int, ¬ (p < x.1 ∧ 0 ≤ x.1 ∧ x.1 ≤ 63 ∧ 1 ≤ x.2.1 ∧ x.2.1 ≤ 2000) := fun p h => c1 ⟨h.2.1, h.2.2.1⟩
      simp only [c1, this, and_self, and_true, true_and, and_false, false_and, decide_true, decide_false, cond_true, cond_false, Bool.not_false]
  · intro s g
    show zd7 f g _ = _
    unfold zd7
    simp only [zz_eq, zb, decide_false, cond_false, in_eq, Option.bind_some, tsum_eq f l hl hf]
    by_cases h1 : l.length ≤ 4
    · have e1 : ((l.length : Int) ≤ 4) := by omega
      by_cases h2 : 0 ≤ all ∧ all ≤ 2000
      · by_cases h3 : 0 ≤ lost ∧ lost ≤ 2000
        · simp only [h1, e1, h2, h3, and_self, decide_true, cond_true, Bool.true_and]
        · have : ¬ (l.length ≤ 4 ∧ 0 ≤ lost ∧ lost ≤ 2000 ∧ 0 ≤ all ∧ all ≤ 2000) := by omega
          rw [decide_eq_false this]
          simp only [e1, h2, h3, and_self, decide_true, cond_true, decide_false, cond_false, Bool.false_and]
      · have : ¬ (l.length ≤ 4 ∧ 0 ≤ lost ∧ lost ≤ 2000 ∧ 0 ≤ all ∧ all ≤ 2000) := by omega
        rw [decide_eq_false this]
        simp only [e1, h2, and_self, decide_true, cond_true, decide_false, cond_false, Bool.false_and]
    · have e1 : ¬ ((l.length : Int) ≤ 4) := by omega
      have : ¬ (l.length ≤ 4 ∧ 0 ≤ lost ∧ lost ≤ 2000 ∧ 0 ≤ all ∧ all ≤ 2000) := by omega
      simp only [e1, this, and_self, decide_true, cond_true, decide_false, cond_false, Bool.false_and]
  · have : ∀ (q : Bool) (l : List Knot) (p : Int), -1 ≤ p → goL (R := ((Bool × Unit) × Unit)) (fun (x : Knot) k (ps : Int × Unit) => cond (decide (ps.1 < x.1 ∧ 0 ≤ x.1 ∧ x.1 ≤ 63 ∧ 1 ≤ x.2.1 ∧ x.2.1 ≤ 2000)) (k (x.1, ps.2)) (some ((false, ()), ()))) (fun s => some ((q, ()), ())) l (p, ()) = some ((topAsc l p && q, ()), ()) := by
      intro q l
      induction l with
      | nil => intro p _; rfl
      | cons x l ih =>
        intro p hp
        show cond _ (goL _ _ l (x.1, ())) _ = _
        unfold topAsc
        by_cases c : p < x.1 ∧ x.1 ≤ 63 ∧ 1 ≤ x.2.1 ∧ x.2.1 ≤ 2000
        · have : p < x.1 ∧ 0 ≤ x.1 ∧ x.1 ≤ 63 ∧ 1 ≤ x.2.1 ∧ x.2.1 ≤ 2000 := by omega
          rw [ih x.1 (by omega)]
          simp only [c, this, and_self, decide_true, cond_true, Bool.true_and]
        · have : ¬ (p < x.1 ∧ 0 ≤ x.1 ∧ x.1 ≤ 63 ∧ 1 ≤ x.2.1 ∧ x.2.1 ≤ 2000) := by omega
          simp only [c, this, decide_false, cond_false, Bool.false_and, Bool.and_false]
    refine (this _ l (-1) (by omega)).trans ?_
    unfold topB
    by_cases h : l.length ≤ 4 ∧ 0 ≤ lost ∧ lost ≤ 2000 ∧ 0 ≤ all ∧ all ≤ 2000
    · rw [zCK all l (-1) (lost * 5) (by omega) (by omega)]
      simp only [h, and_self, decide_true, Bool.true_and]
      cases ht : topAsc l (-1)
      · rfl
      · obtain ⟨a, b, c⟩ := tsum_go l (-1) 0 (by omega) (by omega) ht
        have e : w64 (tsum l + w64 (5 * lost)) = lost * 5 + psum l := by
          have e1 : tsum l = psum l := by unfold tsum; rw [a]; omega
          rw [e1, w64_id (x := 5 * lost) (by omega) (by omega), w64_id (by omega) (by omega)]; omega
        rw [e]
    · simp only [h, decide_false, Bool.false_and, Bool.and_false]
def allR (rs : List (List Int)) : Int := cond (roughB rs) (isum (rs.getD 0 [])) (-1)
theorem zrr (f : Nat) (rs : List (List Int)) (hf : 8 < f) : zaK f ((rs, ()), ()) = some ((allR rs, ()), ()) := by
  show zm6 f rs = _
  unfold zm6 allR
  rw [zmb f rs hf, Option.bind_some]
  cases h : roughB rs
  · rfl
  · have h' := h
    unfold roughB at h'
    simp only [Bool.and_eq_true, decide_eq_true_eq] at h'
    obtain ⟨h3, h4⟩ := h'
    obtain ⟨a, b, c, rfl⟩ := three h3
    simp only [List.all_cons, Bool.and_eq_true, rowB] at h4
    have : (decide (a.length = 8) && a.all rng) = true := by simp [h4.1.1]
    simp only [zz_eq, Bool.not_true, cond_false, List.length_cons, List.length_nil, zrm f _ hf, Int.toNat_zero, List.getD_cons_zero, this, cond_true, Option.bind_some]
    rfl
theorem zOm (f : Nat) (rs : List (List Int)) (hf : 8 < f) (hr : ∀ r ∈ rs, r.length < f ∧ r.length < 4294967296) : ziw f ((rs, ()), ()) = some ((allR rs, ()), ()) := by
  show zmF f rs = _
  unfold zmF allR
  rw [zmc f rs hf hr, Option.bind_some]
  cases h : roughB rs
  · rfl
  · have h' := h
    unfold roughB at h'
    simp only [Bool.and_eq_true, decide_eq_true_eq] at h'
    obtain ⟨h3, h4⟩ := h'
    obtain ⟨a, b, c, rfl⟩ := three h3
    have := hr a (by simp)
    simp only [zz_eq, Bool.not_true, cond_false, List.length_cons, List.length_nil, Int.toNat_zero, List.getD_cons_zero, isum_eq f a this.2 this.1, cond_true, Option.bind_some]
    rfl
def sumB (rs : List (List Int)) (ms : List Int) (ps : List Knot) (lost tall : Int) (ks : List Knot) (rall : Int) : Bool :=
  roughB rs && (fewB ms && (topB ps lost tall && (okB ks rall && ((allR rs == tall) && ((tall == rall) && (decide ((ms.length : Int) > 0) == decide (tall > 0)))))))
theorem zOn (f : Nat) (rs : List (List Int)) (ms : List Int) (ps : List Knot) (lost tall : Int) (ks : List Knot) (rall : Int) (hf : 8 < f)
    (hr : ∀ r ∈ rs, r.length < f ∧ r.length < 4294967296) (hm : ms.length < 4294967296 ∧ ms.length < f) (hp : ps.length < 4294967296 ∧ ps.length < f) (hk : ks.length < 4294967296 ∧ ks.length < f) :
    zb4 f ((rs, ms, ps, lost, tall, ks, rall, ()), ()) = some ((sumB rs ms ps lost tall ks rall, ()), ()) := by
  show zmI f rs ms ps lost tall ks rall = _
  unfold zmI sumB
  simp only [zmc f rs hf hr, zro f ms hm.1 hm.2, zrq f ps lost tall hp.1 hp.2, zrl f ks rall hk.1 hk.2, zOm f rs hf hr, Option.bind_some, zz_eq]
  cases roughB rs <;> cases fewB ms <;> cases topB ps lost tall <;> cases okB ks rall <;> cases allR rs == tall <;> cases tall == rall <;> rfl
theorem zOo (f : Nat) (rs : List (List Int)) (ms : List Int) (ps : List Knot) (lost tall : Int) (ks : List Knot) (rall : Int) (hf : 8 < f) (hk : ks.length < 4294967296 ∧ ks.length < f) :
    zaU f ((rs, ms, ps, lost, tall, ks, rall, ()), ()) = some ((sumB rs ms ps lost tall ks rall, ()), ()) := by
  show zoc f rs ms ps lost tall ks rall = _
  unfold zoc sumB
  have e0 : zX f ((rs, ms, ps, lost, tall, ks, rall, ()), ()) = some (((((rs, ()), ()), ((ms, ()), ()), ((ps, lost, tall, ()), ()), ((ks, rall, ()), ()), ()), ())) := rfl
  have e1 : zjJ f ((rs, ()), ()) = some ((roughB rs, ()), ()) := by
    show zn0 f rs = _
    unfold zn0
    rw [zmb f rs hf]; rfl
  have e2 : zjK f ((ms, ()), ()) = some ((fewB ms, ()), ()) := by
    show zn3 f ms = _
    unfold zn3
    rw [zrn f ms hf]; rfl
  have e3 : zjL f ((ps, lost, tall, ()), ()) = some ((topB ps lost tall, ()), ()) := by
    show zn6 f ps lost tall = _
    unfold zn6
    rw [zrp f ps lost tall hf]; rfl
  have e4 : zjM f ((ks, rall, ()), ()) = some ((okB ks rall, ()), ()) := by
    show zn9 f ks rall = _
    unfold zn9
    rw [zrk f ks rall hk.1 hk.2]; rfl
  simp only [e0, e1, e2, e3, e4, zrr f rs hf, Option.bind_some, zz_eq]
  cases roughB rs <;> cases fewB ms <;> cases topB ps lost tall <;> cases okB ks rall <;> try rfl
  by_cases c1 : tall = allR rs
  · subst c1
    simp only [beq_self_eq_true, cond_true, Bool.true_and, Bool.not_true, cond_false]
    by_cases c2 : rall = allR rs
    · subst c2
      simp only [beq_self_eq_true, cond_true, Bool.true_and]
      rfl
    · have g1 : (rall == allR rs) = false := by simpa using c2
      have g2 : (allR rs == rall) = false := by simpa using fun h => c2 h.symm
      simp only [g1, g2, cond_false, Bool.false_and]
  · have g1 : (tall == allR rs) = false := by simpa using c1
    have g2 : (allR rs == tall) = false := by simpa using fun h => c1 h.symm
    simp only [g1, g2, cond_false, Bool.false_and, Bool.not_true, Bool.and_false]
end Go.Proofs.YtdgdoeknpakmlaaGreat.Den
namespace Go.Proofs.YtdgdoeknpakmlaaGreat.Den
open Go
def szR (n l : Int) : Int := if n - l < 0 then -1 else n - l
theorem szR_le {n l : Int} (h : 0 ≤ l) (hn : 0 ≤ n) : szR n l ≤ n ∧ -1 ≤ szR n l ∧ (0 ≤ szR n l → l ≤ n) := by
  unfold szR; split <;> omega
def Mes (o : Option ((Int × Unit) × Unit)) (n : Int) (P : Prop) : Prop := ∃ v : Int, o = some ((v, ()), ()) ∧ v ≤ n ∧ (0 ≤ v → P)
def Short (rs : List (List Int)) (ms : List Int) (ps ks : List Knot) (n : Nat) : Prop := rs.length ≤ n ∧ (∀ r ∈ rs, r.length ≤ n) ∧ ms.length ≤ n ∧ ps.length ≤ n ∧ ks.length ≤ n
theorem lim_of {n : Nat} (h : n ≤ 1048576) : n < LIM := by simp only [LIM]; omega
end Go.Proofs.YtdgdoeknpakmlaaGreat.Den
namespace Go.Proofs.YtdgdoeknpakmlaaGreat.Den
open Go
theorem six {ms : List Int} (h : fewB ms = true) : ms.length ≤ 6 := by
  unfold fewB at h
  simp only [Bool.and_eq_true, decide_eq_true_eq] at h
  exact h.1
def pl (i : Nat) (t : Int) : Nat := match i with
  | 0 => ((3 * t + t / 8) % 8).toNat
  | 1 => ((5 * t + t / 16 + 1) % 8).toNat
  | _ => ((t + t / 4 + 2) % 8).toNat
theorem zaG {rs : List (List Int)} (h : roughB rs = true) : ∃ a b c, rs = [a, b, c] ∧ rowB a = true ∧ rowB b = true ∧ rowB c = true ∧ isum b = isum a ∧ isum c = isum a := by
  unfold roughB at h
  simp only [Bool.and_eq_true, decide_eq_true_eq] at h
  obtain ⟨h3, h4⟩ := h
  obtain ⟨a, b, c, rfl⟩ := three h3
  simp only [List.all_cons, List.all_nil, Bool.and_eq_true, List.getD_cons_zero, beq_iff_eq] at h4
  exact ⟨a, b, c, rfl, h4.1.1, h4.2.1.1, h4.2.2.1.1, h4.2.1.2, h4.2.2.1.2⟩
theorem row_len {a : List Int} (h : rowB a = true) : a.length = 8 := by
  unfold rowB at h
  simp only [Bool.and_eq_true, decide_eq_true_eq] at h
  exact h.1
end Go.Proofs.YtdgdoeknpakmlaaGreat.Den
namespace Go.Proofs.YtdgdoeknpakmlaaGreat.Den
open Go
def GoodK (ks : List Knot) : Prop := ∀ k ∈ ks, 1 ≤ k.1 ∧ k.1 ≤ 127 ∧ 1 ≤ k.2.1 ∧ k.2.1 ≤ 2000
theorem zCL {all : Int} : ∀ {ks : List Knot} {before sum : Int}, 0 ≤ before → okGo all ks before sum = true → GoodK ks
  | [], _, _, _, _ => fun k hk => by cases hk
  | k :: r, before, sum, hb, h => by
    unfold okGo at h
    split at h
    · cases h
    · rename_i c
      have ih := zCL (by omega) h
      intro k' hk'
      rcases List.mem_cons.1 hk' with rfl | hk'
      · omega
      · exact ih k' hk'
theorem zh0 {ks : List Knot} {all : Int} (h : okB ks all = true) : GoodK ks := by
  unfold okB at h
  split at h
  · cases h
  · exact zCL (Int.le_refl _) h
def numsGo : List Knot → List Int → List Int
  | [], a => a
  | k :: r, a => numsGo r (a.set k.1.toNat (w64 (a.getD k.1.toNat 0 + k.2.1)))
def zeros : List Int := List.replicate 128 0
theorem zmd : ∀ {ks : List Knot} {a : List Int}, (numsGo ks a).length = a.length
  | [], a => rfl
  | k :: r, a => by rw [numsGo, zmd]; simp
theorem zCM : ∀ {ks ks' : List Knot} {a : List Int}, numsGo (ks ++ ks') a = numsGo ks' (numsGo ks a)
  | [], ks', a => rfl
  | k :: r, ks', a => by rw [List.cons_append, numsGo, numsGo, zCM]
def sq1 (all : Int) (n : Nat) (a : List Int) : List Int :=
  if 0 < w64 (a.getD (2 * n) 0 + a.getD (2 * n + 1) 0) ∧ w64 (w64 (a.getD (2 * n) 0 + a.getD (2 * n + 1) 0) + a.getD n 0) ≤ w64 (all.tdiv 8) then
    ((a.set n (w64 (a.getD n 0 + w64 (a.getD (2 * n) 0 + a.getD (2 * n + 1) 0)))).set (2 * n) 0).set (2 * n + 1) 0
  else a
def sqGo (all : Int) : Nat → List Int → List Int
  | 0, a => a
  | n + 1, a => sqGo all n (sq1 all (n + 1) a)
theorem sq1_len {all : Int} {n : Nat} {a : List Int} : (sq1 all n a).length = a.length := by
  unfold sq1; split <;> simp
theorem zrs {all : Int} : ∀ {n : Nat} {a : List Int}, (sqGo all n a).length = a.length
  | 0, a => rfl
  | n + 1, a => by rw [sqGo, zrs, sq1_len]
def listGo : Nat → List Int → List Knot
  | _, [] => []
  | i, x :: r => if 0 < x then ((i : Int), x, ()) :: listGo (i + 1) r else listGo (i + 1) r
theorem zBu (f : Nat) (ks : List Knot) (hl : ks.length < 4294967296) (hg : GoodK ks) : ∀ (d i : Nat) (a : List Int) (fuel : Nat), i + d = ks.length → a.length = 128 → d < fuel →
    iter (ziF f) fuel ((i : Int), ks, a) = some ((numsGo (ks.drop i) a, ()), ())
  | 0, i, a, fuel + 1, hi, ha, hf => by
    rw [iter]
    show zev f _ _ = _
    unfold zev
    have h1 : ¬ ((i : Int) < (ks.length : Int)) := by omega
    have h2 : ks.drop i = [] := List.drop_eq_nil_of_le (by omega)
    simp [h1, h2, numsGo, zz_eq]
  | d + 1, i, a, fuel + 1, hi, ha, hf => by
    rw [iter]
    show zev f _ _ = _
    unfold zev
    have h1 : (i : Int) < (ks.length : Int) := by omega
    have h2 : (0 : Int) ≤ (i : Int) := by omega
    have h3 : w64 ((i : Int) + 1) = (i : Int) + 1 := by rw [w64_id] <;> omega
    have ih : ∀ a : List Int, a.length = 128 → iter (ziF f) fuel ((i : Int) + 1, ks, a) = some ((numsGo (ks.drop (i + 1)) a, ()), ()) := fun a ha => by
      exact_mod_cast zBu f ks hl hg d (i + 1) a fuel (by omega) ha (by omega)
    have hk := hg (ks.getD i (0, 0, ())) (by
      rw [List.getD_eq_getElem?_getD, List.getElem?_eq_getElem (by omega)]; exact List.getElem_mem _)
    rw [zdw (0, 0, ()) (show i < ks.length by omega)]
    simp only [h1, h2, h3, zz_eq, Int.toNat_natCast, decide_true, cond_true]
    obtain ⟨k, hk'⟩ : ∃ k : Knot, ks.getD i (0, 0, ()) = k := ⟨_, rfl⟩
    simp only [hk'] at hk ⊢
    have c1 : 0 ≤ k.1 := by omega
    have c2 : k.1 < ((a.length : Nat) : Int) := by omega
    have c3 : k.1.toNat < a.length := by omega
    simp only [c1, c2, c3, decide_true, cond_true]
    rw [ih _ (by simpa using ha)]
    rfl
theorem zOp (f : Nat) (ks : List Knot) (hl : ks.length < 4294967296) (hg : GoodK ks) (hf : ks.length < f) : zew f ((ks, ()), ()) = some ((numsGo ks zeros, ()), ()) := by
  unfold zew zmU
  have := zBu f ks hl hg ks.length 0 zeros f (by omega) (by simp [zeros]) hf
  simpa [zeros] using this
theorem tdiv2 (n : Nat) : Int.tdiv (2 * (n : Int)) 2 = n := by
  rw [Int.tdiv_eq_ediv_of_nonneg (by omega)]; omega
theorem zBv (f : Nat) (all : Int) : ∀ (n : Nat) (a : List Int) (fuel : Nat), n ≤ 63 → a.length = 128 → n < fuel →
    iter (ziJ f) fuel (2 * (n : Int), all, a) = some (sqGo all n a, ())
  | 0, a, fuel + 1, hn, ha, hf => by
    rw [iter]
    show zeH f _ _ = _
    unfold zeH
    simp [sqGo]
  | n + 1, a, fuel + 1, hn, ha, hf => by
    rw [iter]
    show zeH f _ _ = _
    unfold zeH
    have ih : ∀ a : List Int, a.length = 128 → iter (ziJ f) fuel (2 * (n : Int), all, a) = some (sqGo all n a, ()) := fun a ha =>
      zBv f all n a fuel (by omega) ha (by omega)
    have h1 : (2 * ((n + 1 : Nat) : Int)) ≥ 2 := by omega
    have h2 : (0 : Int) ≤ 2 * ((n + 1 : Nat) : Int) := by omega
    have h3 : 2 * ((n + 1 : Nat) : Int) < 128 := by omega
    have h4 : w64 (2 * ((n + 1 : Nat) : Int) + 1) = ((2 * (n + 1) + 1 : Nat) : Int) := by rw [w64_id] <;> omega
    have h5 : w64 (Int.tdiv (2 * ((n + 1 : Nat) : Int)) 2) = ((n + 1 : Nat) : Int) := by rw [tdiv2, w64_id] <;> omega
    have h6 : w64 (2 * ((n + 1 : Nat) : Int) - 2) = 2 * (n : Int) := by rw [w64_id] <;> omega
    have h7 : (2 * ((n + 1 : Nat) : Int)).toNat = 2 * (n + 1) := by omega
    have l1 : 2 * (n + 1) < 128 := by omega
    have l2 : 2 * (n + 1) + 1 < 128 := by omega
    have l3 : n + 1 < 128 := by omega
    have l4 : ((2 * (n + 1) + 1 : Nat) : Int) < 128 := by omega
    have l5 : ((n + 1 : Nat) : Int) < 128 := by omega
    simp only [h1, h2, h4, h5, h6, h7, zz_eq, List.length_set, ha, Int.toNat_natCast, Int.natCast_nonneg, decide_true, cond_true, l1, l2, l3, show (((128 : Nat) : Int)) = 128 from rfl, h3, l4, l5]
    unfold sqGo sq1
    by_cases c1 : 0 < w64 (a.getD (2 * (n + 1)) 0 + a.getD (2 * (n + 1) + 1) 0)
    · by_cases c2 : w64 (w64 (a.getD (2 * (n + 1)) 0 + a.getD (2 * (n + 1) + 1) 0) + a.getD (n + 1) 0) ≤ w64 (all.tdiv 8)
      · rw [if_pos ⟨c1, c2⟩]
        simp only [c1, c2, gt_iff_lt, decide_true, cond_true]
        exact ih _ (by simpa using ha)
      · rw [if_neg (fun h => c2 h.2)]
        simp only [c1, c2, gt_iff_lt, decide_true, decide_false, cond_true, cond_false]
        exact ih _ ha
    · rw [if_neg (fun h => c1 h.1)]
      simp only [c1, gt_iff_lt, decide_false, cond_false]
      exact ih _ ha
theorem zOq (f : Nat) (a : List Int) (all : Int) (ha : a.length = 128) (hf : 63 < f) : zeI f (a, (), (all, ()), ()) = some (sqGo all 63 a, ()) := by
  unfold zeI zmY
  have := zBv f all 63 a f (by omega) ha hf
  have e : w64 ((zz a.length) - 2) = 2 * ((63 : Nat) : Int) := by rw [zz_eq, ha, w64_id] <;> omega
  simp only [e]
  exact this
theorem zBw (f : Nat) (a : List Int) (ha : a.length = 128) : ∀ (d i : Nat) (out : List Knot) (fuel : Nat), i + d = 128 → out.length ≤ i → d < fuel →
    iter (ziH f) fuel ((i : Int), a, out) = some ((out ++ listGo i (a.drop i), ()), ())
  | 0, i, out, fuel + 1, hi, ho, hf => by
    rw [iter]
    show zeB f _ _ = _
    unfold zeB
    have h1 : ¬ ((i : Int) < (a.length : Int)) := by omega
    have h2 : a.drop i = [] := List.drop_eq_nil_of_le (by omega)
    simp [h1, h2, listGo, zz_eq]
  | d + 1, i, out, fuel + 1, hi, ho, hf => by
    rw [iter]
    show zeB f _ _ = _
    unfold zeB
    have h1 : (i : Int) < (a.length : Int) := by omega
    have h2 : (0 : Int) ≤ (i : Int) := by omega
    have h3 : w64 ((i : Int) + 1) = (i : Int) + 1 := by rw [w64_id] <;> omega
    have ih : ∀ out : List Knot, out.length ≤ i + 1 → iter (ziH f) fuel ((i : Int) + 1, a, out) = some ((out ++ listGo (i + 1) (a.drop (i + 1)), ()), ()) := fun out ho => by
      exact_mod_cast zBw f a ha d (i + 1) out fuel (by omega) ho (by omega)
    have h4 : out.length + 1 < LIM := by simp only [LIM]; omega
    rw [zdw 0 (show i < a.length by omega)]
    simp only [h1, h2, h3, zz_eq, Int.toNat_natCast, decide_true, cond_true, listGo, List.length_singleton, h4]
    by_cases c : 0 < a.getD i 0
    · simp only [c, gt_iff_lt, decide_true, cond_true, if_true]
      rw [ih _ (by simp; omega)]
      simp
    · simp only [c, gt_iff_lt, decide_false, cond_false, if_false]
      exact ih _ (by omega)
theorem zOr (f : Nat) (a : List Int) (ha : a.length = 128) (hf : 128 < f) : zeC f ((a, ()), ()) = some ((listGo 1 (a.drop 1), ()), ()) := by
  unfold zeC zmW
  have := zBw f a ha 127 1 [] f (by omega) (by simp) (by omega)
  simpa using this
def sumK (ka : List Knot) (kb : List Knot) (all : Int) : List Knot := listGo 0 (sqGo all 63 (numsGo kb (numsGo ka zeros)))
theorem zme : ∀ {ks : List Knot} {a : List Int}, GoodK ks → (numsGo ks a).getD 0 0 = a.getD 0 0
  | [], a, _ => rfl
  | k :: r, a, hg => by
    have hk := hg k (by simp)
    rw [numsGo, zme fun x hx => hg x (by simp [hx])]
    simp only [List.getD_eq_getElem?_getD]
    rw [List.getElem?_set_ne (by omega)]
theorem zOs {all : Int} {n : Nat} {a : List Int} (hn : 0 < n) : (sq1 all n a).getD 0 0 = a.getD 0 0 := by
  unfold sq1
  split
  · simp only [List.getD_eq_getElem?_getD]
    rw [List.getElem?_set_ne (by omega), List.getElem?_set_ne (by omega), List.getElem?_set_ne (by omega)]
  · rfl
theorem zrt {all : Int} : ∀ {n : Nat} {a : List Int}, (sqGo all n a).getD 0 0 = a.getD 0 0
  | 0, a => rfl
  | n + 1, a => by rw [sqGo, zrt, zOs (by omega)]
theorem zCN {a : List Int} (h : a.getD 0 0 ≤ 0) : listGo 0 a = listGo 1 (a.drop 1) := by
  cases a with
  | nil => rfl
  | cons x r =>
    have : ¬ 0 < x := by simpa using h
    simp [listGo, this]
theorem zOt {ka kb : List Knot} (ga : GoodK ka) (gb : GoodK kb) : GoodK (ka ++ kb) := fun k hk => by
  rcases List.mem_append.1 hk with h | h
  · exact ga k h
  · exact gb k h
def joinB (ka : List Knot) (alla : Int) (kb : List Knot) (allb : Int) : Bool := okB ka alla && (okB kb allb && decide (alla + allb ≤ 2000))
abbrev RankR := (List Knot × Int × Unit) × (Bool × Unit) × Unit
def noRank : RankR := (([], 0, ()), (false, ()), ())
theorem okB_all {ks : List Knot} {all : Int} (h : okB ks all = true) : 0 ≤ all ∧ all ≤ 2000 := by
  unfold okB at h
  split at h
  · cases h
  · omega
theorem zOu (f : Nat) (ka kb : List Knot) (alla allb : Int) (hla : ka.length < 2147483648) (hlb : kb.length < 2147483648) (hfa : ka.length + kb.length < f) (hf : 128 < f) :
    zf3 f ((ka, alla, ()), (kb, allb, ()), ()) = some (if joinB ka alla kb allb = true then ((sumK ka kb (alla + allb), alla + allb, ()), (true, ()), ()) else noRank) := by
  show zoi f ka alla kb allb = _
  unfold zoi joinB noRank
  simp only [zrl f ka alla (by omega) (by omega), zrl f kb allb (by omega) (by omega), Option.bind_some]
  by_cases c : okB ka alla = true
  · by_cases c2 : okB kb allb = true
    · have b1 := okB_all c
      have b2 := okB_all c2
      have e : w64 (alla + allb) = alla + allb := by rw [w64_id] <;> omega
      by_cases c3 : alla + allb ≤ 2000
      · have c4 : ¬ alla + allb > 2000 := by omega
        have l1 : 0 + ka.length < LIM := by simp only [LIM]; omega
        have l2 : ([] ++ ka).length + kb.length < LIM := by simp only [LIM, List.nil_append]; omega
        have hz : zeros.length = 128 := List.length_replicate ..
        have g := zOt (zh0 c) (zh0 c2)
        have h2 : (numsGo (ka ++ kb) zeros).length = 128 := by rw [zmd]; exact hz
        have e1 := zOp f (ka ++ kb) (by simp; omega) g (by simp; omega)
        have e2 := zOq f (numsGo (ka ++ kb) zeros) (alla + allb) h2 (by omega)
        have e3 := zOr f (sqGo (alla + allb) 63 (numsGo (ka ++ kb) zeros)) (by rw [zrs]; exact h2) hf
        have e4 : listGo 1 ((sqGo (alla + allb) 63 (numsGo (ka ++ kb) zeros)).drop 1) = sumK ka kb (alla + allb) := by
          rw [← zCN (by rw [zrt, zme g]; decide), zCM]; rfl
        simp only [c, c2, c3, e, c4, l1, l2, List.nil_append, e1, e2, e3, e4, Bool.not_true, cond_false, cond_true, decide_false, Option.bind_some, decide_true, Bool.and_self, if_true]
        have l2' : ka.length + kb.length < LIM := by simpa using l2
        simp only [l2', decide_true, cond_true, e1, e2, e3, e4, Option.bind_some]
      · have c4 : alla + allb > 2000 := by omega
        simp [c, c2, c3, e, c4]
    · simp [c, c2]
  · simp [c]
end Go.Proofs.YtdgdoeknpakmlaaGreat.Den
namespace Go.Proofs.YtdgdoeknpakmlaaGreat.Den
open Go
def Bytes (b : List Int) : Prop := b.length ≤ 2000 ∧ ∀ x ∈ b, 0 ≤ x ∧ x ≤ 255
theorem Bytes.getD {b : List Int} (h : Bytes b) (i : Nat) : 0 ≤ b.getD i 0 ∧ b.getD i 0 ≤ 255 := by
  rw [List.getD_eq_getElem?_getD]
  cases hi : b[i]? with
  | none => simp
  | some x => simpa using h.2 x (List.mem_of_getElem? hi)
def Rd (b : List Int) (p q : Int) (s : List Int × Int × Unit) : Prop := s.1 = b ∧ p ≤ s.2.1 ∧ s.2.1 ≤ q
theorem Rd.trans {b : List Int} {p q r : Int} {s t : List Int × Int × Unit} (h1 : Rd b p q s) (h2 : Rd b s.2.1 (s.2.1 + r) t) : Rd b p (q + r) t := ⟨h2.1, by have := h1.2; have := h2.2; omega, by have := h1.2; have := h2.2; omega⟩
end Go.Proofs.YtdgdoeknpakmlaaGreat.Den
namespace Go.Proofs.YtdgdoeknpakmlaaGreat.Den
open Go
theorem copy_eq (f : Nat) (a b c : List Int) (ha : a.length = 8) (hb : b.length = 8) (hc : c.length = 8) : zmK f (([a, b, c], ()), ()) = some (([a, b, c], ()), ()) := by
  show zd8 f a b c = _
  unfold zd8
  simp only [ha, hb, hc, LIM, List.nil_append]
  rfl
def zipAdd (a b : List Int) : List Int := List.zipWith (fun u v => w64 (u + v)) a b
def roughJoin (x y : List (List Int)) : List (List Int) × Bool :=
  cond (roughB x && (roughB y && decide (w64 (isum (x.getD 0 []) + isum (y.getD 0 [])) ≤ 2000))) ([zipAdd (x.getD 0 []) (y.getD 0 []), zipAdd (x.getD 1 []) (y.getD 1 []), zipAdd (x.getD 2 []) (y.getD 2 [])], true) ([], false)
theorem zOv (f : Nat) (x y : List (List Int)) (hf : 8 < f) (hx : ∀ r ∈ x, r.length < f ∧ r.length < 4294967296) (hy : ∀ r ∈ y, r.length < f ∧ r.length < 4294967296) :
    zjQ f ((x, ()), (y, ()), ()) = some (((roughJoin x y).1, ()), ((roughJoin x y).2, ()), ()) := by
  show zjP f (iter (zcS f) f) x y = _
  unfold zjP roughJoin
  simp only [zmc f x hf hx, zmc f y hf hy, Option.bind_some]
  cases h : roughB x
  · rfl
  cases h' : roughB y
  · rfl
  obtain ⟨a, b, c, rfl, ha, hb, hc, -, -⟩ := zaG h
  obtain ⟨a', b', c', rfl, ha', hb', hc', -, -⟩ := zaG h'
  have l0 := row_len ha
  have l1 := row_len hb
  have l2 := row_len hc
  have k0 := row_len ha'
  have k1 := row_len hb'
  have k2 := row_len hc'
  have i0 := isum_eq f a (by omega) (by omega)
  have j0 := isum_eq f a' (by omega) (by omega)
  have g0 : decide ((0 : Int) < zz ([a, b, c] : List (List Int)).length) = true := rfl
  have g0' : decide ((0 : Int) < zz ([a', b', c'] : List (List Int)).length) = true := rfl
  have g1 : ([a, b, c] : List (List Int)).getD (Int.toNat 0) [] = a := rfl
  have g1' : ([a', b', c'] : List (List Int)).getD (Int.toNat 0) [] = a' := rfl
  have d1 : ([a, b, c] : List (List Int)).getD 1 [] = b := rfl
  have d2 : ([a, b, c] : List (List Int)).getD 2 [] = c := rfl
  have d1' : ([a', b', c'] : List (List Int)).getD 1 [] = b' := rfl
  have d2' : ([a', b', c'] : List (List Int)).getD 2 [] = c' := rfl
  simp only [Bool.not_true, cond_false, g0, g0', cond_true, g1, g1', i0, j0, Option.bind_some, List.getD_cons_zero, Bool.true_and, d1, d2, d1', d2']
  by_cases cn : w64 (isum a + isum a') ≤ 2000
  · have cn' : ¬ w64 (isum a + isum a') > 2000 := by omega
    simp only [cn, cn', decide_true, decide_false, cond_false, cond_true, copy_eq f a b c l0 l1 l2, Option.bind_some, List.getD_cons_zero, d1, d2]
    obtain ⟨f, rfl⟩ : ∃ g, f = g + 4 := ⟨f - 4, by omega⟩
    have r0 : ∀ (G : zQ → Option (((List (List Int)) × Unit) × ((Bool × Unit) × Unit))), iter (zav (f + 4) G) (f + 4) (.c0 (0, [a', b', c'], a, b, c)) = G (.c1 ([a', b', c'], zipAdd a a', b, c)) := fun G => by
      refine (zma (st := zav (f + 4) G) (enc := fun i out => .c0 ((i : Int), [a', b', c'], out, b, c)) (fun out => G (.c1 ([a', b', c'], out, b, c))) 8 a' 0 0 (fun u v => w64 (u + v)) k0 ?_ ?_ 8 0 a (f + 4) (by omega) l0 (by omega))
      · intro i out g hi ho
        show zp (f + 4) G g _ = _
        unfold zp
        have h1 : (i : Int) < 8 := by omega
        have h2 : (i : Int) < ((8 : Nat) : Int) := by omega
        have g2 : ([a', b', c'] : List (List Int)).getD (Int.toNat 0) [] = a' := rfl
        have g3 : decide ((0 : Int) < (([a', b', c'] : List (List Int)).length : Int)) = true := rfl
        simp only [zz_eq, h1, le_cast, ho, h2, hi, g2, k0, decide_true, cond_true, Int.toNat_natCast, w64_up (show i < 4294967296 by omega)]
        rfl
      · intro out g ho
        show zp (f + 4) G g _ = _
        unfold zp
        rfl
    have r1 : ∀ (G : zQ → Option (((List (List Int)) × Unit) × ((Bool × Unit) × Unit))) (a : List Int), iter (zav (f + 4) G) (f + 4) (.c1 (0, [a', b', c'], a, b, c)) = G (.c2 ([a', b', c'], a, zipAdd b b', c)) := fun G a => by
      refine (zma (st := zav (f + 4) G) (enc := fun i out => .c1 ((i : Int), [a', b', c'], a, out, c)) (fun out => G (.c2 ([a', b', c'], a, out, c))) 8 b' 0 0 (fun u v => w64 (u + v)) k1 ?_ ?_ 8 0 b (f + 4) (by omega) l1 (by omega))
      · intro i out g hi ho
        show zp (f + 4) G g _ = _
        unfold zp
        have h1 : (i : Int) < 8 := by omega
        have h2 : (i : Int) < ((8 : Nat) : Int) := by omega
        have g2 : ([a', b', c'] : List (List Int)).getD (Int.toNat 1) [] = b' := rfl
        simp only [zz_eq, h1, le_cast, ho, h2, hi, g2, k1, decide_true, cond_true, Int.toNat_natCast, w64_up (show i < 4294967296 by omega)]
        rfl
      · intro out g ho
        show zp (f + 4) G g _ = _
        unfold zp
        rfl
    have r2 : ∀ (G : zQ → Option (((List (List Int)) × Unit) × ((Bool × Unit) × Unit))) (a b : List Int), iter (zav (f + 4) G) (f + 4) (.c2 (0, [a', b', c'], a, b, c)) = G (.c3 ([a', b', c'], a, b, zipAdd c c')) := fun G a b => by
      refine (zma (st := zav (f + 4) G) (enc := fun i out => .c2 ((i : Int), [a', b', c'], a, b, out)) (fun out => G (.c3 ([a', b', c'], a, b, out))) 8 c' 0 0 (fun u v => w64 (u + v)) k2 ?_ ?_ 8 0 c (f + 4) (by omega) l2 (by omega))
      · intro i out g hi ho
        show zp (f + 4) G g _ = _
        unfold zp
        have h1 : (i : Int) < 8 := by omega
        have h2 : (i : Int) < ((8 : Nat) : Int) := by omega
        have g2 : ([a', b', c'] : List (List Int)).getD (Int.toNat 2) [] = c' := rfl
        simp only [zz_eq, h1, le_cast, ho, h2, hi, g2, k2, decide_true, cond_true, Int.toNat_natCast, w64_up (show i < 4294967296 by omega)]
        rfl
      · intro out g ho
        show zp (f + 4) G g _ = _
        unfold zp
        rfl
    have u : ∀ n v, iter (zcS (f + 4)) (n + 1) v = zbw (f + 4) (iter (zav (f + 4) (iter (zcS (f + 4)) n)) (f + 4)) (iter (zcS (f + 4)) n) v := fun n v => rfl
    have s0 : ∀ X G v, zbw (f + 4) X G (.c0 v) = X (.c0 ((0 : Int), v.1, v.2.1, v.2.2.1, v.2.2.2)) := fun X G v => rfl
    have s1 : ∀ X G v, zbw (f + 4) X G (.c1 v) = X (.c1 ((0 : Int), v.1, v.2.1, v.2.2.1, v.2.2.2)) := fun X G v => rfl
    have s2 : ∀ X G v, zbw (f + 4) X G (.c2 v) = X (.c2 ((0 : Int), v.1, v.2.1, v.2.2.1, v.2.2.2)) := fun X G v => rfl
    have s3 : ∀ X G v, zbw (f + 4) X G (.c3 v) = some ((([v.2.1, v.2.2.1, v.2.2.2], ()), (true, ()), ())) := fun X G v => rfl
    refine (u (f + 3) _).trans ?_
    rw [s0, r0]
    refine (u (f + 2) _).trans ?_
    rw [s1, r1]
    refine (u (f + 1) _).trans ?_
    rw [s2, r2]
    refine (u f _).trans ?_
    rw [s3]
  · have cn' : w64 (isum a + isum a') > 2000 := by omega
    simp only [cn, cn', decide_true, decide_false, cond_true, cond_false]
def putM (m : Int) : List Int → Bool → List Int
  | [], done => cond done [] [m]
  | x :: r, done => cond (!done && decide (x ≥ m)) (m :: cond (x != m) (x :: putM m r true) (putM m r true)) (cond (x != m) (x :: putM m r done) (putM m r done))
def few6 (l : List Int) (m : Int) : List Int := (putM m l false).take 6
theorem zOw {l : List Int} : List.take (Int.toNat (if (6 : Int) < zz l.length then (6 : Int) else zz l.length) - 0) (List.drop 0 l) = l.take 6 := by
  rw [List.drop_zero, Nat.sub_zero]
  split
  · rfl
  · rename_i h
    rw [zz_eq] at h
    rw [zz_eq, Int.toNat_natCast, List.take_of_length_le (Nat.le_refl _), List.take_of_length_le (by omega)]
theorem min_nn {n : Nat} : (0 : Int) ≤ if (6 : Int) < zz n then (6 : Int) else zz n := by
  have := zz_eq n
  split <;> omega
theorem min_le {n : Nat} : (if (6 : Int) < zz n then (6 : Int) else zz n) ≤ zz n := by split <;> omega
theorem zCO (f : Nat) (l : List Int) (m : Int) (hl : l.length < 100000000) : ∀ (d i : Nat) (done : Bool) (out : List Int) (fuel : Nat), i + d = l.length → out.length ≤ 2 * i → d < fuel →
    iter (zee f) fuel ((i : Int), l, done, m, out) = some (((out ++ putM m (l.drop i) done).take 6, ()), ())
  | 0, i, done, out, fuel + 1, hi, ho, hf => by
    rw [iter]
    show zed f _ _ = _
    unfold zed
    obtain rfl : i = l.length := by omega
    have h1 : out.length + 1 < LIM := by simp only [LIM]; omega
    simp only [zOw, min_nn, min_le, h1, decide_true, cond_true]
    simp only [zz_eq, zb, decide_false, cond_false, List.drop_eq_nil_of_le (Nat.le_refl _)]
    cases done
    · rfl
    · simp only [putM, cond_true, Bool.not_true, cond_false, List.append_nil]
  | d + 1, i, done, out, fuel + 1, hi, ho, hf => by
    rw [iter]
    show zed f _ _ = _
    unfold zed
    have hlt : i < l.length := by omega
    have ih : ∀ done (out : List Int), out.length ≤ 2 * (i + 1) → iter (zee f) fuel (((i + 1 : Nat) : Int), l, done, m, out) = some (((out ++ putM m (l.drop (i + 1)) done).take 6, ()), ()) := fun done out h =>
      zCO f l m hl d (i + 1) done out fuel (by omega) h (by omega)
    have h1 : out.length + 1 < LIM := by simp only [LIM]; omega
    have h2 : out.length + 1 + 1 < LIM := by simp only [LIM]; omega
    simp only [zz_eq, lt_cast hlt, le_cast, decide_true, cond_true, Int.toNat_natCast, w64_up (show i < 4294967296 by omega), h1, List.length_append, List.length_singleton, h2]
    rw [zad 0 hlt]
    obtain ⟨x, hx⟩ : ∃ x : Int, l.getD i 0 = x := ⟨_, rfl⟩
    simp only [hx]
    have e1 := ih true (out ++ [m] ++ [x]) (by simp; omega)
    have e2 := ih true (out ++ [m]) (by simp; omega)
    have e3 := ih done (out ++ [x]) (by simp; omega)
    have e4 := ih done out (by omega)
    simp only [e1, e2, e3, e4]
    simp only [putM, List.append_assoc, List.singleton_append, List.cons_append, List.nil_append]
    cases done
    · by_cases c : x ≥ m
      · simp only [c, decide_true, Bool.not_false, Bool.true_and, cond_true]
        cases (x != m) <;> rfl
      · simp only [c, decide_false, Bool.not_false, Bool.true_and, cond_true, cond_false]
        cases (x != m) <;> rfl
    · simp only [Bool.not_true, Bool.false_and, cond_false]
      cases (x != m) <;> rfl
theorem zOx (f : Nat) (l : List Int) (m : Int) (hl : l.length < 100000000) (hf : l.length < f) : zb6 f ((l, ()), (m, ()), ()) = some ((few6 l m, ()), ()) := by
  show iter (zee f) f ((0 : Int), l, false, m, []) = _
  exact (zCO f l m hl l.length 0 false [] f (by omega) (by simp) hf).trans rfl
theorem zOy (l : List Int) (m : Int) : (few6 l m).length ≤ 6 := by unfold few6; rw [List.length_take]; omega
def fewJoinGo : List Int → List Int → List Int
  | [], k => k
  | x :: r, k => fewJoinGo r (few6 k x)
def fewJoin (a b : List Int) : List Int × Bool := cond (fewB a && fewB b) (fewJoinGo b a, true) ([], false)
theorem zCP (f : Nat) (hf : 8 < f) : ∀ (b k : List Int), k.length ≤ 6 → goL (R := ((List Int × Unit) × ((Bool × Unit) × Unit))) (fun (x : Int) c (k : List Int) => (zb6 f ((k, ()), (x, ()), ())).bind fun y => c y.fst.fst) (fun k => some ((k, ()), (true, ()), ())) b k = some ((fewJoinGo b k, ()), (true, ()), ())
  | [], k, h => rfl
  | x :: b, k, h => by
    unfold goL
    rw [zOx f k x (by omega) (by omega), Option.bind_some]
    exact zCP f hf b _ (zOy k x)
theorem zOz (f : Nat) (a b : List Int) (ha : a.length < 100000000) (hb : b.length < 100000000) (hfa : a.length < f) (hfb : b.length < f) (hf : 8 < f) : zjU f ((a, ()), (b, ()), ()) = some (((fewJoin a b).1, ()), ((fewJoin a b).2, ()), ()) := by
  show zjT f (iter (zjS f) f) a b = _
  unfold zjT fewJoin
  simp only [zro f a (by omega) hfa, zro f b (by omega) hfb, Option.bind_some]
  cases h : fewB a
  · rfl
  cases h' : fewB b
  · rfl
  have h1 : 0 + a.length < LIM := by simp only [LIM]; omega
  simp only [h1, Bool.not_true, cond_false, decide_true, cond_true, List.nil_append, Bool.and_self]
  refine (zD (st := zjS f) (enc := fun i k => ((i : Int), b, k)) (fun (x : Int) c (k : List Int) => (zb6 f ((k, ()), (x, ()), ())).bind fun y => c y.fst.fst) (fun k => some ((k, ()), (true, ()), ())) b 0 ?_ ?_ f a hfb).trans (zCP f hf b a (six h))
  · intro i s g hi
    show zfX f g _ = _
    unfold zfX
    simp only [zz_eq, lt_cast hi, le_cast, decide_true, cond_true, Int.toNat_natCast, w64_up (show i < 4294967296 by omega)]
  · intro s g
    show zfX f g _ = _
    unfold zfX
    simp only [zz_eq, zb, decide_false, cond_false]
end Go.Proofs.YtdgdoeknpakmlaaGreat.Den
namespace Go.Proofs.YtdgdoeknpakmlaaGreat.Den
open Go
def putP (t n : Int) : List Knot → Bool → List Knot
  | [], done => cond done [] [(t, n, ())]
  | x :: r, done => cond (!done && decide (x.1 ≥ t)) (cond (x.1 == t) ((t, w64 (n + x.2.1), ()) :: putP t n r true) ((t, n, ()) :: (x.1, x.2.1, ()) :: putP t n r true)) ((x.1, x.2.1, ()) :: putP t n r done)
theorem zmf (t n : Int) : ∀ (l : List Knot) (done : Bool), (putP t n l done).length ≤ l.length + 1
  | [], done => by cases done <;> simp [putP]
  | x :: r, done => by
    have h1 := zmf t n r true
    have h2 := zmf t n r done
    have h3 : ∀ (l : List Knot), (putP t n l true).length = l.length := by
      intro l
      induction l with
      | nil => rfl
      | cons x l ih => simp [putP, ih]
    unfold putP
    cases (!done && decide (x.1 ≥ t)) <;> cases (x.1 == t) <;> simp only [cond_true, cond_false, List.length_cons, h3] <;> omega
theorem zCQ (f : Nat) (l : List Knot) (t n : Int) (hl : l.length < 100000000) : ∀ (d i : Nat) (done : Bool) (out : List Knot) (fuel : Nat), i + d = l.length → out.length ≤ 2 * i → d < fuel →
    iter (zek f) fuel ((i : Int), l, done, t, n, out) = some ((out ++ putP t n (l.drop i) done, ()), ())
  | 0, i, done, out, fuel + 1, hi, ho, hf => by
    rw [iter]
    show zej f _ _ = _
    unfold zej
    obtain rfl : i = l.length := by omega
    have h1 : out.length + 1 < LIM := by simp only [LIM]; omega
    simp only [h1, decide_true, cond_true]
    simp only [zz_eq, zb, decide_false, cond_false, List.drop_eq_nil_of_le (Nat.le_refl _)]
    cases done
    · rfl
    · simp only [putP, cond_true, Bool.not_true, cond_false, List.append_nil]
  | d + 1, i, done, out, fuel + 1, hi, ho, hf => by
    rw [iter]
    show zej f _ _ = _
    unfold zej
    have hlt : i < l.length := by omega
    have ih : ∀ done (out : List Knot), out.length ≤ 2 * (i + 1) → iter (zek f) fuel (((i + 1 : Nat) : Int), l, done, t, n, out) = some ((out ++ putP t n (l.drop (i + 1)) done, ()), ()) := fun done out h =>
      zCQ f l t n hl d (i + 1) done out fuel (by omega) h (by omega)
    have h1 : out.length + 1 < LIM := by simp only [LIM]; omega
    have h2 : out.length + 1 + 1 < LIM := by simp only [LIM]; omega
    simp only [zz_eq, lt_cast hlt, le_cast, decide_true, cond_true, Int.toNat_natCast, w64_up (show i < 4294967296 by omega), h1, List.length_append, List.length_singleton, h2]
    rw [zad (0, 0, ()) hlt]
    obtain ⟨x, hx⟩ : ∃ x : Knot, l.getD i (0, 0, ()) = x := ⟨_, rfl⟩
    simp only [hx]
    have e1 := ih true (out ++ [(t, n, ())] ++ [(x.1, x.2.1, ())]) (by simp; omega)
    have e2 := ih true (out ++ [(t, w64 (n + x.2.1), ())]) (by simp; omega)
    have e3 := ih done (out ++ [(x.1, x.2.1, ())]) (by simp; omega)
    simp only [e1, e2, e3]
    simp only [putP, List.append_assoc, List.singleton_append, List.cons_append, List.nil_append]
    cases done
    · by_cases c : x.1 ≥ t
      · simp only [c, decide_true, Bool.not_false, Bool.true_and, cond_true]
        cases (x.1 == t) <;> rfl
      · simp only [c, decide_false, Bool.not_false, Bool.true_and, cond_true, cond_false]
    · simp only [Bool.not_true, Bool.false_and, cond_false]
theorem zOA (f : Nat) (l : List Knot) (t n : Int) (hl : l.length < 100000000) (hf : l.length < f) : zbg f ((l, ()), (t, n, ()), ()) = some ((putP t n l false, ()), ()) := by
  show iter (zek f) f ((0 : Int), l, false, t, n, []) = _
  exact (zCQ f l t n hl l.length 0 false [] f (by omega) (by simp) hf).trans rfl
def cntGe (m : Int) (l : List Knot) : Int := l.foldl (fun n x => cond (decide (x.2.1 ≥ m)) (w64 (n + 1)) n) 0
def over3 (l : List Knot) : Int := l.foldl (fun b x => cond (decide (cntGe x.2.1 l > 4)) (if x.2.1 > b then x.2.1 else b) b) 0
theorem zOB (f : Nat) (l : List Knot) (hl : l.length < 100000000) (hf : l.length < f) : ziB f ((l, ()), ()) = some ((over3 l, ()), ()) := by
  show iter (ziA f) f ((0 : Int), l, (0 : Int)) = _
  refine (zD (st := ziA f) (enc := fun i (b : Int) => ((i : Int), l, b)) (fun (x : Knot) k b => k (cond (decide (cntGe x.2.1 l > 4)) (if x.2.1 > b then x.2.1 else b) b)) (fun b => some ((b, ()), ())) l (0, 0, ()) ?_ ?_ f 0 hf).trans (fold_go (fun b x => cond (decide (cntGe x.2.1 l > 4)) (if x.2.1 > b then x.2.1 else b) b) (fun _ _ _ => rfl) l 0)
  · intro i b g hi
    show zcb f _ g _ = _
    unfold zcb
    simp only [zz_eq, lt_cast hi, decide_true, cond_true]
    refine (zD (st := zmO f g) (enc := fun k (n : Int) => ((k : Int), l, (i : Int), n, b)) (fun (y : Knot) k n => k (cond (decide (y.2.1 ≥ (l.getD i (0, 0, ())).2.1)) (w64 (n + 1)) n))
      (fun n => g (((i + 1 : Nat) : Int), l, cond (decide (n > 4)) (if (l.getD i (0, 0, ())).2.1 > b then (l.getD i (0, 0, ())).2.1 else b) b)) l (0, 0, ()) ?_ ?_ f 0 hf).trans (fold_go (fun n y => cond (decide (y.2.1 ≥ (l.getD i (0, 0, ())).2.1)) (w64 (n + 1)) n) (fun _ _ _ => rfl) l 0)
    · intro k n g2 hk
      show zca f g g2 _ = _
      unfold zca
      simp only [zz_eq, lt_cast hi, lt_cast hk, le_cast, decide_true, cond_true, Int.toNat_natCast, w64_up (show k < 4294967296 by omega)]
      cases decide ((l.getD k (0, 0, ())).2.1 ≥ (l.getD i (0, 0, ())).2.1) <;> rfl
    · intro n g2
      show zca f g g2 _ = _
      unfold zca
      simp only [zz_eq, zb, lt_cast hi, le_cast, decide_true, decide_false, cond_true, cond_false, Int.toNat_natCast, w64_up (show i < 4294967296 by omega)]
      cases decide (n > 4) <;> rfl
  · intro b g
    show zcb f _ g _ = _
    unfold zcb
    simp only [zz_eq, zb, decide_false, cond_false]
def less3 (m : Int) : List Knot → List Knot
  | [] => []
  | x :: r => cond (decide (x.2.1 > m)) ((x.1, w64 (x.2.1 - m), ()) :: less3 m r) (less3 m r)
theorem zCR (f : Nat) (l : List Knot) (m : Int) (hl : l.length < 100000000) : ∀ (d i : Nat) (out : List Knot) (fuel : Nat), i + d = l.length → out.length ≤ i → d < fuel →
    iter (zeq f) fuel ((i : Int), l, m, out) = some ((out ++ less3 m (l.drop i), ()), ())
  | 0, i, out, fuel + 1, hi, ho, hf => by
    rw [iter]
    show zep f _ _ = _
    unfold zep
    obtain rfl : i = l.length := by omega
    simp only [zz_eq, zb, decide_false, cond_false, List.drop_eq_nil_of_le (Nat.le_refl _), less3, List.append_nil]
  | d + 1, i, out, fuel + 1, hi, ho, hf => by
    rw [iter]
    show zep f _ _ = _
    unfold zep
    have hlt : i < l.length := by omega
    have ih : ∀ (out : List Knot), out.length ≤ i + 1 → iter (zeq f) fuel (((i + 1 : Nat) : Int), l, m, out) = some ((out ++ less3 m (l.drop (i + 1)), ()), ()) := fun out h =>
      zCR f l m hl d (i + 1) out fuel (by omega) h (by omega)
    have h1 : out.length + 1 < LIM := by simp only [LIM]; omega
    simp only [zz_eq, lt_cast hlt, le_cast, decide_true, cond_true, Int.toNat_natCast, w64_up (show i < 4294967296 by omega), h1]
    rw [zad (0, 0, ()) hlt]
    obtain ⟨x, hx⟩ : ∃ x : Knot, l.getD i (0, 0, ()) = x := ⟨_, rfl⟩
    simp only [hx]
    have e1 := ih (out ++ [(x.1, w64 (x.2.1 - m), ())]) (by simp; omega)
    have e2 := ih out (by omega)
    simp only [e1, e2]
    simp only [less3, List.append_assoc, List.singleton_append, List.cons_append, List.nil_append]
    cases decide (x.2.1 > m) <;> rfl
theorem zOC (f : Nat) (l : List Knot) (m : Int) (hl : l.length < 100000000) (hf : l.length < f) : ziD f ((l, ()), (m, ()), ()) = some ((less3 m l, ()), ()) := by
  show iter (zeq f) f ((0 : Int), l, m, []) = _
  exact (zCR f l m hl l.length 0 [] f (by omega) (by simp) hf).trans rfl
abbrev TopD := List Knot × Int × Int × Unit
def cut3 (l : List Knot) (lost all : Int) : TopD := (less3 (over3 l) l, w64 (lost + over3 l), all, ())
theorem zOD (f : Nat) (l : List Knot) (lost all : Int) (hl : l.length < 100000000) (hf : l.length < f) : zbi f ((l, lost, all, ()), ()) = some (cut3 l lost all, ()) := by
  show zmS f l lost all = _
  unfold zmS
  simp only [zOB f l hl hf, zOC f l _ hl hf, Option.bind_some]
  rfl
def noTop : TopD := ([], 0, 0, ())
def putAll (a b : List Knot) : List Knot := b.foldl (fun k x => putP x.1 x.2.1 k false) a
theorem zru : ∀ (b a : List Knot), (putAll a b).length ≤ a.length + b.length
  | [], a => Nat.le_refl _
  | x :: b, a => by
    have h1 := zru b (putP x.1 x.2.1 a false)
    have h2 := zmf x.1 x.2.1 a false
    show (putAll (putP x.1 x.2.1 a false) b).length ≤ _
    simp only [List.length_cons]; omega
def topJoin (pa : List Knot) (la aa : Int) (pb : List Knot) (lb ab : Int) : TopD × Bool :=
  cond (topB pa la aa && (topB pb lb ab && decide (w64 (aa + ab) ≤ 2000))) (cut3 (putAll pa pb) (w64 (la + lb)) (w64 (aa + ab)), true) (noTop, false)
theorem four {ps : List Knot} {l a : Int} (h : topB ps l a = true) : ps.length ≤ 4 ∧ 0 ≤ l ∧ l ≤ 2000 ∧ 0 ≤ a ∧ a ≤ 2000 := by
  unfold topB at h
  simp only [Bool.and_eq_true, decide_eq_true_eq] at h
  exact h.1
theorem zOE (f : Nat) (pa : List Knot) (la aa : Int) (pb : List Knot) (lb ab : Int) (ha : pa.length < 10000000) (hb : pb.length < 10000000) (hfa : pa.length < f) (hfb : pb.length < f) (hf : 16 < f) :
    zjY f ((pa, la, aa, ()), (pb, lb, ab, ()), ()) = some ((topJoin pa la aa pb lb ab).1, ((topJoin pa la aa pb lb ab).2, ()), ()) := by
  show zjX f (iter (zjW f) f) pa la aa pb lb ab = _
  unfold zjX topJoin
  simp only [zrq f pa la aa (by omega) (by omega), zrq f pb lb ab (by omega) (by omega), Option.bind_some]
  cases h : topB pa la aa
  · rfl
  cases h' : topB pb lb ab
  · rfl
  have b1 := four h
  have b2 := four h'
  by_cases c : w64 (aa + ab) ≤ 2000
  · have c' : ¬ w64 (aa + ab) > 2000 := by omega
    have h1 : 0 + pa.length < LIM := by simp only [LIM]; omega
    simp only [c, c', decide_true, decide_false, h1, Bool.not_true, cond_false, cond_true, List.nil_append, Bool.and_self]
    refine (zD (st := zjW f) (enc := fun i (k : List Knot) => ((i : Int), pb, lb, ab, k, pa, la, aa, (0 : Int), (0 : Int))) (fun (x : Knot) c (k : List Knot) => (zbg f ((k, ()), (x.1, x.2.1, ()), ())).bind fun y => c y.1.1)
      (fun k => (zbi f ((k, w64 (la + lb), w64 (aa + ab), ()), ())).bind fun y => some ((y.1.1, y.1.2.1, y.1.2.2.1, ()), (true, ()), ())) pb (0, 0, ()) ?_ ?_ f pa hfb).trans ?_
    · intro i k g hi
      show zf2 f g _ = _
      unfold zf2
      simp only [zz_eq, lt_cast hi, le_cast, decide_true, cond_true, Int.toNat_natCast, w64_up (show i < 4294967296 by omega)]
    · intro k g
      show zf2 f g _ = _
      unfold zf2
      simp only [zz_eq, zb, decide_false, cond_false]
    · have : ∀ (b k : List Knot), k.length + b.length ≤ 12 → goL (R := (TopD × ((Bool × Unit) × Unit))) (fun (x : Knot) c (k : List Knot) => (zbg f ((k, ()), (x.1, x.2.1, ()), ())).bind fun y => c y.1.1)
          (fun k => (zbi f ((k, w64 (la + lb), w64 (aa + ab), ()), ())).bind fun y => some ((y.1.1, y.1.2.1, y.1.2.2.1, ()), (true, ()), ())) b k = some (cut3 (putAll k b) (w64 (la + lb)) (w64 (aa + ab)), (true, ()), ()) := by
        intro b
        induction b with
        | nil =>
          intro k hk
          simp only [List.length_nil] at hk
          show (zbi f ((k, w64 (la + lb), w64 (aa + ab), ()), ())).bind _ = _
          rw [zOD f k _ _ (by omega) (by omega)]; rfl
        | cons x b ih =>
          intro k hk
          simp only [List.length_cons] at hk
          have := zmf x.1 x.2.1 k false
          show (zbg f ((k, ()), (x.1, x.2.1, ()), ())).bind _ = _
          rw [zOA f k _ _ (by omega) (by omega)]
          exact ih (putP x.1 x.2.1 k false) (by omega)
      exact this pb pa (by omega)
  · have c' : w64 (aa + ab) > 2000 := by omega
    simp only [c, c', decide_true, decide_false, Bool.not_true, cond_false, cond_true, Bool.and_false]
    rfl
abbrev SumD := List (List Int) × List Int × List Knot × Int × Int × List Knot × Int × Unit
def noSum : SumD := ([], [], [], 0, 0, [], 0, ())
def sumBD (s : SumD) : Bool := sumB s.1 s.2.1 s.2.2.1 s.2.2.2.1 s.2.2.2.2.1 s.2.2.2.2.2.1 s.2.2.2.2.2.2.1
def rankJoin (ka : List Knot) (aa : Int) (kb : List Knot) (ab : Int) : (List Knot × Int × Unit) × Bool := cond (joinB ka aa kb ab) ((sumK ka kb (aa + ab), aa + ab, ()), true) (([], 0, ()), false)
theorem zOF (f : Nat) (ka kb : List Knot) (aa ab : Int) (hla : ka.length < 2147483648) (hlb : kb.length < 2147483648) (hfa : ka.length + kb.length < f) (hf : 128 < f) :
    zf3 f ((ka, aa, ()), (kb, ab, ()), ()) = some ((rankJoin ka aa kb ab).1, ((rankJoin ka aa kb ab).2, ()), ()) := by
  rw [zOu f ka kb aa ab hla hlb hfa hf]; unfold rankJoin
  cases joinB ka aa kb ab <;> rfl
structure SmallS (s : SumD) (n : Nat) : Prop where
  rows : s.1.length ≤ n
  row : ∀ r ∈ s.1, r.length ≤ n
  marks : s.2.1.length ≤ n
  pairs : s.2.2.1.length ≤ n
  knots : s.2.2.2.2.2.1.length ≤ n
theorem zmg (f : Nat) (s : SumD) {n : Nat} (hs : SmallS s n) (hn : n < 4294967296) (hf : 8 < f) (hnf : n < f) : zb4 f (s, ()) = some ((sumBD s, ()), ()) :=
  zOn f s.1 s.2.1 s.2.2.1 s.2.2.2.1 s.2.2.2.2.1 s.2.2.2.2.2.1 s.2.2.2.2.2.2.1 hf (fun r hr => by have := hs.row r hr; omega) (by have := hs.marks; omega) (by have := hs.pairs; omega) (by have := hs.knots; omega)
theorem zmh (f : Nat) (s : SumD) {n : Nat} (hs : SmallS s n) (hn : n < 4294967296) (hf : 8 < f) (hnf : n < f) : zaU f (s, ()) = some ((sumBD s, ()), ()) :=
  zOo f s.1 s.2.1 s.2.2.1 s.2.2.2.1 s.2.2.2.2.1 s.2.2.2.2.2.1 s.2.2.2.2.2.2.1 hf (by have := hs.knots; omega)
def sumJoin (s u : SumD) : SumD × Bool := cond (sumBD s && (sumBD u && decide (w64 (s.2.2.2.2.1 + u.2.2.2.2.1) ≤ 2000)))
  (((roughJoin s.1 u.1).1, (fewJoin s.2.1 u.2.1).1, (topJoin s.2.2.1 s.2.2.2.1 s.2.2.2.2.1 u.2.2.1 u.2.2.2.1 u.2.2.2.2.1).1.1, (topJoin s.2.2.1 s.2.2.2.1 s.2.2.2.2.1 u.2.2.1 u.2.2.2.1 u.2.2.2.2.1).1.2.1, (topJoin s.2.2.1 s.2.2.2.1 s.2.2.2.2.1 u.2.2.1 u.2.2.2.1 u.2.2.2.2.1).1.2.2.1, (rankJoin s.2.2.2.2.2.1 s.2.2.2.2.2.2.1 u.2.2.2.2.2.1 u.2.2.2.2.2.2.1).1.1, (rankJoin s.2.2.2.2.2.1 s.2.2.2.2.2.2.1 u.2.2.2.2.2.1 u.2.2.2.2.2.2.1).1.2.1, ()), true) (noSum, false)
theorem zOG (f : Nat) (s u : SumD) {n : Nat} (hs : SmallS s n) (hu : SmallS u n) (hn : n < 1000000) (hnf : 2 * n < f) (hf : 128 < f) : zcV f (s, u, ()) = some ((sumJoin s u).1, ((sumJoin s u).2, ()), ()) := by
  obtain ⟨rs, ms, ps, lost, tall, ks, rall, ⟨⟩⟩ := s
  obtain ⟨rs', ms', ps', lost', tall', ks', rall', ⟨⟩⟩ := u
  have e0 := zmg f (rs, ms, ps, lost, tall, ks, rall, ()) hs (by omega) (by omega) (by omega)
  have e1 := zmg f (rs', ms', ps', lost', tall', ks', rall', ()) hu (by omega) (by omega) (by omega)
  have h1 := hs.rows; have h2 := hs.row; have h3 := hs.marks; have h4 := hs.pairs; have h5 := hs.knots
  have k1 := hu.rows; have k2 := hu.row; have k3 := hu.marks; have k4 := hu.pairs; have k5 := hu.knots
  simp only at h1 h2 h3 h4 h5 k1 k2 k3 k4 k5
  show zbz f rs ms ps lost tall ks rall rs' ms' ps' lost' tall' ks' rall' = _
  unfold zbz sumJoin
  simp only [e0, e1, Option.bind_some, zOv f rs rs' (by omega) (fun r hr => by have := h2 r hr; omega) (fun r hr => by have := k2 r hr; omega), zOz f ms ms' (by omega) (by omega) (by omega) (by omega) (by omega),
    zOE f ps lost tall ps' lost' tall' (by omega) (by omega) (by omega) (by omega) (by omega), zOF f ks ks' rall rall' (by omega) (by omega) (by omega) (by omega)]
  have : decide (w64 (tall + tall') > 2000) = !decide (w64 (tall + tall') ≤ 2000) := by
    by_cases h : w64 (tall + tall') ≤ 2000
    · have : ¬ w64 (tall + tall') > 2000 := by omega
      simp [h, this]
    · have : w64 (tall + tall') > 2000 := by omega
      simp [h, this]
  rw [this]
  cases sumBD (rs, ms, ps, lost, tall, ks, rall, ()) <;> cases sumBD (rs', ms', ps', lost', tall', ks', rall', ()) <;> cases decide (w64 (tall + tall') ≤ 2000) <;> rfl
theorem zOH {a b : List Int} (h : a.length = 8) (h' : b.length = 8) : (zipAdd a b).length = 8 := by unfold zipAdd; rw [List.length_zipWith]; omega
end Go.Proofs.YtdgdoeknpakmlaaGreat.Den
namespace Go.Proofs.YtdgdoeknpakmlaaGreat.Den
open Go
theorem SmallS.mono {s : SumD} {n m : Nat} (h : SmallS s n) (hm : n ≤ m) : SmallS s m :=
  ⟨Nat.le_trans h.rows hm, fun r hr => Nat.le_trans (h.row r hr) hm, Nat.le_trans h.marks hm, Nat.le_trans h.pairs hm, Nat.le_trans h.knots hm⟩
theorem SmallS.all {s : SumD} {n : Nat} (h : SmallS s n) (a : Int) : SmallS (s.1, s.2.1, s.2.2.1, s.2.2.2.1, a, s.2.2.2.2.2.1, s.2.2.2.2.2.2.1, ()) n := ⟨h.rows, h.row, h.marks, h.pairs, h.knots⟩
theorem SmallS.kept {s : SumD} {n : Nat} (h : SmallS s n) (x : Int) : SmallS (s.1, s.2.1 ++ [x], s.2.2.1, s.2.2.2.1, s.2.2.2.2.1, s.2.2.2.2.2.1, s.2.2.2.2.2.2.1, ()) (n + 1) :=
  ⟨Nat.le_succ_of_le h.rows, fun r hr => Nat.le_succ_of_le (h.row r hr), by show (s.2.1 ++ [x]).length ≤ n + 1; have := h.marks; rw [List.length_append, List.length_singleton]; omega, Nat.le_succ_of_le h.pairs, Nat.le_succ_of_le h.knots⟩
theorem SmallS.rough {s u : SumD} {n : Nat} (h : SmallS s n) (hu : SmallS u n) : SmallS (u.1, s.2.1, s.2.2.1, s.2.2.2.1, s.2.2.2.2.1, s.2.2.2.2.2.1, s.2.2.2.2.2.2.1, ()) n := ⟨hu.rows, hu.row, h.marks, h.pairs, h.knots⟩
section
variable (f : Nat) (s : SumD) (hs : SmallS s 129) (hf : 300 < f)
include hs hf
end
end Go.Proofs.YtdgdoeknpakmlaaGreat.Den
namespace Go.Proofs.YtdgdoeknpakmlaaGreat.Den
open Go
def ascN (p : Int → Bool) : Nat → Int → List Int
  | 0, _ => []
  | d + 1, i => cond (p i) (i :: ascN p d (i + 1)) (ascN p d (i + 1))
def fst6 (p : Int → Bool) : List Int := (ascN p 64 0).take 6
theorem zCS {p q : Int → Bool} : ∀ {d : Nat} {i : Int}, (∀ k, i ≤ k → k < i + d → p k = q k) → ascN p d i = ascN q d i
  | 0, i, _ => rfl
  | d + 1, i, h => by
    unfold ascN
    rw [h i (Int.le_refl _) (by omega), zCS (d := d) (i := i + 1) fun k h1 h2 => h k (by omega) (by omega)]
theorem zh1 {p : Int → Bool} {x : Int} : ∀ {d : Nat} {i : Int}, x ∈ ascN p d i ↔ i ≤ x ∧ x < i + d ∧ p x = true
  | 0, i => by simp [ascN]; omega
  | d + 1, i => by
    have ih := zh1 (p := p) (x := x) (d := d) (i := i + 1)
    unfold ascN
    cases hp : p i
    · simp only [cond_false, ih]
      constructor
      · rintro ⟨h1, h2, h3⟩; exact ⟨by omega, by omega, h3⟩
      · rintro ⟨h1, h2, h3⟩
        have : x ≠ i := fun h => by rw [h, hp] at h3; cases h3
        exact ⟨by omega, by omega, h3⟩
    · simp only [cond_true, List.mem_cons, ih]
      constructor
      · rintro (rfl | ⟨h1, h2, h3⟩)
        · exact ⟨by omega, by omega, hp⟩
        · exact ⟨by omega, by omega, h3⟩
      · rintro ⟨h1, h2, h3⟩
        by_cases h : x = i
        · exact .inl h
        · exact .inr ⟨by omega, by omega, h3⟩
theorem ascN_go {p : Int → Bool} : ∀ {d : Nat} {i b : Int}, b < i → i + d ≤ 64 → fewGo (ascN p d i) b = true
  | 0, i, b, _, _ => rfl
  | d + 1, i, b, h, h2 => by
    unfold ascN
    cases p i
    · exact ascN_go (by omega) (by omega)
    · simp only [cond_true, fewGo, Bool.and_eq_true, decide_eq_true_eq]
      exact ⟨by omega, ascN_go (by omega) (by omega)⟩
theorem zCT : ∀ {n : Nat} {l : List Int} {b : Int}, fewGo l b = true → fewGo (l.take n) b = true
  | 0, l, b, _ => by simp [fewGo]
  | n + 1, [], b, _ => rfl
  | n + 1, x :: l, b, h => by
    simp only [fewGo, Bool.and_eq_true, List.take_succ_cons] at h ⊢
    exact ⟨h.1, zCT h.2⟩
theorem za9 : ∀ {l : List Int} {b x : Int}, fewGo l b = true → x ∈ l → b < x ∧ x ≤ 63
  | [], b, x, _, h => by cases h
  | y :: l, b, x, h, hx => by
    simp only [fewGo, Bool.and_eq_true, decide_eq_true_eq] at h
    rcases List.mem_cons.1 hx with rfl | hx
    · exact h.1
    · have := za9 h.2 hx; omega
theorem zbO (p : Int → Bool) : fewB (fst6 p) = true := by
  unfold fewB fst6
  simp only [Bool.and_eq_true, decide_eq_true_eq]
  exact ⟨by rw [List.length_take]; omega, zCT (ascN_go (by omega) (by omega))⟩
theorem asc_of : ∀ {d : Nat} {i b : Int} {l : List Int}, fewGo l b = true → b + 1 = i → i + d = 64 → l = ascN (fun k => l.contains k) d i
  | 0, i, b, l, h, hb, hi => by
    cases l with
    | nil => rfl
    | cons x l => have := za9 h (List.mem_cons_self ..); omega
  | d + 1, i, b, l, h, hb, hi => by
    unfold ascN
    by_cases hx : ∃ r, l = i :: r
    · obtain ⟨r, rfl⟩ := hx
      simp only [List.contains_cons, beq_self_eq_true, Bool.true_or, cond_true]
      simp only [fewGo, Bool.and_eq_true] at h
      have ih := asc_of (d := d) (i := i + 1) h.2 rfl (by omega)
      conv => lhs; rw [ih]
      congr 1
      refine zCS fun k h1 h2 => ?_
      have : (k == i) = false := by simpa using (by omega : k ≠ i)
      simp only [List.contains_cons, this, Bool.false_or]
    · have hne : ∀ y ∈ l, i < y := by
        cases l with
        | nil => intro y hy; cases hy
        | cons x r =>
          have h1 := za9 h (List.mem_cons_self ..)
          have h2 : x ≠ i := fun e => hx ⟨r, by rw [e]⟩
          intro y hy
          simp only [fewGo, Bool.and_eq_true] at h
          rcases List.mem_cons.1 hy with rfl | hy
          · omega
          · have := za9 h.2 hy; omega
      have hc : l.contains i = false := by
        cases hl : l.contains i
        · rfl
        · have := hne i (List.contains_iff_mem.1 hl); omega
      simp only [hc, cond_false]
      have h' : fewGo l i = true := by
        cases l with
        | nil => rfl
        | cons x r =>
          simp only [fewGo, Bool.and_eq_true, decide_eq_true_eq] at h ⊢
          exact ⟨⟨hne x (List.mem_cons_self ..), h.1.2⟩, h.2⟩
      exact asc_of (d := d) (i := i + 1) h' rfl (by omega)
theorem zba {l : List Int} (h : fewB l = true) : l = fst6 fun k => l.contains k := by
  have h6 := six h
  unfold fewB at h
  simp only [Bool.and_eq_true] at h
  have := asc_of (d := 64) (i := 0) h.2 rfl rfl
  unfold fst6
  rw [← this, List.take_of_length_le h6]
theorem cutM_ne {m : Int} {l : List Int} (h : ∀ x ∈ l, m < x) : cutM m l = l := by
  cases l with
  | nil => rfl
  | cons x r =>
    have := h x (List.mem_cons_self ..)
    have : (x == m) = false := by simpa using (by omega : x ≠ m)
    simp only [cutM, this, cond_false]
theorem cutM_eq {m : Int} {l : List Int} : cutM m (m :: l) = l := by simp [cutM]
theorem zhX : ∀ {f : Nat}, mergeM f [] [] = []
  | 0 => rfl
  | f + 1 => rfl
theorem zrv {p q : Int → Bool} : ∀ {d : Nat} {i : Int} {f : Nat}, d ≤ f → mergeM f (ascN p d i) (ascN q d i) = ascN (fun k => p k || q k) d i
  | 0, i, f, h => zhX
  | d + 1, i, 0, h => by omega
  | d + 1, i, f + 1, h => by
    have ih := zrv (p := p) (q := q) (d := d) (i := i + 1) (f := f) (by omega)
    have ih' := zrv (p := p) (q := q) (d := d) (i := i + 1) (f := f + 1) (by omega)
    have gp : ∀ x ∈ ascN p d (i + 1), i < x := fun x hx => by have := (zh1.1 hx).1; omega
    have gq : ∀ x ∈ ascN q d (i + 1), i < x := fun x hx => by have := (zh1.1 hx).1; omega
    unfold ascN
    cases hp : p i <;> cases hq : q i <;> simp only [cond_true, cond_false, Bool.or_self, Bool.or_true, Bool.or_false, Bool.true_or, Bool.false_or]
    · exact ih'
    · have e : headM (ascN p d (i + 1)) (i :: ascN q d (i + 1)) = i := by
        cases hl : ascN p d (i + 1) with
        | nil => rfl
        | cons x r =>
          have : i < x := gp x (by rw [hl]; exact List.mem_cons_self ..)
          simp only [headM, this, if_true]
      show cond _ _ _ = _
      simp only [List.isEmpty_cons, Bool.and_false, cond_false, e, cutM_eq, cutM_ne gp, ih]
    · have e : headM (i :: ascN p d (i + 1)) (ascN q d (i + 1)) = i := by
        cases hl : ascN q d (i + 1) with
        | nil => rfl
        | cons x r =>
          have : ¬ x < i := by have := gq x (by rw [hl]; exact List.mem_cons_self ..); omega
          simp only [headM, this, if_false]
      show cond _ _ _ = _
      simp only [List.isEmpty_cons, Bool.false_and, cond_false, e, cutM_eq, cutM_ne gq, ih]
    · have e : headM (i :: ascN p d (i + 1)) (i :: ascN q d (i + 1)) = i := by simp [headM]
      show cond _ _ _ = _
      simp only [List.isEmpty_cons, Bool.and_self, cond_false, e, cutM_eq, ih]
theorem zCU : ∀ {n f f' k k' : Nat} {a b : List Int}, n ≤ f → n ≤ f' → n ≤ k → n ≤ k' → (mergeM f a b).take n = (mergeM f' (a.take k) (b.take k')).take n
  | 0, _, _, _, _, _, _, _, _, _, _ => by simp
  | n + 1, f + 1, f' + 1, k + 1, k' + 1, a, b, h1, h2, h3, h4 => by
    have cut : ∀ (m : Int) (a : List Int) (k : Nat), n + 1 ≤ k + 1 → ∃ k2, n ≤ k2 ∧ cutM m (a.take (k + 1)) = (cutM m a).take k2 := by
      intro m a k hk
      cases a with
      | nil => exact ⟨k, by omega, by simp [cutM]⟩
      | cons x r =>
        cases hx : x == m
        · exact ⟨k + 1, by omega, by simp only [List.take_succ_cons, cutM, hx, cond_false]⟩
        · exact ⟨k, by omega, by simp only [List.take_succ_cons, cutM, hx, cond_true]⟩
    have hh : headM (a.take (k + 1)) (b.take (k' + 1)) = headM a b := by
      cases a <;> cases b <;> rfl
    have hb : ((a.take (k + 1)).isEmpty && (b.take (k' + 1)).isEmpty) = (a.isEmpty && b.isEmpty) := by
      cases a <;> cases b <;> rfl
    obtain ⟨k2, g1, e1⟩ := cut (headM a b) a k h3
    obtain ⟨k3, g2, e2⟩ := cut (headM a b) b k' h4
    unfold mergeM
    rw [hb, hh, e1, e2]
    cases (a.isEmpty && b.isEmpty)
    · simp only [cond_false, List.take_succ_cons]
      rw [zCU (n := n) (f := f) (f' := f') (k := k2) (k' := k3) (by omega) (by omega) g1 g2]
    · rfl
theorem zmi (p q : Int → Bool) : leastL (fst6 p) (fst6 q) = fst6 fun k => p k || q k := by
  unfold leastL fst6
  rw [← zCU (n := 6) (f := 64) (f' := 12) (k := 6) (k' := 6) (by omega) (by omega) (by omega) (by omega), zrv (Nat.le_refl _)]
theorem fst6_ok (p q : Int → Bool) : leastOK (fst6 p) (fst6 q) = true := by
  have g : ∀ p, (fst6 p).length ≤ 6 ∧ (fst6 p).all (fun x => decide (x ≤ 63)) = true := fun p => by
    have h := zbO p
    refine ⟨six h, ?_⟩
    unfold fewB at h
    simp only [Bool.and_eq_true] at h
    rw [List.all_eq_true]
    intro x hx
    exact decide_eq_true (za9 h.2 hx).2
  unfold leastOK
  simp only [(g p).1, (g q).1, (g p).2, (g q).2, decide_true, Bool.and_self]
theorem zrw {m : Int} : ∀ {l : List Int}, (∀ x ∈ l, m < x) → putM m l true = l
  | [], _ => rfl
  | x :: r, h => by
    have : (x != m) = true := by simpa using (by have := h x (List.mem_cons_self ..); omega : x ≠ m)
    unfold putM
    simp only [Bool.not_true, Bool.false_and, cond_false, this, cond_true, zrw fun y hy => h y (List.mem_cons_of_mem _ hy)]
theorem zrx : ∀ {l : List Int} {f : Nat}, l.length ≤ f → mergeM f l [] = l
  | [], f, _ => zhX
  | x :: r, 0, h => by simp at h
  | x :: r, f + 1, h => by
    show cond _ _ _ = _
    simp only [List.isEmpty_cons, Bool.false_and, cond_false, headM, cutM_eq]
    rw [show cutM x ([] : List Int) = [] from rfl, zrx (by simpa using h)]
theorem zCV {m : Int} : ∀ {l : List Int} {b : Int} {f : Nat}, fewGo l b = true → l.length + 1 ≤ f → putM m l false = mergeM f l [m]
  | [], b, 0, _, h => by omega
  | [], b, f + 1, _, h => by
    show [m] = cond _ _ _
    simp only [List.isEmpty_cons, Bool.and_false, cond_false, headM, cutM_eq]
    rw [show cutM m ([] : List Int) = [] from rfl, zhX]
  | x :: r, b, 0, _, h => by omega
  | x :: r, b, f + 1, hg, h => by
    simp only [fewGo, Bool.and_eq_true] at hg
    simp only [List.length_cons] at h
    have gr : ∀ y ∈ r, x < y := fun y hy => (za9 hg.2 hy).1
    unfold putM
    show _ = cond _ _ _
    simp only [List.isEmpty_cons, Bool.and_self, cond_false, headM, Bool.not_false, Bool.true_and]
    by_cases c1 : x ≥ m
    · by_cases c2 : x = m
      · subst c2
        have e : ¬ x < x := by omega
        simp only [c1, decide_true, cond_true, bne_self_eq_false, cond_false, zrw gr, e, if_false, cutM_eq]
        rw [zrx (by omega)]
      · have e1 : (x != m) = true := by simpa using c2
        have e2 : m < x := by omega
        have e3 : (x == m) = false := by simpa using c2
        simp only [c1, decide_true, cond_true, e1, zrw (fun y hy => Int.lt_trans e2 (gr y hy)), e2, if_true, cutM_eq]
        rw [show cutM m (x :: r) = x :: r from by simp only [cutM, e3, cond_false], zrx (by simp; omega)]
    · have e1 : (x != m) = true := by simpa using (by omega : x ≠ m)
      have e2 : ¬ m < x := by omega
      have e3 : (m == x) = false := by simpa using (by omega : m ≠ x)
      simp only [c1, decide_false, cond_false, e1, cond_true, e2, if_false, cutM_eq]
      rw [show cutM x [m] = [m] from by simp only [cutM, e3, cond_false], zCV (f := f) hg.2 (by omega)]
theorem one_asc {m : Int} : ∀ {d : Nat} {i : Int}, i ≤ m → m < i + d → ascN (fun k => k == m) d i = [m]
  | 0, i, h1, h2 => by omega
  | d + 1, i, h1, h2 => by
    unfold ascN
    by_cases h : i = m
    · subst h
      have none : ∀ {d : Nat} {j : Int}, i < j → ascN (fun k => k == i) d j = [] := by
        intro d
        induction d with
        | zero => intro j _; rfl
        | succ d ih =>
          intro j hj
          unfold ascN
          have : (j == i) = false := by simpa using (by omega : j ≠ i)
          simp only [this, cond_false, ih (by omega : i < j + 1)]
      simp only [beq_self_eq_true, cond_true, none (by omega : i < i + 1)]
    · have : (i == m) = false := by simpa using h
      simp only [this, cond_false]
      exact one_asc (by omega) (by omega)
theorem zOI {m : Int} (h0 : 0 ≤ m) (h1 : m ≤ 63) : fst6 (fun k => k == m) = [m] := by
  unfold fst6
  rw [one_asc h0 (by omega)]; rfl
theorem zOJ {l : List Int} {m : Int} (h : fewB l = true) (h0 : 0 ≤ m) (h1 : m ≤ 63) : few6 l m = leastL l [m] := by
  have h6 := six h
  unfold fewB at h
  simp only [Bool.and_eq_true] at h
  unfold few6 leastL
  rw [zCV h.2 (f := 12) (by omega)]
theorem zOK (p : Int → Bool) {m : Int} (h0 : 0 ≤ m) (h1 : m ≤ 63) : few6 (fst6 p) m = fst6 fun k => p k || k == m := by
  rw [zOJ (zbO p) h0 h1, ← zOI h0 h1, zmi]
theorem zry : ∀ {b : List Int} {p : Int → Bool}, (∀ x ∈ b, 0 ≤ x ∧ x ≤ 63) → fewJoinGo b (fst6 p) = fst6 fun k => p k || b.contains k
  | [], p, _ => by
    show fst6 p = _
    congr 1; funext k; simp
  | x :: r, p, h => by
    have hx := h x (List.mem_cons_self ..)
    show fewJoinGo r (few6 (fst6 p) x) = _
    rw [zOK p hx.1 hx.2, zry fun y hy => h y (List.mem_cons_of_mem _ hy)]
    congr 1; funext k
    rw [List.contains_cons, Bool.or_assoc]
theorem zOL (f : Nat) (a b : List Int) (hf : 8 < f) : zf6 f ((a, ()), (b, ()), ()) = some (((fewJoin a b).1, ()), ((fewJoin a b).2, ()), ()) := by
  show zop f a b = _
  unfold zop fewJoin
  simp only [zrn f a hf, zrn f b hf, Option.bind_some]
  cases h : fewB a
  · rfl
  cases h' : fewB b
  · rfl
  have ok : leastOK a b = true := by
    rw [zba h, zba h']; exact fst6_ok _ _
  have e : zmv f ((a, ()), (b, ()), ()) = some ((leastL a b, ()), ()) := by
    show cond (leastOK a b) _ _ = _
    rw [ok]; rfl
  have hb : ∀ x ∈ b, 0 ≤ x ∧ x ≤ 63 := fun x hx => by
    have h'' := h'
    unfold fewB at h''
    simp only [Bool.and_eq_true] at h''
    have := za9 h''.2 hx; omega
  have e2 : fewJoinGo b a = leastL a b := by
    have e3 := zry (p := fun k => a.contains k) hb
    have e4 := zmi (fun k => a.contains k) (fun k => b.contains k)
    rw [← zba h] at e3
    rw [← zba h, ← zba h'] at e4
    rw [e3, e4]
  simp only [Bool.not_true, cond_false, e, Option.bind_some, Bool.and_self, cond_true, e2]
end Go.Proofs.YtdgdoeknpakmlaaGreat.Den
namespace Go.Proofs.YtdgdoeknpakmlaaGreat.Den
open Go
theorem zOM {a b : List Int} {i : Nat} (ha : i < a.length) (hb : i < b.length) : (List.zip a b).getD i (0, 0) = (a.getD i 0, b.getD i 0) := by
  rw [List.getD_eq_getElem?_getD, List.getD_eq_getElem?_getD, List.getD_eq_getElem?_getD, List.getElem?_eq_getElem ha, List.getElem?_eq_getElem hb,
    List.getElem?_eq_getElem (by rw [List.length_zip]; omega), List.getElem_zip]
  rfl
theorem zON (f : Nat) (a b : List Int) (ha : a.length = 8) (hb : b.length = 8) (hf : 8 < f) : ziW f (a, b, ()) = some (zipAdd a b, ()) := by
  show ziV f (iter (ziU f) f) a b = _
  unfold ziV
  have hz : (List.zip a b).length = 8 := by rw [List.length_zip]; omega
  have h1 : (8 : Nat) < LIM := by simp only [LIM]; omega
  simp only [zz_eq, ha, List.length_replicate, Int.toNat_natCast, Int.natCast_nonneg, Int.le_refl, h1, decide_true, cond_true]
  have := zhY (st := ziU f) (enc := fun i out => ((i : Int), ((8 : Nat) : Int), a, b, out)) (fun out => some (out, ())) (List.zip a b) (0, 0) (fun p => w64 (p.1 + p.2)) ?_ ?_ f 0 (by omega)
  · rw [hz] at this
    refine this.trans ?_
    rw [List.map_zip_eq_zipWith]
    rfl
  · intro i out g hi ho
    show zeZ f g _ = _
    unfold zeZ
    have l1 : i < a.length := by omega
    have l2 : i < b.length := by omega
    have l3 : i < out.length := by omega
    have l4 : i < 8 := by omega
    have e : ∀ x y : Int, ziS f ((x, ()), (y, ()), ()) = some ((w64 (x + y), ()), ()) := fun _ _ => rfl
    simp only [zz_eq, lt_cast l1, lt_cast l2, lt_cast l3, lt_cast l4, l3, le_cast, decide_true, cond_true, Int.toNat_natCast, w64_up (show i < 4294967296 by omega), e, Option.bind_some, zOM l1 l2]
  · intro out g
    show zeZ f g _ = _
    unfold zeZ
    simp only [hz, zb, decide_false, cond_false]
theorem zOO (f : Nat) {a b c a' b' c' : List Int} (ha : a.length = 8) (hb : b.length = 8) (hc : c.length = 8) (ha' : a'.length = 8) (hb' : b'.length = 8) (hc' : c'.length = 8) (hf : 8 < f) :
    ze0 f (([a, b, c], ()), ([a', b', c'], ()), ()) = some (([zipAdd a a', zipAdd b b', zipAdd c c'], ()), ()) := by
  have e : ∀ x y : List Int, x.length = 8 → y.length = 8 → zcl f ((x, ()), (y, ()), ()) = some ((zipAdd x y, ()), ()) := fun x y h h' => by
    show znc f x y = _
    unfold znc
    rw [zON f x y h h' hf]; rfl
  show znh f [a, b, c] [a', b', c'] = _
  unfold znh
  have : zne f ([a, b, c], [a', b', c'], ()) = some ([zipAdd a a', zipAdd b b', zipAdd c c'], ()) := by
    show zcm f a b c a' b' c' = _
    unfold zcm
    rw [e a a' ha ha', Option.bind_some, e b b' hb hb', Option.bind_some, e c c' hc hc']; rfl
  rw [this]; rfl
theorem row_all {a : List Int} (h : rowB a = true) : ∀ x ∈ a, 0 ≤ x ∧ x ≤ 2000 := by
  unfold rowB at h
  simp only [Bool.and_eq_true, List.all_eq_true] at h
  intro x hx
  have := h.2.1 x hx
  unfold rng at this
  simpa using this
theorem zCW (f : Nat) (x y : List (List Int)) (hf : 8 < f) : zf5 f ((x, ()), (y, ()), ()) = some (((roughJoin x y).1, ()), ((roughJoin x y).2, ()), ()) := by
  show zf4 f x y = _
  unfold zf4 roughJoin
  simp only [zmb f x hf, zmb f y hf, Option.bind_some, zrr f x hf, zrr f y hf]
  cases h : roughB x
  · rfl
  cases h' : roughB y
  · rfl
  have hA : allR x = isum (x.getD 0 []) := by unfold allR; rw [h]; rfl
  have hA' : allR y = isum (y.getD 0 []) := by unfold allR; rw [h']; rfl
  rw [hA, hA']
  obtain ⟨a, b, c, rfl, ha, hb, hc, -, -⟩ := zaG h
  obtain ⟨a', b', c', rfl, ha', hb', hc', -, -⟩ := zaG h'
  have s := zOO f (row_len ha) (row_len hb) (row_len hc) (row_len ha') (row_len hb') (row_len hc') hf
  simp only [List.getD_cons_zero]
  by_cases cn : w64 (isum a + isum a') ≤ 2000
  · have c' : ¬ w64 (isum a + isum a') > 2000 := by omega
    simp only [cn, c', decide_true, decide_false, Bool.not_true, Bool.and_self, cond_true, cond_false, s, Option.bind_some]
    rfl
  · have c' : w64 (isum a + isum a') > 2000 := by omega
    simp only [cn, c', decide_true, decide_false, Bool.not_true, Bool.and_false, cond_true, cond_false]
end Go.Proofs.YtdgdoeknpakmlaaGreat.Den
namespace Go.Proofs.YtdgdoeknpakmlaaGreat.Den
open Go
def revIns (key : Knot → Int) (x : Knot) : List Knot → List Knot
  | [] => [x]
  | y :: r => cond (decide (key x < key y)) (y :: revIns key x r) (x :: y :: r)
def sortR (key : Knot → Int) : List Knot → List Knot → List Knot
  | R, [] => R
  | R, x :: S => sortR key (revIns key x R) S
def isort (key : Knot → Int) (l : List Knot) : List Knot := (sortR key [] l).reverse
def kT (x : Knot) : Int := x.1
def kN (x : Knot) : Int := - x.2.1
theorem zh2 (key : Knot → Int) (x : Knot) : ∀ (R : List Knot), (revIns key x R).Perm (x :: R)
  | [] => List.Perm.refl _
  | y :: r => by
    unfold revIns
    cases decide (key x < key y)
    · exact List.Perm.refl _
    · exact ((zh2 key x r).cons y).trans (List.Perm.swap x y r)
theorem zCX (key : Knot → Int) : ∀ (T R : List Knot), (sortR key R T).Perm (R ++ T)
  | [], R => by rw [List.append_nil]; exact List.Perm.refl _
  | x :: S, R => (zCX key S (revIns key x R)).trans (((zh2 key x R).append_right S).trans (List.perm_middle (a := x) (l₁ := R) (l₂ := S)).symm)
theorem zh3 (key : Knot → Int) (l : List Knot) : (isort key l).Perm l := (List.reverse_perm _).trans (zCX key l [])
theorem zCY (key : Knot → Int) (x : Knot) : ∀ (R : List Knot), R.Pairwise (fun a b => key b ≤ key a) → (revIns key x R).Pairwise (fun a b => key b ≤ key a)
  | [], _ => by simp [revIns]
  | y :: r, h => by
    have h' := List.pairwise_cons.1 h
    unfold revIns
    by_cases c : key x < key y
    · simp only [c, decide_true, cond_true]
      refine List.pairwise_cons.2 ⟨fun z hz => ?_, zCY key x r h'.2⟩
      rcases List.mem_cons.1 ((zh2 key x r).mem_iff.1 hz) with rfl | hz
      · omega
      · exact h'.1 z hz
    · simp only [c, decide_false, cond_false]
      refine List.pairwise_cons.2 ⟨fun z hz => ?_, h⟩
      rcases List.mem_cons.1 hz with rfl | hz
      · omega
      · have := h'.1 z hz; omega
theorem zCZ (key : Knot → Int) : ∀ (T R : List Knot), R.Pairwise (fun a b => key b ≤ key a) → (sortR key R T).Pairwise (fun a b => key b ≤ key a)
  | [], R, h => h
  | x :: S, R, h => zCZ key S _ (zCY key x R h)
theorem zC0 (key : Knot → Int) (l : List Knot) : (isort key l).Pairwise (fun a b => key a ≤ key b) := by
  unfold isort
  rw [List.pairwise_reverse]
  exact zCZ key l [] List.Pairwise.nil
theorem zrz (key : Knot → Int) (l : List Knot) : (isort key l).length = l.length := (zh3 key l).length_eq
theorem mid_set {α : Type} {x y : α} {r : List α} : ∀ {p : List α} {n : Nat}, n = p.length → (p ++ x :: r).set n y = p ++ y :: r
  | [], _, rfl => rfl
  | z :: p, _, rfl => by show z :: (p ++ x :: r).set p.length y = _; rw [mid_set rfl]; rfl
theorem zdx {α : Type} {x d : α} {r : List α} : ∀ {p : List α} {n : Nat}, n = p.length → (p ++ x :: r).getD n d = x
  | [], _, rfl => rfl
  | z :: p, _, rfl => by show (p ++ x :: r).getD p.length d = _; rw [zdx rfl]
theorem zBx (f : Nat) (a b : Int) : zfe f ((a, ()), (b, ()), ()) = some ((if a < b then -1 else if a > b then 1 else 0, ()), ()) := by
  show znp f a b = _
  unfold znp
  have e : ∀ x : Int, zfd f ((x, ()), ()) = some ((false, ()), ()) := fun x => by
    show some (((x != x, ()), ())) = _
    simp
  simp only [e, Option.bind_some, cond_false]
  by_cases c1 : a < b
  · simp [c1]
  · by_cases c2 : a > b
    · simp [c1, c2]
    · simp [c1, c2]
theorem zBy {a b : Int} : decide ((if a < b then (-1 : Int) else if a > b then 1 else 0) < 0) = decide (a < b) := by
  by_cases c1 : a < b
  · simp [c1]
  · by_cases c2 : a > b
    · simp [c1, c2]
    · simp [c1, c2]
theorem zC1 (f n : Nat) (h : n < 13) : ∃ v, zcz f ((IntKind.wrap .u64 (zz n), ()), ()) = some v := by
  have : ∀ n, n < 13 → (zcz f ((IntKind.wrap .u64 (zz n), ()), ())).isSome = true := fun n h =>
    match n, h with
    | 0, _ => by kernel_rfl
    | 1, _ => by kernel_rfl
    | 2, _ => by kernel_rfl
    | 3, _ => by kernel_rfl
    | 4, _ => by kernel_rfl
    | 5, _ => by kernel_rfl
    | 6, _ => by kernel_rfl
    | 7, _ => by kernel_rfl
    | 8, _ => by kernel_rfl
    | 9, _ => by kernel_rfl
    | 10, _ => by kernel_rfl
    | 11, _ => by kernel_rfl
    | 12, _ => by kernel_rfl
    | n + 13, h => by omega
  exact Option.isSome_iff_exists.1 (this n h)
theorem byv0 (f : Nat) (x y : Knot) : zi6 f ((x.1, x.2.1, ()), (y.1, y.2.1, ()), ()) = some ((if x.1 < y.1 then -1 else if x.1 > y.1 then 1 else 0, ()), ()) := by
  show znr f x.1 x.2.1 y.1 y.2.1 = _
  unfold znr
  rw [zBx]; rfl
theorem keyv0 (x y : Knot) : decide (x.1 < y.1) = decide (kT x < kT y) := by
  unfold kT
  by_cases h : x.1 < y.1
  · have : x.1 < y.1 := by omega
    simp [h, this]
  · have : ¬ x.1 < y.1 := by omega
    simp [h, this]
theorem zC2 (f : Nat) (g0 : zam → zj) : ∀ (R : List Knot) (x : Knot) (S : List Knot) (i b : Int) (fuel : Nat), R.length < fuel → R.length + S.length < 1000 →
    iter (znu f g0) fuel ((R.length : Int), (0 : Int), i, b, R.reverse ++ x :: S) = g0 (w64 (i + 1), b, (0 : Int), (revIns kT x R).reverse ++ S)
  | _, _, _, _, _, 0, h, _ => by omega
  | [], x, S, i, b, fuel + 1, _, hl => by
    rw [iter]
    show zct f g0 _ _ = _
    unfold zct
    rfl
  | y :: r, x, S, i, b, fuel + 1, hf, hl => by
    simp only [List.length_cons] at hf hl
    rw [iter]
    show zct f g0 _ _ = _
    unfold zct
    have ed : (y :: r).reverse ++ x :: S = r.reverse ++ y :: x :: S := by simp
    have ed2 : (y :: r).reverse ++ x :: S = (r.reverse ++ [y]) ++ x :: S := by simp
    have en : w64 (((r.length + 1 : Nat) : Int) - 1) = (r.length : Int) := by rw [w64_id] <;> omega
    have ln : ((y :: r).reverse ++ x :: S).length = r.length + S.length + 2 := by simp; omega
    have gx : ((y :: r).reverse ++ x :: S).getD (r.length + 1) (0, 0, ()) = x := by rw [ed2]; exact zdx (by rw [List.length_append, List.length_reverse, List.length_singleton])
    have gy : ((y :: r).reverse ++ x :: S).getD r.length (0, 0, ()) = y := by rw [ed]; exact zdx (by rw [List.length_reverse])
    have st : (((y :: r).reverse ++ x :: S).set (r.length + 1) (y.1, y.2.1, ())).set r.length (x.1, x.2.1, ()) = r.reverse ++ x :: y :: S := by
      rw [ed2, mid_set (by rw [List.length_append, List.length_reverse, List.length_singleton]), List.append_assoc]
      exact mid_set (by rw [List.length_reverse])
    have c0 : decide (((r.length + 1 : Nat) : Int) > 0) = true := decide_eq_true (by omega)
    have l1 : r.length + 1 < r.length + S.length + 2 := by omega
    have l2 : r.length < r.length + S.length + 2 := by omega
    have ih := zC2 f g0 r x (y :: S) i b fuel (by omega) (by simp; omega)
    have en1 : (((y :: r).length : Nat) : Int) = ((r.length + 1 : Nat) : Int) := rfl
    simp only [en1, c0, en, cond_true, zz_eq, ln, List.length_set, le_cast, lt_cast l1, lt_cast l2, l1, l2, decide_true, Int.toNat_natCast, gx, gy, byv0, Option.bind_some, zBy, keyv0, st]
    unfold revIns
    cases decide (kT x < kT y)
    · simp only [cond_false]; simp
    · simp only [cond_true]
      refine ih.trans ?_
      simp
theorem zC3 (f : Nat) (hf : 1000 < f) (n : Nat) (hn : n < 1000) : ∀ (T R : List Knot) (fuel : Nat), R.length + T.length = n → T.length < fuel →
    iter (zjb f) fuel ((R.length : Int), (n : Int), (0 : Int), R.reverse ++ T) = some ((sortR kT R T).reverse, ())
  | _, _, 0, _, h => by omega
  | [], R, fuel + 1, hl, _ => by
    rw [iter]
    show zaM f _ _ _ = _
    unfold zaM
    simp only [List.length_nil, Nat.add_zero] at hl
    subst hl
    simp only [zb, decide_false, cond_false, List.append_nil]
    rfl
  | x :: S, R, fuel + 1, hl, hfu => by
    simp only [List.length_cons] at hl hfu
    rw [iter]
    show zaM f _ _ _ = _
    unfold zaM
    have l1 : R.length < n := by omega
    simp only [lt_cast l1, decide_true, cond_true]
    rw [zC2 f _ R x S _ _ f (by omega) (by omega), w64_up (by omega)]
    have hr : (revIns kT x R).length = R.length + 1 := (zh2 kT x R).length_eq
    have ih := zC3 f hf n hn S (revIns kT x R) fuel (by omega) (by omega)
    rw [hr] at ih
    exact ih
theorem insertionv0 (f : Nat) (hf : 1000 < f) (l : List Knot) (hl : l.length < 1000) : zff f (l, (), (0 : Int), (l.length : Int), ()) = some (isort kT l, ()) := by
  show iter (zjb f) f (w64 (0 + 1), (l.length : Int), (0 : Int), l) = _
  rw [show w64 (0 + 1) = (1 : Int) from by decide]
  cases l with
  | nil =>
    obtain ⟨g, rfl⟩ : ∃ g, f = g + 1 := ⟨f - 1, by omega⟩
    rw [iter]
    show zaM _ _ _ _ = _
    unfold zaM
    rfl
  | cons x T =>
    simp only [List.length_cons] at hl
    exact zC3 f hf (T.length + 1) hl T [x] f (by simp; omega) (by omega)
theorem sortv0 (f : Nat) (hf : 1000 < f) (l : List Knot) (hl : l.length < 13) : zjr f (l, (), ()) = some (isort kT l, ()) := by
  have e1 := insertionv0 f hf l (by omega)
  obtain ⟨v, hv⟩ := zC1 f l.length hl
  have e2 : ∀ m : Int, zjh f (l, (), (0 : Int), (l.length : Int), m, ()) = some (isort kT l, ()) := fun m => by
    show iter (znx f) f _ = _
    obtain ⟨g, hg⟩ : ∃ g, f = g + 1 := ⟨f - 1, by omega⟩
    conv => lhs; arg 2; rw [hg]
    rw [iter]
    show znw f _ _ = _
    unfold znw
    have : decide (w64 ((l.length : Int) - 0) ≤ (12 : Int)) = true := decide_eq_true (by rw [w64_id] <;> omega)
    show cond (decide (w64 ((l.length : Int) - 0) ≤ (12 : Int))) (Option.bind (zff f (l, (), (0 : Int), (l.length : Int), ())) _) _ = _
    rw [this, e1]; rfl
  have e3 : zjn f (l, (), ()) = some (isort kT l, ()) := by
    show znF f l = _
    unfold znF
    rw [hv, Option.bind_some, zz_eq, e2]; rfl
  show znJ f l = _
  unfold znJ
  rw [e3]; rfl
theorem byv1 (f : Nat) (x y : Knot) : zi8 f ((x.1, x.2.1, ()), (y.1, y.2.1, ()), ()) = some ((if y.2.1 < x.2.1 then -1 else if y.2.1 > x.2.1 then 1 else 0, ()), ()) := by
  show znt f x.1 x.2.1 y.1 y.2.1 = _
  unfold znt
  rw [zBx]; rfl
theorem keyv1 (x y : Knot) : decide (y.2.1 < x.2.1) = decide (kN x < kN y) := by
  unfold kN
  by_cases h : y.2.1 < x.2.1
  · have : -x.2.1 < -y.2.1 := by omega
    simp [h, this]
  · have : ¬ -x.2.1 < -y.2.1 := by omega
    simp [h, this]
theorem zC4 (f : Nat) (g0 : zap → zk) : ∀ (R : List Knot) (x : Knot) (S : List Knot) (i b : Int) (fuel : Nat), R.length < fuel → R.length + S.length < 1000 →
    iter (znv f g0) fuel ((R.length : Int), (0 : Int), i, b, R.reverse ++ x :: S) = g0 (w64 (i + 1), b, (0 : Int), (revIns kN x R).reverse ++ S)
  | _, _, _, _, _, 0, h, _ => by omega
  | [], x, S, i, b, fuel + 1, _, hl => by
    rw [iter]
    show zcw f g0 _ _ = _
    unfold zcw
    rfl
  | y :: r, x, S, i, b, fuel + 1, hf, hl => by
    simp only [List.length_cons] at hf hl
    rw [iter]
    show zcw f g0 _ _ = _
    unfold zcw
    have ed : (y :: r).reverse ++ x :: S = r.reverse ++ y :: x :: S := by simp
    have ed2 : (y :: r).reverse ++ x :: S = (r.reverse ++ [y]) ++ x :: S := by simp
    have en : w64 (((r.length + 1 : Nat) : Int) - 1) = (r.length : Int) := by rw [w64_id] <;> omega
    have ln : ((y :: r).reverse ++ x :: S).length = r.length + S.length + 2 := by simp; omega
    have gx : ((y :: r).reverse ++ x :: S).getD (r.length + 1) (0, 0, ()) = x := by rw [ed2]; exact zdx (by rw [List.length_append, List.length_reverse, List.length_singleton])
    have gy : ((y :: r).reverse ++ x :: S).getD r.length (0, 0, ()) = y := by rw [ed]; exact zdx (by rw [List.length_reverse])
    have st : (((y :: r).reverse ++ x :: S).set (r.length + 1) (y.1, y.2.1, ())).set r.length (x.1, x.2.1, ()) = r.reverse ++ x :: y :: S := by
      rw [ed2, mid_set (by rw [List.length_append, List.length_reverse, List.length_singleton]), List.append_assoc]
      exact mid_set (by rw [List.length_reverse])
    have c0 : decide (((r.length + 1 : Nat) : Int) > 0) = true := decide_eq_true (by omega)
    have l1 : r.length + 1 < r.length + S.length + 2 := by omega
    have l2 : r.length < r.length + S.length + 2 := by omega
    have ih := zC4 f g0 r x (y :: S) i b fuel (by omega) (by simp; omega)
    have en1 : (((y :: r).length : Nat) : Int) = ((r.length + 1 : Nat) : Int) := rfl
    simp only [en1, c0, en, cond_true, zz_eq, ln, List.length_set, le_cast, lt_cast l1, lt_cast l2, l1, l2, decide_true, Int.toNat_natCast, gx, gy, byv1, Option.bind_some, zBy, keyv1, st]
    unfold revIns
    cases decide (kN x < kN y)
    · simp only [cond_false]; simp
    · simp only [cond_true]
      refine ih.trans ?_
      simp
theorem zC5 (f : Nat) (hf : 1000 < f) (n : Nat) (hn : n < 1000) : ∀ (T R : List Knot) (fuel : Nat), R.length + T.length = n → T.length < fuel →
    iter (zje f) fuel ((R.length : Int), (n : Int), (0 : Int), R.reverse ++ T) = some ((sortR kN R T).reverse, ())
  | _, _, 0, _, h => by omega
  | [], R, fuel + 1, hl, _ => by
    rw [iter]
    show zaN f _ _ _ = _
    unfold zaN
    simp only [List.length_nil, Nat.add_zero] at hl
    subst hl
    simp only [zb, decide_false, cond_false, List.append_nil]
    rfl
  | x :: S, R, fuel + 1, hl, hfu => by
    simp only [List.length_cons] at hl hfu
    rw [iter]
    show zaN f _ _ _ = _
    unfold zaN
    have l1 : R.length < n := by omega
    simp only [lt_cast l1, decide_true, cond_true]
    rw [zC4 f _ R x S _ _ f (by omega) (by omega), w64_up (by omega)]
    have hr : (revIns kN x R).length = R.length + 1 := (zh2 kN x R).length_eq
    have ih := zC5 f hf n hn S (revIns kN x R) fuel (by omega) (by omega)
    rw [hr] at ih
    exact ih
theorem insertionv1 (f : Nat) (hf : 1000 < f) (l : List Knot) (hl : l.length < 1000) : zfg f (l, (), (0 : Int), (l.length : Int), ()) = some (isort kN l, ()) := by
  show iter (zje f) f (w64 (0 + 1), (l.length : Int), (0 : Int), l) = _
  rw [show w64 (0 + 1) = (1 : Int) from by decide]
  cases l with
  | nil =>
    obtain ⟨g, rfl⟩ : ∃ g, f = g + 1 := ⟨f - 1, by omega⟩
    rw [iter]
    show zaN _ _ _ _ = _
    unfold zaN
    rfl
  | cons x T =>
    simp only [List.length_cons] at hl
    exact zC5 f hf (T.length + 1) hl T [x] f (by simp; omega) (by omega)
theorem sortv1 (f : Nat) (hf : 1000 < f) (l : List Knot) (hl : l.length < 13) : zcB f (l, (), ()) = some (isort kN l, ()) := by
  have e1 := insertionv1 f hf l (by omega)
  obtain ⟨v, hv⟩ := zC1 f l.length hl
  have e2 : ∀ m : Int, zjk f (l, (), (0 : Int), (l.length : Int), m, ()) = some (isort kN l, ()) := fun m => by
    show iter (znz f) f _ = _
    obtain ⟨g, hg⟩ : ∃ g, f = g + 1 := ⟨f - 1, by omega⟩
    conv => lhs; arg 2; rw [hg]
    rw [iter]
    show zny f _ _ = _
    unfold zny
    have : decide (w64 ((l.length : Int) - 0) ≤ (12 : Int)) = true := decide_eq_true (by rw [w64_id] <;> omega)
    show cond (decide (w64 ((l.length : Int) - 0) ≤ (12 : Int))) (Option.bind (zfg f (l, (), (0 : Int), (l.length : Int), ())) _) _ = _
    rw [this, e1]; rfl
  have e3 : zjp f (l, (), ()) = some (isort kN l, ()) := by
    show znH f l = _
    unfold znH
    rw [hv, Option.bind_some, zz_eq, e2]; rfl
  show znL f l = _
  unfold znL
  rw [e3]; rfl
end Go.Proofs.YtdgdoeknpakmlaaGreat.Den
namespace Go.Proofs.YtdgdoeknpakmlaaGreat.Den
open Go
def cntK : List Knot → Int → Int
  | [], _ => 0
  | x :: r, k => (if x.1 = k then x.2.1 else 0) + cntK r k
def ascK (c : Int → Int) : Nat → Int → List Knot
  | 0, _ => []
  | d + 1, i => cond (decide (0 < c i)) ((i, c i, ()) :: ascK c d (i + 1)) (ascK c d (i + 1))
def SA (l : List Knot) : Prop := l.Pairwise fun a b => a.1 < b.1
def Pos (m : Int) (l : List Knot) : Prop := ∀ x ∈ l, 0 ≤ x.1 ∧ x.1 ≤ 63 ∧ 1 ≤ x.2.1 ∧ x.2.1 ≤ m
theorem zC6 : ∀ {a b : List Knot} {k : Int}, cntK (a ++ b) k = cntK a k + cntK b k
  | [], b, k => by simp [cntK]
  | x :: a, b, k => by
    show _ + cntK (a ++ b) k = _ + cntK a k + _
    rw [zC6]; omega
theorem zC7 {a b : List Knot} (h : a.Perm b) (k : Int) : cntK a k = cntK b k := by
  induction h with
  | nil => rfl
  | cons x _ ih => simp only [cntK, ih]
  | swap x y l => simp only [cntK]; omega
  | trans _ _ h1 h2 => rw [h1, h2]
theorem zdy {l : List Knot} {k : Int} (h : ∀ x ∈ l, x.1 ≠ k) : cntK l k = 0 := by
  induction l with
  | nil => rfl
  | cons x r ih => simp only [cntK, h x (List.mem_cons_self ..), if_false, ih fun y hy => h y (List.mem_cons_of_mem _ hy)]; rfl
theorem zrA {c e : Int → Int} : ∀ {d : Nat} {i : Int}, (∀ k, i ≤ k → k < i + d → c k = e k) → ascK c d i = ascK e d i
  | 0, i, _ => rfl
  | d + 1, i, h => by
    unfold ascK
    rw [h i (Int.le_refl _) (by omega), zrA (d := d) (i := i + 1) fun k h1 h2 => h k (by omega) (by omega)]
theorem ascK_of {m : Int} : ∀ {d : Nat} {i : Int} {l : List Knot}, SA l → Pos m l → (∀ x ∈ l, i ≤ x.1) → i + d = 64 → l = ascK (cntK l) d i
  | 0, i, l, hs, hp, hi, hd => by
    cases l with
    | nil => rfl
    | cons x l => have := hi x (List.mem_cons_self ..); have := hp x (List.mem_cons_self ..); omega
  | d + 1, i, l, hs, hp, hi, hd => by
    unfold ascK
    cases l with
    | nil =>
      have e := ascK_of (d := d) (i := i + 1) (l := []) hs hp (fun x hx => by cases hx) (by omega)
      show [] = cond (decide ((0 : Int) < 0)) _ _
      simp only [Int.lt_irrefl, decide_false, cond_false]
      exact e
    | cons x r =>
      have hs' := List.pairwise_cons.1 hs
      have px := hp x (List.mem_cons_self ..)
      have pr : Pos m r := fun y hy => hp y (List.mem_cons_of_mem _ hy)
      by_cases hx : x.1 = i
      · have c0 : cntK r i = 0 := zdy fun y hy => by have := hs'.1 y hy; omega
        have c1 : cntK (x :: r) i = x.2.1 := by simp only [cntK, hx, if_true, c0]; omega
        have c2 : (0 : Int) < x.2.1 := by omega
        have ih := ascK_of (d := d) (i := i + 1) (l := r) hs'.2 pr (fun y hy => by have := hs'.1 y hy; omega) (by omega)
        have e : ascK (cntK (x :: r)) d (i + 1) = ascK (cntK r) d (i + 1) := zrA fun k h1 h2 => by
          have : x.1 ≠ k := by omega
          simp only [cntK, this, if_false]; omega
        subst hx
        simp only [c1, c2, decide_true, cond_true]
        show x :: r = (x.1, x.2.1, ()) :: _
        rw [e, ← ih]
      · have hi' : ∀ y ∈ x :: r, i + 1 ≤ y.1 := fun y hy => by
          have h1 := hi x (List.mem_cons_self ..)
          rcases List.mem_cons.1 hy with rfl | hy
          · omega
          · have := hs'.1 y hy; omega
        have c0 : cntK (x :: r) i = 0 := zdy fun y hy => by have := hi' y hy; omega
        simp only [c0, Int.lt_irrefl, decide_false, cond_false]
        exact ascK_of (d := d) (i := i + 1) hs hp hi' (by omega)
theorem zOP {m n : Int} {a b : List Knot} (ha : SA a) (hb : SA b) (pa : Pos m a) (pb : Pos n b) (h : ∀ k, cntK a k = cntK b k) : a = b := by
  rw [ascK_of (d := 64) (i := 0) ha pa (fun x hx => (pa x hx).1) rfl, ascK_of (d := 64) (i := 0) hb pb (fun x hx => (pb x hx).1) rfl]
  exact zrA fun k _ _ => h k
theorem zrB (t n : Int) : ∀ (l : List Knot), putP t n l true = l
  | [] => rfl
  | x :: r => by
    unfold putP
    rw [zrB t n r]; rfl
theorem zrC {m t n : Int} (ht : 0 ≤ t ∧ t ≤ 63) (hn : 1 ≤ n) (hm : n ≤ m) (hm2 : m ≤ 1000000) : ∀ {l : List Knot} {p : Int}, SA l → Pos m l → p < t → (∀ x ∈ l, p < x.1) →
    SA (putP t n l false) ∧ Pos (m + n) (putP t n l false) ∧ (∀ x ∈ putP t n l false, p < x.1) ∧ ∀ k, cntK (putP t n l false) k = cntK l k + if t = k then n else 0
  | [], p, _, _, h, _ => by
    refine ⟨List.pairwise_singleton _ _, fun x hx => ?_, fun x hx => ?_, fun k => ?_⟩
    · rcases List.mem_singleton.1 hx with rfl
      exact ⟨ht.1, ht.2, hn, by show n ≤ _; omega⟩
    · rcases List.mem_singleton.1 hx with rfl
      exact h
    · show (if t = k then n else 0) + 0 = 0 + _; omega
  | x :: r, p, hs, hp, h, hpx => by
    have hs' := List.pairwise_cons.1 hs
    have px := hp x (List.mem_cons_self ..)
    have pr : Pos m r := fun y hy => hp y (List.mem_cons_of_mem _ hy)
    have p0 := hpx x (List.mem_cons_self ..)
    unfold putP
    simp only [zrB, Bool.not_false, Bool.true_and]
    by_cases c1 : x.1 ≥ t
    · by_cases c2 : x.1 = t
      · have e : w64 (n + x.2.1) = n + x.2.1 := by rw [w64_id] <;> omega
        have b : (x.1 == t) = true := by simpa using c2
        simp only [c1, decide_true, cond_true, b, e]
        refine ⟨List.pairwise_cons.2 ⟨fun y hy => by have := hs'.1 y hy; show t < y.1; omega, hs'.2⟩, fun y hy => ?_, fun y hy => ?_, fun k => ?_⟩
        · rcases List.mem_cons.1 hy with rfl | hy
          · exact ⟨ht.1, ht.2, by show 1 ≤ n + x.2.1; omega, by show n + x.2.1 ≤ _; omega⟩
          · have := pr y hy; exact ⟨this.1, this.2.1, this.2.2.1, by omega⟩
        · rcases List.mem_cons.1 hy with rfl | hy
          · exact h
          · exact hpx y (List.mem_cons_of_mem _ hy)
        · show (if t = k then n + x.2.1 else 0) + cntK r k = (if x.1 = k then x.2.1 else 0) + cntK r k + _
          rw [c2]; split <;> omega
      · have b : (x.1 == t) = false := by simpa using c2
        simp only [c1, decide_true, cond_true, b, cond_false]
        refine ⟨List.pairwise_cons.2 ⟨fun y hy => ?_, hs⟩, fun y hy => ?_, fun y hy => ?_, fun k => ?_⟩
        · rcases List.mem_cons.1 hy with rfl | hy
          · show t < x.1; omega
          · have := hs'.1 y hy; show t < y.1; omega
        · rcases List.mem_cons.1 hy with rfl | hy
          · exact ⟨ht.1, ht.2, hn, by show n ≤ _; omega⟩
          · have := hp y hy; exact ⟨this.1, this.2.1, this.2.2.1, by omega⟩
        · rcases List.mem_cons.1 hy with rfl | hy
          · exact h
          · exact hpx y hy
        · show (if t = k then n else 0) + ((if x.1 = k then x.2.1 else 0) + cntK r k) = (if x.1 = k then x.2.1 else 0) + cntK r k + _
          omega
    · simp only [c1, decide_false, cond_false]
      obtain ⟨i1, i2, i3, i4⟩ := zrC (p := x.1) ht hn hm hm2 hs'.2 pr (by omega) hs'.1
      refine ⟨List.pairwise_cons.2 ⟨i3, i1⟩, fun y hy => ?_, fun y hy => ?_, fun k => ?_⟩
      · rcases List.mem_cons.1 hy with rfl | hy
        · exact ⟨px.1, px.2.1, px.2.2.1, by show x.2.1 ≤ _; omega⟩
        · exact i2 y hy
      · rcases List.mem_cons.1 hy with rfl | hy
        · exact p0
        · have := i3 y hy; omega
      · show (if x.1 = k then x.2.1 else 0) + cntK (putP t n r false) k = (if x.1 = k then x.2.1 else 0) + cntK r k + _
        rw [i4]; omega
theorem Pos.mono {m n : Int} {l : List Knot} (h : Pos m l) (hm : m ≤ n) : Pos n l := fun x hx => by have := h x hx; exact ⟨this.1, this.2.1, this.2.2.1, by omega⟩
theorem zmj {m : Int} (hm : 2000 ≤ m) : ∀ {b a : List Knot}, m + 2000 * b.length ≤ 1000000 → SA a → Pos m a → Pos 2000 b →
    SA (putAll a b) ∧ Pos (m + 2000 * b.length) (putAll a b) ∧ ∀ k, cntK (putAll a b) k = cntK a k + cntK b k
  | [], a, _, hs, hp, _ => ⟨hs, Pos.mono hp (by simp), fun k => by show cntK a k = cntK a k + 0; omega⟩
  | x :: b, a, hb, hs, hp, pb => by
    have px := pb x (List.mem_cons_self ..)
    simp only [List.length_cons] at hb
    obtain ⟨i1, i2, -, i4⟩ := zrC (m := m) (t := x.1) (n := x.2.1) (p := -1) ⟨px.1, px.2.1⟩ px.2.2.1 (by omega) (by omega) hs hp (by omega) (fun y hy => by have := hp y hy; omega)
    obtain ⟨j1, j2, j3⟩ := zmj (m := m + 2000) (by omega) (b := b) (a := putP x.1 x.2.1 a false) (by omega) i1 (i2.mono (by omega)) (fun y hy => pb y (List.mem_cons_of_mem _ hy))
    refine ⟨j1, j2.mono (by simp only [List.length_cons]; omega), fun k => ?_⟩
    show cntK (putAll (putP x.1 x.2.1 a false) b) k = cntK a k + ((if x.1 = k then x.2.1 else 0) + cntK b k)
    rw [j3, i4]; omega
def glue : List Knot → List Knot → List Knot
  | R, [] => R
  | [], x :: S => glue [(x.1, x.2.1, ())] S
  | y :: r, x :: S => cond (y.1 == x.1) (glue ((y.1, w64 (y.2.1 + x.2.1), ()) :: r) S) (glue ((x.1, x.2.1, ()) :: y :: r) S)
def SD (l : List Knot) : Prop := l.Pairwise fun a b => b.1 < a.1
theorem zmk {m : Int} (hm : 2000 ≤ m) : ∀ {L R : List Knot}, m + 2000 * L.length ≤ 1000000 → SD R → Pos m R → L.Pairwise (fun a b => a.1 ≤ b.1) → Pos 2000 L → (∀ y ∈ R, ∀ x ∈ L, y.1 ≤ x.1) →
    SD (glue R L) ∧ Pos (m + 2000 * L.length) (glue R L) ∧ ∀ k, cntK (glue R L) k = cntK R k + cntK L k
  | [], R, _, hs, hp, _, _, _ => by
    refine ⟨by cases R <;> exact hs, by cases R <;> exact Pos.mono hp (by simp), fun k => ?_⟩
    cases R <;> simp [glue, cntK]
  | x :: S, [], hb, hs, hp, hl, pl, _ => by
    have hl' := List.pairwise_cons.1 hl
    have px := pl x (List.mem_cons_self ..)
    simp only [List.length_cons] at hb
    obtain ⟨j1, j2, j3⟩ := zmk (m := m) hm (L := S) (R := [(x.1, x.2.1, ())]) (by omega) (List.pairwise_singleton _ _) (fun y hy => by
      rcases List.mem_singleton.1 hy with rfl; exact ⟨px.1, px.2.1, px.2.2.1, by show x.2.1 ≤ m; omega⟩) hl'.2 (fun y hy => pl y (List.mem_cons_of_mem _ hy)) (fun y hy z hz => by
      rcases List.mem_singleton.1 hy with rfl; exact hl'.1 z hz)
    refine ⟨j1, j2.mono (by simp only [List.length_cons]; omega), fun k => ?_⟩
    show cntK (glue [(x.1, x.2.1, ())] S) k = 0 + ((if x.1 = k then x.2.1 else 0) + cntK S k)
    rw [j3]
    show (if x.1 = k then x.2.1 else 0) + 0 + _ = _
    omega
  | x :: S, y :: r, hb, hs, hp, hl, pl, hyx => by
    have hl' := List.pairwise_cons.1 hl
    have hs' := List.pairwise_cons.1 hs
    have px := pl x (List.mem_cons_self ..)
    have py := hp y (List.mem_cons_self ..)
    have yx := hyx y (List.mem_cons_self ..) x (List.mem_cons_self ..)
    simp only [List.length_cons] at hb
    unfold glue
    by_cases c : y.1 = x.1
    · have b : (y.1 == x.1) = true := by simpa using c
      have e : w64 (y.2.1 + x.2.1) = y.2.1 + x.2.1 := by rw [w64_id] <;> omega
      simp only [b, cond_true, e]
      obtain ⟨j1, j2, j3⟩ := zmk (m := m + 2000) (by omega) (L := S) (R := (y.1, y.2.1 + x.2.1, ()) :: r) (by omega) (List.pairwise_cons.2 ⟨hs'.1, hs'.2⟩) (fun z hz => by
        rcases List.mem_cons.1 hz with rfl | hz
        · exact ⟨py.1, py.2.1, by show 1 ≤ y.2.1 + x.2.1; omega, by show y.2.1 + x.2.1 ≤ _; omega⟩
        · have := hp z (List.mem_cons_of_mem _ hz); exact ⟨this.1, this.2.1, this.2.2.1, by omega⟩) hl'.2 (fun z hz => pl z (List.mem_cons_of_mem _ hz)) (fun z hz w hw => by
        rcases List.mem_cons.1 hz with rfl | hz
        · have := hl'.1 w hw; show y.1 ≤ w.1; omega
        · have := hs'.1 z hz; have := hl'.1 w hw; omega)
      refine ⟨j1, j2.mono (by simp only [List.length_cons]; omega), fun k => ?_⟩
      rw [j3]
      show (if y.1 = k then y.2.1 + x.2.1 else 0) + cntK r k + cntK S k = (if y.1 = k then y.2.1 else 0) + cntK r k + ((if x.1 = k then x.2.1 else 0) + cntK S k)
      rw [c]; split <;> omega
    · have b : (y.1 == x.1) = false := by simpa using c
      simp only [b, cond_false]
      obtain ⟨j1, j2, j3⟩ := zmk (m := m) hm (L := S) (R := (x.1, x.2.1, ()) :: y :: r) (by omega) (List.pairwise_cons.2 ⟨fun z hz => by
        rcases List.mem_cons.1 hz with rfl | hz
        · show z.1 < x.1; omega
        · have := hs'.1 z hz; show z.1 < x.1; omega, hs⟩) (fun z hz => by
        rcases List.mem_cons.1 hz with rfl | hz
        · exact ⟨px.1, px.2.1, px.2.2.1, by show x.2.1 ≤ m; omega⟩
        · exact hp z hz) hl'.2 (fun z hz => pl z (List.mem_cons_of_mem _ hz)) (fun z hz w hw => by
        have hw' := hl'.1 w hw
        rcases List.mem_cons.1 hz with rfl | hz
        · exact hw'
        · have := hyx z hz x (List.mem_cons_self ..); omega)
      refine ⟨j1, j2.mono (by simp only [List.length_cons]; omega), fun k => ?_⟩
      rw [j3]
      show (if x.1 = k then x.2.1 else 0) + ((if y.1 = k then y.2.1 else 0) + cntK r k) + cntK S k = (if y.1 = k then y.2.1 else 0) + cntK r k + ((if x.1 = k then x.2.1 else 0) + cntK S k)
      omega
theorem zml (f : Nat) (L : List Knot) (hL : L.length < 1000) : ∀ (d i : Nat) (R : List Knot) (fuel : Nat), i + d = L.length → R.length ≤ i → d < fuel →
    iter (zjA f) fuel ((i : Int), (L.length : Int), L, R.reverse) = some (((glue R (L.drop i)).reverse, ()), ())
  | _, _, _, 0, _, _, h => by omega
  | 0, i, R, fuel + 1, hi, _, _ => by
    rw [iter]
    show zfA f _ _ = _
    unfold zfA
    obtain rfl : i = L.length := by omega
    simp only [zb, decide_false, cond_false, List.drop_eq_nil_of_le (Nat.le_refl _)]
    cases R <;> rfl
  | d + 1, i, R, fuel + 1, hi, hr, hf => by
    rw [iter]
    show zfA f _ _ = _
    unfold zfA
    have l1 : i < L.length := by omega
    rw [zad (0, 0, ()) l1]
    obtain ⟨x, hx⟩ : ∃ x : Knot, L.getD i (0, 0, ()) = x := ⟨_, rfl⟩
    simp only [lt_cast l1, zz_eq, le_cast, l1, decide_true, cond_true, Int.toNat_natCast, hx, w64_up (show i < 4294967296 by omega)]
    have h1 : R.reverse.length + 1 < LIM := by simp only [LIM, List.length_reverse]; omega
    cases R with
    | nil =>
      have e1 : w64 (((0 : Nat) : Int) - 1) = -1 := by decide
      have e2 : decide ((-1 : Int) ≥ 0) = false := by decide
      have h0 : 0 + 1 < LIM := by simp only [LIM]; omega
      have ih := zml f L hL d (i + 1) [(x.1, x.2.1, ())] fuel (by omega) (by simp) (by omega)
      simp only [List.reverse_nil, List.length_nil, e1, e2, cond_false, h0, decide_true, cond_true, List.nil_append]
      exact ih
    | cons y r =>
      have en : w64 (((y :: r).reverse.length : Int) - 1) = (r.length : Int) := by
        rw [List.length_reverse, w64_id] <;> simp only [List.length_cons] at hr ⊢ <;> omega
      have l2 : r.length < (y :: r).reverse.length := by simp
      have ed : (y :: r).reverse = r.reverse ++ y :: [] := by simp
      have gy : (y :: r).reverse.getD r.length (0, 0, ()) = y := by rw [ed]; exact zdx (by rw [List.length_reverse])
      have st : ∀ z : Knot, (y :: r).reverse.set r.length z = (z :: r).reverse := fun z => by rw [ed, mid_set (by rw [List.length_reverse])]; simp
      have c0 : decide ((r.length : Int) ≥ 0) = true := decide_eq_true (by omega)
      have ih1 := zml f L hL d (i + 1) ((y.1, w64 (y.2.1 + x.2.1), ()) :: r) fuel (by omega) (by simp only [List.length_cons] at hr ⊢; omega) (by omega)
      have ih2 := zml f L hL d (i + 1) ((x.1, x.2.1, ()) :: y :: r) fuel (by omega) (by simp only [List.length_cons] at hr ⊢; omega) (by omega)
      simp only [en, c0, le_cast, lt_cast l2, l2, decide_true, cond_true, Int.toNat_natCast, gy, st, h1]
      unfold glue
      cases (y.1 == x.1)
      · simp only [cond_false]
        rw [← ih2]
        simp
      · simp only [cond_true]
        exact ih1
theorem zOQ (f : Nat) (a b : List Knot) (hf : 1000 < f) (ha : a.length ≤ 8) (hb : b.length ≤ 8) : zjy f (([a, b], ()), ()) = some ((a ++ b, ()), ()) := by
  obtain ⟨g, rfl⟩ : ∃ g, f = g + 3 := ⟨f - 3, by omega⟩
  have grow : ∀ n : Nat, n ≤ 16 → zjv (g + 3) ((n : Int), ()) = some ([], ()) := fun n hn => by
    show znO (g + 3) (n : Int) = _
    unfold znO
    have e1 : ¬ ((n : Int) < 0) := by omega
    have e2 : w64 ((n : Int) - w64 (0 - zz 0)) = (n : Int) := by
      rw [show w64 (0 - zz 0) = 0 from by decide, w64_id] <;> omega
    have e3 : (n : Nat) < LIM := by simp only [LIM]; omega
    have e4 : ((zz 0) ≤ (zz (List.length (List.replicate n (Kd.dflt KP))))) := by rw [List.length_replicate, zz_eq, zz_eq]; omega
    simp only [e1, e2, decide_false, cond_false, le_cast, Int.toNat_natCast, e3, decide_true, cond_true, e4]
    cases decide ((n : Int) > 0)
    · rfl
    · rfl
  have w1 : w64 (0 + (a.length : Int)) = ((a.length : Nat) : Int) := by rw [w64_id] <;> omega
  have w2 : w64 ((a.length : Int) + (b.length : Int)) = ((a.length + b.length : Nat) : Int) := by rw [w64_id] <;> omega
  have n1 : ¬ ((a.length : Int) < 0) := by omega
  have n2 : ¬ (((a.length + b.length : Nat) : Int) < 0) := by omega
  have s1 : ([] : List Knot).length + a.length < LIM := by simp only [LIM, List.length_nil]; omega
  have s2 : a.length + b.length < LIM := by simp only [LIM]; omega
  have l2 : ([a, b] : List (List Knot)).length = 2 := rfl
  have g0 : ([a, b] : List (List Knot)).getD 0 [] = a := rfl
  have g1 : ([a, b] : List (List Knot)).getD 1 [] = b := rfl
  show zjx (g + 3) (iter (zfv (g + 3)) (g + 3)) [a, b] = _
  unfold zjx
  have body : ∀ v : zbq, iter (zbr (g + 3)) (g + 3) v = zfu (g + 3) (fun v => zfu (g + 3) (fun v => zfu (g + 3) (iter (zbr (g + 3)) g) v) v) v := fun v => rfl
  have outer : ∀ v : zbp, iter (zfv (g + 3)) (g + 3) v = zcH (g + 3) (iter (zbr (g + 3)) (g + 3)) (fun v => zcH (g + 3) (iter (zbr (g + 3)) (g + 3)) (fun v => zcH (g + 3) (iter (zbr (g + 3)) (g + 3)) (iter (zfv (g + 3)) g) v) v) v := fun v => rfl
  rw [outer]
  unfold zcH
  have z0 : w64 (0 + 1) = (1 : Int) := by decide
  have z1 : w64 (1 + 1) = (2 : Int) := by decide
  have k0 : decide ((0 : Int) < (2 : Int)) = true := rfl
  have k1 : decide ((1 : Int) < (2 : Int)) = true := rfl
  have k2 : decide ((2 : Int) < (2 : Int)) = false := rfl
  have k3 : decide ((0 : Int) ≤ 0) = true := rfl
  have k4 : decide ((0 : Int) ≤ 1) = true := rfl
  have t0 : Int.toNat 0 = 0 := rfl
  have t1 : Int.toNat 1 = 1 := rfl
  simp only [zz_eq, l2, show ((2 : Nat) : Int) = 2 from rfl, z0, z1, k0, k1, k2, k3, k4, t0, t1, g0, g1, w1, w2, n1, n2, decide_false, cond_true, cond_false, grow _ (show a.length + b.length ≤ 16 by omega), Option.bind_some, body]
  unfold zfu
  simp only [zz_eq, l2, show ((2 : Nat) : Int) = 2 from rfl, z0, z1, k0, k1, k2, k3, k4, t0, t1, g0, g1, s1, s2, List.nil_append, decide_true, cond_true, cond_false]
theorem SD.rev {l : List Knot} (h : SD l) : SA l.reverse := List.pairwise_reverse.2 h
theorem Pos.perm {m : Int} {a b : List Knot} (h : Pos m a) (hp : b.Perm a) : Pos m b := fun x hx => h x (hp.mem_iff.1 hx)
theorem both_eq (f : Nat) (a b : List Knot) (hf : 1000 < f) (ha : a.length ≤ 4) (hb : b.length ≤ 4) (sa : SA a) (pa : Pos 2000 a) (pb : Pos 2000 b) :
    zfB f ((a, ()), (b, ()), ()) = some ((putAll a b, ()), ()) := by
  show zjB f (iter (zjA f) f) a b = _
  unfold zjB
  have hl : (a ++ b).length ≤ 8 := by rw [List.length_append]; omega
  have hs : (isort kT (a ++ b)).length ≤ 8 := by rw [zrz]; exact hl
  have h1 : (isort kT (a ++ b)).length < LIM := by simp only [LIM]; omega
  rw [zOQ f a b hf (by omega) (by omega), Option.bind_some, sortv0 f hf (a ++ b) (by omega), Option.bind_some]
  simp only [zz_eq, Int.toNat_natCast, le_cast, h1, decide_true, cond_true]
  have gl := zml f (isort kT (a ++ b)) (by omega) (isort kT (a ++ b)).length 0 [] f (by omega) (by simp) (by omega)
  refine gl.trans ?_
  have pab : Pos 2000 (a ++ b) := fun x hx => (List.mem_append.1 hx).elim (pa x) (pb x)
  have g := zmk (m := 2000) (by omega) (L := isort kT (a ++ b)) (R := []) (by omega) List.Pairwise.nil (fun y hy => by cases hy) (zC0 kT (a ++ b)) (pab.perm (zh3 kT _)) (fun y hy => by cases hy)
  have p := zmj (m := 2000) (by omega) (b := b) (a := a) (by omega) sa pa pb
  have e : (glue [] (isort kT (a ++ b))).reverse = putAll a b := by
    refine zOP g.1.rev p.1 (Pos.perm g.2.1 (List.reverse_perm _)) p.2.1 fun k => ?_
    rw [zC7 (List.reverse_perm _), g.2.2, p.2.2, zC7 (zh3 kT _), zC6]
    show 0 + _ = _; omega
  rw [List.drop_zero, e]
end Go.Proofs.YtdgdoeknpakmlaaGreat.Den
namespace Go.Proofs.YtdgdoeknpakmlaaGreat.Den
open Go
theorem zC8 {all : Int} (h0 : 0 ≤ all) (h1 : all ≤ 2000) : ∀ {l : List Knot} {p s : Int}, -1 ≤ p → 0 ≤ s → s ≤ 100000 → l.length ≤ 8 → s + 2000 * l.length ≤ 1000000 → topGo all l p s = true → (∀ x ∈ l, p < x.1) ∧ SA l ∧ Pos 2000 l
  | [], _, _, _, _, _, _, _, _ => ⟨fun x hx => (by cases hx), List.Pairwise.nil, fun x hx => (by cases hx)⟩
  | x :: r, p, s, hp, hs, hs2, hl, hb, h => by
    simp only [topGo, Bool.and_eq_true, decide_eq_true_eq] at h
    simp only [List.length_cons] at hl hb
    obtain ⟨hx, hr⟩ := h
    have e : w64 (s + x.2.1) = s + x.2.1 := by rw [w64_id] <;> omega
    rw [e] at hr
    by_cases hb2 : s + x.2.1 ≤ 100000
    · obtain ⟨i1, i2, i3⟩ := zC8 h0 h1 (by omega) (by omega) hb2 (by omega) (by omega) hr
      refine ⟨fun y hy => ?_, List.pairwise_cons.2 ⟨i1, i2⟩, fun y hy => ?_⟩
      · rcases List.mem_cons.1 hy with rfl | hy
        · exact hx.1
        · have := i1 y hy; omega
      · rcases List.mem_cons.1 hy with rfl | hy
        · exact ⟨by omega, hx.2.1, hx.2.2.1, hx.2.2.2⟩
        · exact i3 y hy
    · exfalso
      have big : ∀ (l : List Knot) (p s : Int), 2000 < s → s + 2000 * l.length ≤ 1000000 → topGo all l p s = true → False := by
        intro l
        induction l with
        | nil => intro p s hs _ h; simp only [topGo, decide_eq_true_eq] at h; omega
        | cons y l ih =>
          intro p s hs hb h
          simp only [topGo, Bool.and_eq_true, decide_eq_true_eq] at h
          simp only [List.length_cons] at hb
          have e : w64 (s + y.2.1) = s + y.2.1 := by rw [w64_id] <;> omega
          rw [e] at h
          exact ih y.1 (s + y.2.1) (by omega) (by omega) h.2
      exact big r x.1 (s + x.2.1) (by omega) (by omega) hr
theorem zmm {l : List Knot} {lost all : Int} (h : topB l lost all = true) : SA l ∧ Pos 2000 l ∧ l.length ≤ 4 ∧ 0 ≤ lost ∧ lost ≤ 2000 ∧ 0 ≤ all ∧ all ≤ 2000 := by
  have f := four h
  unfold topB at h
  simp only [Bool.and_eq_true] at h
  have g := zC8 f.2.2.2.1 f.2.2.2.2 (by omega) (by omega) (by omega) (by omega) (by omega) h.2
  exact ⟨g.2.1, g.2.2, f⟩
theorem zOR {m : Int} {l : List Knot} (hl : l.length < 1000) : cntGe m l = ((l.countP fun x => decide (x.2.1 ≥ m)) : Nat) := by
  have gen : ∀ (l : List Knot) (n : Nat), n + l.length < 1000 → l.foldl (fun (n : Int) x => cond (decide (x.2.1 ≥ m)) (w64 (n + 1)) n) (n : Int) = ((n + l.countP fun x => decide (x.2.1 ≥ m) : Nat) : Int) := by
    intro l
    induction l with
    | nil => intro n _; rfl
    | cons x l ih =>
      intro n hn
      simp only [List.length_cons] at hn
      rw [List.foldl_cons, List.countP_cons]
      cases hc : decide (x.2.1 ≥ m)
      · simp only [cond_false]
        rw [ih n (by omega)]; simp
      · have e : w64 ((n : Int) + 1) = ((n + 1 : Nat) : Int) := by rw [w64_id] <;> omega
        simp only [cond_true, e]
        rw [ih (n + 1) (by omega)]; simp; omega
  have := gen l 0 (by omega)
  simpa [cntGe] using this
theorem zrD (p : Knot → Bool) : ∀ (l : List Knot) (b : Int), (∀ x ∈ l, p x = true → x.2.1 ≤ l.foldl (fun b x => cond (p x) (if x.2.1 > b then x.2.1 else b) b) b) ∧ b ≤ l.foldl (fun b x => cond (p x) (if x.2.1 > b then x.2.1 else b) b) b ∧
    (l.foldl (fun b x => cond (p x) (if x.2.1 > b then x.2.1 else b) b) b = b ∨ ∃ x ∈ l, p x = true ∧ l.foldl (fun b x => cond (p x) (if x.2.1 > b then x.2.1 else b) b) b = x.2.1)
  | [], b => ⟨fun x hx => (by cases hx), Int.le_refl _, .inl rfl⟩
  | y :: l, b => by
    rw [List.foldl_cons]
    obtain ⟨i1, i2, i3⟩ := zrD p l (cond (p y) (if y.2.1 > b then y.2.1 else b) b)
    generalize l.foldl (fun b x => cond (p x) (if x.2.1 > b then x.2.1 else b) b) (cond (p y) (if y.2.1 > b then y.2.1 else b) b) = r at i1 i2 i3
    refine ⟨fun x hx hp => ?_, ?_, ?_⟩
    · rcases List.mem_cons.1 hx with rfl | hx
      · rw [hp, cond_true] at i2
        split at i2 <;> omega
      · exact i1 x hx hp
    · cases hp : p y
      · rw [hp, cond_false] at i2; exact i2
      · rw [hp, cond_true] at i2; split at i2 <;> omega
    · rcases i3 with h | ⟨x, hx, h1, h2⟩
      · cases hp : p y
        · rw [hp, cond_false] at h; exact .inl h
        · rw [hp, cond_true] at h
          by_cases hc : y.2.1 > b
          · rw [if_pos hc] at h; exact .inr ⟨y, List.mem_cons_self .., hp, h⟩
          · rw [if_neg hc] at h; exact .inl h
      · exact .inr ⟨x, List.mem_cons_of_mem _ hx, h1, h2⟩
theorem zC9 {l : List Knot} (hl : l.length < 1000) : over3 l = l.foldl (fun b x => cond (decide (4 < l.countP fun y => decide (y.2.1 ≥ x.2.1))) (if x.2.1 > b then x.2.1 else b) b) 0 := by
  unfold over3
  congr 1
  funext b x
  congr 1
  rw [zOR hl]
  exact decide_eq_decide.2 (by omega)
theorem zDa {l : List Knot} (h : l.length ≤ 4) : over3 l = 0 := by
  rw [zC9 (by omega)]
  have g := zrD (fun x => decide (4 < l.countP fun y => decide (y.2.1 ≥ x.2.1))) l 0
  rcases g.2.2 with h' | ⟨x, _, h1, _⟩
  · exact h'
  · have := List.countP_le_length (p := fun y : Knot => decide (y.2.1 ≥ x.2.1)) (l := l)
    have := of_decide_eq_true h1
    omega
theorem fifth {l : List Knot} {m : Int} (hp : Pos m l) {a0 a1 a2 a3 a4 : Knot} {r : List Knot} (h : isort kN l = a0 :: a1 :: a2 :: a3 :: a4 :: r) (hl : l.length < 1000) :
    over3 l = a4.2.1 ∧ 5 ≤ (l.countP fun y => decide (y.2.1 ≥ a4.2.1)) ∧ (l.countP fun y => decide (a4.2.1 < y.2.1)) ≤ 4 ∧ 1 ≤ a4.2.1 := by
  have pm := zh3 kN l
  have up := zC0 kN l
  rw [h] at pm up
  simp only [List.pairwise_cons] at up
  obtain ⟨u0, u1, u2, u3, u4, -⟩ := up
  have m4 : a4 ∈ l := pm.mem_iff.1 (by simp)
  have p4 := hp a4 m4
  have g0 : a0.2.1 ≥ a4.2.1 := by have := u0 a4 (by simp); unfold kN at this; omega
  have g1 : a1.2.1 ≥ a4.2.1 := by have := u1 a4 (by simp); unfold kN at this; omega
  have g2 : a2.2.1 ≥ a4.2.1 := by have := u2 a4 (by simp); unfold kN at this; omega
  have g3 : a3.2.1 ≥ a4.2.1 := by have := u3 a4 (by simp); unfold kN at this; omega
  have gr : ∀ y ∈ r, y.2.1 ≤ a4.2.1 := fun y hy => by have := u4 y hy; unfold kN at this; omega
  have c5 : 5 ≤ (l.countP fun y => decide (y.2.1 ≥ a4.2.1)) := by
    rw [← pm.countP_eq]
    simp only [List.countP_cons, g0, g1, g2, g3, Int.le_refl, ge_iff_le, decide_true, if_true]
    omega
  have top4 : ∀ v : Int, a4.2.1 < v → (l.countP fun y => decide (v ≤ y.2.1)) ≤ 4 := fun v hv => by
    rw [← pm.countP_eq]
    have z : (r.countP fun y => decide (v ≤ y.2.1)) = 0 := by
      rw [List.countP_eq_zero]
      intro y hy
      have := gr y hy
      simp; omega
    have z4 : ¬ v ≤ a4.2.1 := by omega
    simp only [List.countP_cons, z, z4, decide_false]
    have : ∀ b : Bool, (if b = true then 1 else 0) ≤ 1 := fun b => by cases b <;> simp
    have h0 := this (decide (v ≤ a0.2.1))
    have h1 := this (decide (v ≤ a1.2.1))
    have h2 := this (decide (v ≤ a2.2.1))
    have h3 := this (decide (v ≤ a3.2.1))
    simp only [Bool.false_eq_true, if_false]
    omega
  refine ⟨?_, c5, ?_, p4.2.2.1⟩
  · rw [zC9 hl]
    have g := zrD (fun x => decide (4 < l.countP fun y => decide (y.2.1 ≥ x.2.1))) l 0
    generalize l.foldl (fun b x => cond (decide (4 < l.countP fun y => decide (y.2.1 ≥ x.2.1))) (if x.2.1 > b then x.2.1 else b) b) 0 = w at g
    have lo := g.1 a4 m4 (decide_eq_true (by omega))
    rcases g.2.2 with h' | ⟨x, _, h1, h2⟩
    · omega
    · have h3 : 4 < l.countP fun y => decide (y.2.1 ≥ x.2.1) := of_decide_eq_true h1
      by_cases hx : a4.2.1 < x.2.1
      · have h4 : (l.countP fun y => decide (y.2.1 ≥ x.2.1)) ≤ 4 := top4 x.2.1 hx
        omega
      · omega
  · have := top4 (a4.2.1 + 1) (by omega)
    exact this
theorem zOS (f : Nat) (l : List Knot) (h : 0 < l.length) (hl : l.length < 1000) : zcq f ((l, ()), ()) = some ((l, ()), ()) := by
  show znk f l = _
  unfold znk
  have h1 : 0 + l.length < LIM := by simp only [LIM]; omega
  simp only [h, h1, decide_true, cond_true, List.nil_append]
theorem zDb (f : Nat) (l : List Knot) (m : Int) (hl : l.length < 1000) (l0 : List Knot) (lost all u w : Int) : ∀ (d i : Nat) (out : List Knot) (fuel : Nat), i + d = l.length → out.length ≤ i → d < fuel →
    iter (zcE f) fuel ((i : Int), (l.length : Int), l, m, out, l0, lost, all, u, w) = some ((out ++ less3 m (l.drop i), w64 (lost + m), all, ()), ())
  | _, _, _, 0, _, _, h => by omega
  | 0, i, out, fuel + 1, hi, ho, hf => by
    rw [iter]
    show zft f _ _ = _
    unfold zft
    obtain rfl : i = l.length := by omega
    simp only [zb, decide_false, cond_false, List.drop_eq_nil_of_le (Nat.le_refl _), less3, List.append_nil]
  | d + 1, i, out, fuel + 1, hi, ho, hf => by
    rw [iter]
    show zft f _ _ = _
    unfold zft
    have hlt : i < l.length := by omega
    have ih : ∀ (out : List Knot), out.length ≤ i + 1 → _ := fun out h => zDb f l m hl l0 lost all u w d (i + 1) out fuel (by omega) h (by omega)
    have h1 : out.length + 1 < LIM := by simp only [LIM]; omega
    simp only [zz_eq, lt_cast hlt, le_cast, decide_true, cond_true, Int.toNat_natCast, w64_up (show i < 4294967296 by omega), h1]
    rw [zad (0, 0, ()) hlt]
    obtain ⟨x, hx⟩ : ∃ x : Knot, l.getD i (0, 0, ()) = x := ⟨_, rfl⟩
    simp only [hx]
    have e1 := ih (out ++ [(x.1, w64 (x.2.1 - m), ())]) (by simp; omega)
    have e2 := ih out (by omega)
    simp only [e1, e2]
    simp only [less3, List.append_assoc, List.singleton_append, List.cons_append, List.nil_append]
    cases decide (x.2.1 > m) <;> rfl
theorem zrE : ∀ {l : List Knot}, Pos 1000000 l → less3 0 l = l
  | [], _ => rfl
  | x :: r, h => by
    have px := h x (List.mem_cons_self ..)
    have e : w64 (x.2.1 - 0) = x.2.1 := by rw [w64_id] <;> omega
    have c : decide (x.2.1 > 0) = true := decide_eq_true (by omega)
    unfold less3
    rw [c, e, cond_true, zrE fun y hy => h y (List.mem_cons_of_mem _ hy)]
theorem cut_eq (f : Nat) (hf : 1000 < f) (l : List Knot) (lost all : Int) (hl : l.length < 13) (hp : Pos 1000000 l) (h0 : 0 ≤ lost) (h1 : lost ≤ 1000000) : zcF f ((l, lost, all, ()), ()) = some (cut3 l lost all, ()) := by
  show zaO f (iter (zcE f) f) l lost all = _
  unfold zaO cut3
  by_cases h : l.length ≤ 4
  · have c : (zz l.length ≤ (4 : Int)) := by rw [zz_eq]; omega
    have e : w64 (lost + 0) = lost := by rw [w64_id] <;> omega
    simp only [c, decide_true, cond_true, zDa h, zrE hp, e]
  · have c : ¬ (zz l.length ≤ (4 : Int)) := by rw [zz_eq]; omega
    have hs := zrz kN l
    obtain ⟨a0, a1, a2, a3, a4, r, hr⟩ : ∃ a0 a1 a2 a3 a4 r, isort kN l = a0 :: a1 :: a2 :: a3 :: a4 :: r := by
      match hq : isort kN l with
      | [] | [_] | [_, _] | [_, _, _] | [_, _, _, _] => rw [hq] at hs; simp at hs; omega
      | a0 :: a1 :: a2 :: a3 :: a4 :: r => exact ⟨a0, a1, a2, a3, a4, r, rfl⟩
    have fi := fifth hp hr (by omega)
    rw [zOS f l (by omega) (by omega), Option.bind_some, sortv1 f hf l hl, Option.bind_some]
    have c1 : (4 : Int) < zz (isort kN l).length := by rw [zz_eq, hs]; omega
    have c2 : Int.toNat 4 < (isort kN l).length := by rw [hs]; show 4 < _; omega
    have g4 : (isort kN l).getD (Int.toNat 4) (0, 0, ()) = a4 := by rw [hr]; rfl
    simp only [c, c1, c2, decide_true, decide_false, cond_true, cond_false, g4]
    have lp := zDb f l a4.2.1 (by omega) l lost all 0 0 l.length 0 [] f (by omega) (by simp) (by omega)
    rw [fi.1]
    exact lp
theorem zOT (f : Nat) (hf : 1000 < f) (pa : List Knot) (la aa : Int) (pb : List Knot) (lb ab : Int) (ha : pa.length ≤ 4) (hb : pb.length ≤ 4) (sa : SA pa) (ga : Pos 2000 pa) (gb : Pos 2000 pb) (h0 : 0 ≤ la ∧ la ≤ 2000) (h1 : 0 ≤ lb ∧ lb ≤ 2000) :
    zfD f ((pa, la, aa, ()), (pb, lb, ab, ()), ()) = some (cut3 (putAll pa pb) (w64 (la + lb)) (w64 (aa + ab)), ()) := by
  show zfC f pa la aa pb lb ab = _
  unfold zfC
  have e : w64 (la + lb) = la + lb := by rw [w64_id] <;> omega
  have p := zmj (m := 2000) (by omega) (b := pb) (a := pa) (by omega) sa ga gb
  have l8 := zru pb pa
  rw [both_eq f pa pb hf ha hb sa ga gb, Option.bind_some, cut_eq f hf (putAll pa pb) (w64 (la + lb)) _ (by omega) (p.2.1.mono (by omega)) (by omega) (by omega), Option.bind_some]
theorem zOU (f : Nat) (hf : 1000 < f) (pa : List Knot) (la aa : Int) (pb : List Knot) (lb ab : Int) :
    zfS f ((pa, la, aa, ()), (pb, lb, ab, ()), ()) = some ((topJoin pa la aa pb lb ab).1, ((topJoin pa la aa pb lb ab).2, ()), ()) := by
  show zfR f pa la aa pb lb ab = _
  unfold zfR topJoin
  simp only [zrp f pa la aa (by omega), zrp f pb lb ab (by omega), Option.bind_some]
  cases h : topB pa la aa
  · rfl
  cases h' : topB pb lb ab
  · rfl
  have b := zmm h
  have b' := zmm h'
  have e := zOT f hf pa la aa pb lb ab (by omega) (by omega) b.1 b.2.1 b'.2.1 (by omega) (by omega)
  by_cases c : w64 (aa + ab) ≤ 2000
  · have c' : ¬ w64 (aa + ab) > 2000 := by omega
    simp only [c, c', decide_true, decide_false, Bool.not_true, cond_false, cond_true, Bool.and_self, e, Option.bind_some]
  · have c' : w64 (aa + ab) > 2000 := by omega
    simp only [c, c', decide_true, decide_false, Bool.not_true, cond_false, cond_true, Bool.and_false]
    rfl
end Go.Proofs.YtdgdoeknpakmlaaGreat.Den
