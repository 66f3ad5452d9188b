/- Part 11 of the texts behind the row. -/
import Derived.Test.YtdgdoeknpakmlaaGreatBd7988b665c
set_option linter.unusedVariables false
set_option linter.unusedSimpArgs false
namespace Go.Proofs.YtdgdoeknpakmlaaGreat.Den
open Go Go.RowKit
def zrI (fuel : Nat) : Tab := Tab.of [] []
abbrev zmx : List Pm := [{ cs := [(I6, false)], ag := false }, { cs := [(I6, false)], ag := false }, { cs := [(I6, false)], ag := false }]
abbrev zrJ : List Pm := [{ cs := [(Kd.bool, false)], ag := false }]
def zrK : List Norm := []
noncomputable def zrL : C := irOf Tryz.prog Tryz.f107 [] zrK []
theorem zDK : lightC Tryz.prog [] Tryz.f107.ntmps zrK [] 0 (bodyOf Tryz.f107) = some (zrL, 0) := by kernel_rfl
def zrM : List (Nat × Option (Nat × Bool)) := [(6, none)]
def zrN (fuel : Nat) (x0 : Int) (x1 : Int) (x2 : Int) : Option ((Bool × Unit) × Unit) :=
 cond (decide (x0 ≥ x1))
 (some (((decide (x0 ≤ x2), ()), ())))
 (some (((false, ()), ())))
def zr (fuel : Nat) (x : ((Int × Unit) × ((Int × Unit) × ((Int × Unit) × Unit)))) : Option ((Bool × Unit) × Unit) := zrN fuel x.1.1 x.2.1.1 x.2.2.1.1
theorem zDL (fuel : Nat) (x : PsT zmx) : run (zrI fuel) 0 fuel zrL (env0 (svPs zmx x) 0) [] (endF zrM zrJ) = zr fuel x := by kernel_rfl
def zbR (fuel : Nat) : TF := ⟨zmx, zrJ, true, zr fuel⟩
theorem zDM (fuel : Nat) : FnSpec Tryz.prog 107 (zbR fuel) :=
  fn_spec (T := zrI fuel) (c := bodyOf Tryz.f107) (fn := Tryz.f107) (TabOK.of (entNil) (methNil)) mixed (by kernel_rfl) (by kernel_rfl) zDK (by kernel_rfl) (Nat.le_of_ble_eq_true (by kernel_rfl)) (rv := zrM) (by kernel_rfl) (zDL fuel)
theorem zia (fuel : Nat) : EntryOK Tryz.prog 107 (zbR fuel).te := EntryOK.tf rfl (zDM fuel) (isFn (fn := Tryz.f107) (by kernel_rfl) (by kernel_rfl) (by kernel_rfl))
def zdC (fuel : Nat) : Tab := Tab.of [(107, (zbR fuel).te)] []
abbrev zib : List Pm := [{ cs := [(Kd.list KP, false), (I6, false)], ag := true }]
abbrev zdD : List Pm := [{ cs := [(Kd.bool, false)], ag := false }]
def zrO : List Norm := [{ live := [4, 1, 3], fix := [] }]
noncomputable def zdE : C := irOf Tryz.prog Tryz.f144 [] zrO []
theorem zDN : lightC Tryz.prog [] Tryz.f144.ntmps zrO [] 0 (bodyOf Tryz.f144) = some (zdE, 1) := by kernel_rfl
def zdF : List (Nat × Option (Nat × Bool)) := [(2, none)]
abbrev zbS := (Int) × (Int) × LP × (Int)
def zrP (v : zbS) : Env × Heap := ([(4, SV.int .i64 v.1), (1, SV.ptr 0 0), (3, SV.int .i64 v.2.1)], [Blk.cells [SV.es KP v.2.2.1, SV.int .i64 v.2.2.2] 0 2])
def zdG (fuel : Nat) (g0 : zbS → Option ((Bool × Unit) × Unit)) (v : zbS) : Option ((Bool × Unit) × Unit) :=
 cond (decide (v.1 < (zz (List.length v.2.2.1))))
 (tst (decide (0 ≤ v.1)) <|
 tst (decide (v.1 < (zz (List.length v.2.2.1)))) <|
 Option.bind (zr fuel (((List.getD v.2.2.1 (Int.toNat v.1) (0, (0, ()))).1, ()), ((1 : Int), ()), ((127 : Int), ()), ())) fun y_2 =>
 cond (!y_2.1.1)
 (some (((false, ()), ())))
 (Option.bind (zr fuel (((List.getD v.2.2.1 (Int.toNat v.1) (0, (0, ()))).2.1, ()), ((1 : Int), ()), ((2000 : Int), ()), ())) fun y_4 =>
 cond (!y_4.1.1)
 (some (((false, ()), ())))
 (cond (decide (v.1 > (0 : Int)))
 (tst (decide (0 ≤ w64 (v.1 - (1 : Int)))) <|
 tst (decide (w64 (v.1 - (1 : Int)) < (zz (List.length v.2.2.1)))) <|
 cond (decide ((List.getD v.2.2.1 (Int.toNat (w64 (v.1 - (1 : Int)))) (0, (0, ()))).1 ≥ (List.getD v.2.2.1 (Int.toNat v.1) (0, (0, ()))).1))
 (some (((false, ()), ())))
 (cond (decide ((List.getD v.2.2.1 (Int.toNat v.1) (0, (0, ()))).1 < (64 : Int)))
 (cond (decide ((List.getD v.2.2.1 (Int.toNat v.1) (0, (0, ()))).2.1 > w64 (Int.tdiv v.2.2.2 (8 : Int))))
 (some (((false, ()), ())))
 (g0 (w64 (v.1 + (1 : Int)), w64 (v.2.1 + (List.getD v.2.2.1 (Int.toNat v.1) (0, (0, ()))).2.1), v.2.2.1, v.2.2.2)))
 (g0 (w64 (v.1 + (1 : Int)), w64 (v.2.1 + (List.getD v.2.2.1 (Int.toNat v.1) (0, (0, ()))).2.1), v.2.2.1, v.2.2.2))))
 (cond (decide ((List.getD v.2.2.1 (Int.toNat v.1) (0, (0, ()))).1 < (64 : Int)))
 (cond (decide ((List.getD v.2.2.1 (Int.toNat v.1) (0, (0, ()))).2.1 > w64 (Int.tdiv v.2.2.2 (8 : Int))))
 (some (((false, ()), ())))
 (g0 (w64 (v.1 + (1 : Int)), w64 (v.2.1 + (List.getD v.2.2.1 (Int.toNat v.1) (0, (0, ()))).2.1), v.2.2.1, v.2.2.2)))
 (g0 (w64 (v.1 + (1 : Int)), w64 (v.2.1 + (List.getD v.2.2.1 (Int.toNat v.1) (0, (0, ()))).2.1), v.2.2.1, v.2.2.2))))))
 (some (((v.2.1 == v.2.2.2, ()), ())))
def zic (fuel : Nat) (g0 : zbS → Option ((Bool × Unit) × Unit)) : zbS → Option ((Bool × Unit) × Unit) := zdG fuel g0
theorem zDO (fuel : Nat) (G) : zdE.lp (zdC fuel) 0 fuel G (endF zdF zdD) 0 zrP = iter (zic fuel) fuel := C.lp_iter fun g v => by kernel_rfl
def zmy (fuel : Nat) (X0 : zbS → Option ((Bool × Unit) × Unit)) (x0 : LP) (x1 : Int) : Option ((Bool × Unit) × Unit) :=
 Option.bind (zr fuel ((x1, ()), ((0 : Int), ()), ((2000 : Int), ()), ())) fun y_1 =>
 cond (!y_1.1.1)
 (some (((false, ()), ())))
 (X0 ((0 : Int), (0 : Int), x0, x1))
def zbb (fuel : Nat) (x : ((LP × (Int × Unit)) × Unit)) : Option ((Bool × Unit) × Unit) := zmy fuel (iter (zic fuel) fuel) x.1.1 x.1.2.1
theorem zDP (fuel : Nat) (x : PsT zib) : run (zdC fuel) 0 fuel zdE (env0 (svPs zib x) 0) [] (endF zdF zdD) = zbb fuel x :=
  (show run (zdC fuel) 0 fuel zdE (env0 (svPs zib x) 0) [] (endF zdF zdD) = zmy fuel (zdE.lp (zdC fuel) 0 fuel (fun _ _ _ => none) (endF zdF zdD) 0 zrP) x.1.1 x.1.2.1 by kernel_rfl).trans (by rw [zDO]; rfl)
def zid (fuel : Nat) : TF := ⟨zib, zdD, true, zbb fuel⟩
theorem zDQ (fuel : Nat) : FnSpec Tryz.prog 144 (zid fuel) :=
  fn_spec (T := zdC fuel) (c := bodyOf Tryz.f144) (fn := Tryz.f144) (TabOK.of (entCons (zia fuel) entNil) (methNil)) mixed (by kernel_rfl) (by kernel_rfl) zDN (by kernel_rfl) (Nat.le_of_ble_eq_true (by kernel_rfl)) (rv := zdF) (by kernel_rfl) (zDP fuel)
theorem zrQ (fuel : Nat) : EntryOK Tryz.prog 144 (zid fuel).te := EntryOK.tf rfl (zDQ fuel) (isFn (fn := Tryz.f144) (by kernel_rfl) (by kernel_rfl) (by kernel_rfl))
def zdH (fuel : Nat) : Tab := Tab.of [] []
abbrev zie : List Pm := [{ cs := [(Kd.list KP, false), (I6, false)], ag := true }]
abbrev zdI : List Pm := [{ cs := [(Kd.bool, false)], ag := false }]
def zrR : List Norm := [{ live := [18, 17, 16, 3, 1, 4], fix := [] }]
noncomputable def zdJ : C := irOf Tryz.prog Tryz.f94 [] zrR []
theorem zDR : lightC Tryz.prog [] Tryz.f94.ntmps zrR [] 0 (bodyOf Tryz.f94) = some (zdJ, 1) := by kernel_rfl
def zdK : List (Nat × Option (Nat × Bool)) := [(2, none)]
abbrev zbT := (Int) × (Int) × LP × (Int) × (Int) × LP × (Int)
def zrS (v : zbT) : Env × Heap := ([(18, SV.int .i64 v.1), (17, SV.int .i64 v.2.1), (16, SV.es KP v.2.2.1), (3, SV.int .i64 v.2.2.2.1), (1, SV.ptr 0 0), (4, SV.int .i64 v.2.2.2.2.1)], [Blk.cells [SV.es KP v.2.2.2.2.2.1, SV.int .i64 v.2.2.2.2.2.2] 0 2])
def zdL (fuel : Nat) (g0 : zbT → Option ((Bool × Unit) × Unit)) (v : zbT) : Option ((Bool × Unit) × Unit) :=
 cond (decide (v.1 < v.2.1))
 (tst (decide (0 ≤ v.1)) <|
 tst (decide (v.1 < (zz (List.length v.2.2.1)))) <|
 cond (decide ((List.getD v.2.2.1 (Int.toNat v.1) (0, (0, ()))).1 ≤ v.2.2.2.1))
 (some (((false, ()), ())))
 (cond (decide ((List.getD v.2.2.1 (Int.toNat v.1) (0, (0, ()))).1 ≥ (128 : Int)))
 (some (((false, ()), ())))
 (cond (decide ((List.getD v.2.2.1 (Int.toNat v.1) (0, (0, ()))).2.1 < (1 : Int)))
 (some (((false, ()), ())))
 (cond (decide ((List.getD v.2.2.1 (Int.toNat v.1) (0, (0, ()))).2.1 > (2000 : Int)))
 (some (((false, ()), ())))
 (cond (decide ((List.getD v.2.2.1 (Int.toNat v.1) (0, (0, ()))).1 < (64 : Int)))
 (cond (decide ((List.getD v.2.2.1 (Int.toNat v.1) (0, (0, ()))).2.1 > w64 (Int.tdiv v.2.2.2.2.2.2 (8 : Int))))
 (some (((false, ()), ())))
 (g0 (w64 (v.1 + (1 : Int)), v.2.1, v.2.2.1, (List.getD v.2.2.1 (Int.toNat v.1) (0, (0, ()))).1, w64 (v.2.2.2.2.1 + (List.getD v.2.2.1 (Int.toNat v.1) (0, (0, ()))).2.1), v.2.2.2.2.2.1, v.2.2.2.2.2.2)))
 (g0 (w64 (v.1 + (1 : Int)), v.2.1, v.2.2.1, (List.getD v.2.2.1 (Int.toNat v.1) (0, (0, ()))).1, w64 (v.2.2.2.2.1 + (List.getD v.2.2.1 (Int.toNat v.1) (0, (0, ()))).2.1), v.2.2.2.2.2.1, v.2.2.2.2.2.2)))))))
 (some (((v.2.2.2.2.1 == v.2.2.2.2.2.2, ()), ())))
def zif (fuel : Nat) (g0 : zbT → Option ((Bool × Unit) × Unit)) : zbT → Option ((Bool × Unit) × Unit) := zdL fuel g0
theorem zDS (fuel : Nat) (G) : zdJ.lp (zdH fuel) 0 fuel G (endF zdK zdI) 0 zrS = iter (zif fuel) fuel := C.lp_iter fun g v => by kernel_rfl
def zmz (fuel : Nat) (X0 : zbT → Option ((Bool × Unit) × Unit)) (x0 : LP) (x1 : Int) : Option ((Bool × Unit) × Unit) :=
 cond (decide (x1 < (0 : Int)))
 (some (((false, ()), ())))
 (cond (decide (x1 > (2000 : Int)))
 (some (((false, ()), ())))
 (X0 ((0 : Int), (zz (List.length x0)), x0, (0 : Int), (0 : Int), x0, x1)))
def zbc (fuel : Nat) (x : ((LP × (Int × Unit)) × Unit)) : Option ((Bool × Unit) × Unit) := zmz fuel (iter (zif fuel) fuel) x.1.1 x.1.2.1
theorem zDT (fuel : Nat) (x : PsT zie) : run (zdH fuel) 0 fuel zdJ (env0 (svPs zie x) 0) [] (endF zdK zdI) = zbc fuel x :=
  (show run (zdH fuel) 0 fuel zdJ (env0 (svPs zie x) 0) [] (endF zdK zdI) = zmz fuel (zdJ.lp (zdH fuel) 0 fuel (fun _ _ _ => none) (endF zdK zdI) 0 zrS) x.1.1 x.1.2.1 by kernel_rfl).trans (by rw [zDS]; rfl)
def zig (fuel : Nat) : TF := ⟨zie, zdI, true, zbc fuel⟩
theorem zDU (fuel : Nat) : FnSpec Tryz.prog 94 (zig fuel) :=
  fn_spec (T := zdH fuel) (c := bodyOf Tryz.f94) (fn := Tryz.f94) (TabOK.of (entNil) (methNil)) mixed (by kernel_rfl) (by kernel_rfl) zDR (by kernel_rfl) (Nat.le_of_ble_eq_true (by kernel_rfl)) (rv := zdK) (by kernel_rfl) (zDT fuel)
theorem zrT (fuel : Nat) : EntryOK Tryz.prog 94 (zig fuel).te := EntryOK.tf rfl (zDU fuel) (isFn (fn := Tryz.f94) (by kernel_rfl) (by kernel_rfl) (by kernel_rfl))
def zdM (fuel : Nat) : Tab := Tab.of [] []
abbrev zih : List Pm := [{ cs := [(Kd.list I6, false)], ag := false }]
abbrev zdN : List Pm := [{ cs := [(I6, false)], ag := false }]
def zrU : List Norm := [{ live := [4, 0, 3], fix := [] }]
noncomputable def zdO : C := irOf Tryz.prog Tryz.f135 [] zrU []
theorem zDV : lightC Tryz.prog [] Tryz.f135.ntmps zrU [] 0 (bodyOf Tryz.f135) = some (zdO, 1) := by kernel_rfl
def zdP : List (Nat × Option (Nat × Bool)) := [(2, none)]
abbrev zbU := (Int) × (List Int) × (Int)
def zrV (v : zbU) : Env × Heap := ([(4, SV.int .i64 v.1), (0, SV.es I6 v.2.1), (3, SV.int .i64 v.2.2)], [])
def zdQ (fuel : Nat) (g0 : zbU → Option ((Int × Unit) × Unit)) (v : zbU) : Option ((Int × Unit) × Unit) :=
 cond (decide (v.1 < (zz (List.length v.2.1))))
 (tst (decide (0 ≤ v.1)) <|
 tst (decide (v.1 < (zz (List.length v.2.1)))) <|
 g0 (w64 (v.1 + (1 : Int)), v.2.1, w64 (v.2.2 + List.getD v.2.1 (Int.toNat v.1) 0)))
 (some (((v.2.2, ()), ())))
def zii (fuel : Nat) (g0 : zbU → Option ((Int × Unit) × Unit)) : zbU → Option ((Int × Unit) × Unit) := zdQ fuel g0
theorem zDW (fuel : Nat) (G) : zdO.lp (zdM fuel) 0 fuel G (endF zdP zdN) 0 zrV = iter (zii fuel) fuel := C.lp_iter fun g v => by kernel_rfl
def zrW (fuel : Nat) (X0 : zbU → Option ((Int × Unit) × Unit)) (x0 : List Int) : Option ((Int × Unit) × Unit) :=
 X0 ((0 : Int), x0, (0 : Int))
def zJ (fuel : Nat) (x : (((List Int) × Unit) × Unit)) : Option ((Int × Unit) × Unit) := zrW fuel (iter (zii fuel) fuel) x.1.1
theorem zDX (fuel : Nat) (x : PsT zih) : run (zdM fuel) 0 fuel zdO (env0 (svPs zih x) 0) [] (endF zdP zdN) = zJ fuel x :=
  (show run (zdM fuel) 0 fuel zdO (env0 (svPs zih x) 0) [] (endF zdP zdN) = zrW fuel (zdO.lp (zdM fuel) 0 fuel (fun _ _ _ => none) (endF zdP zdN) 0 zrV) x.1.1 by kernel_rfl).trans (by rw [zDW]; rfl)
def zdR (fuel : Nat) : TF := ⟨zih, zdN, true, zJ fuel⟩
theorem zDY (fuel : Nat) : FnSpec Tryz.prog 135 (zdR fuel) :=
  fn_spec (T := zdM fuel) (c := bodyOf Tryz.f135) (fn := Tryz.f135) (TabOK.of (entNil) (methNil)) mixed (by kernel_rfl) (by kernel_rfl) zDV (by kernel_rfl) (Nat.le_of_ble_eq_true (by kernel_rfl)) (rv := zdP) (by kernel_rfl) (zDX fuel)
theorem zmA (fuel : Nat) : EntryOK Tryz.prog 135 (zdR fuel).te := EntryOK.tf rfl (zDY fuel) (isFn (fn := Tryz.f135) (by kernel_rfl) (by kernel_rfl) (by kernel_rfl))
def zK (fuel : Nat) : Tab := Tab.of [(107, (zbR fuel).te), (135, (zdR fuel).te)] []
abbrev zij : List Pm := [{ cs := [(Kd.list (Kd.list I6), false)], ag := true }]
abbrev zaf : List Pm := [{ cs := [(Kd.bool, false)], ag := false }]
def zrX : List Norm := [{ live := [3, 1], fix := [] }, { live := [4, 1, 3], fix := [] }]
noncomputable def zt : C := irOf Tryz.prog Tryz.f141 [] zrX []
theorem zDZ : lightC Tryz.prog [] Tryz.f141.ntmps zrX [] 0 (bodyOf Tryz.f141) = some (zt, 2) := by kernel_rfl
def zag : List (Nat × Option (Nat × Bool)) := [(2, none)]
abbrev zaI := (Int) × (List (List Int))
abbrev zbV := (Int) × (Int) × (List (List Int))
def zV (v : zaI) : Env × Heap := ([(3, SV.int .i64 v.1), (1, SV.ptr 0 0)], [Blk.cells [SV.es (Kd.list I6) v.2] 0 1])
def zbW (v : zbV) : Env × Heap := ([(4, SV.int .i64 v.1), (1, SV.ptr 0 0), (3, SV.int .i64 v.2.1)], [Blk.cells [SV.es (Kd.list I6) v.2.2] 0 1])
def zbX (fuel : Nat) (g0 : zaI → Option ((Bool × Unit) × Unit)) (g1 : zbV → Option ((Bool × Unit) × Unit)) (v : zbV) : Option ((Bool × Unit) × Unit) :=
 cond (decide (v.1 < (8 : Int)))
 (tst (decide (0 ≤ v.2.1)) <|
 tst (decide (v.2.1 < (zz (List.length v.2.2)))) <|
 tst (decide (0 ≤ v.1)) <|
 tst (decide (v.1 < (zz (List.length (List.getD v.2.2 (Int.toNat v.2.1) []))))) <|
 Option.bind (zr fuel ((List.getD (List.getD v.2.2 (Int.toNat v.2.1) []) (Int.toNat v.1) 0, ()), ((0 : Int), ()), ((2000 : Int), ()), ())) fun y_2 =>
 cond (!y_2.1.1)
 (some (((false, ()), ())))
 (g1 (w64 (v.1 + (1 : Int)), v.2.1, v.2.2)))
 (tst (decide (0 ≤ v.2.1)) <|
 tst (decide (v.2.1 < (zz (List.length v.2.2)))) <|
 Option.bind (zJ fuel ((List.getD v.2.2 (Int.toNat v.2.1) [], ()), ())) fun y_2 =>
 tst (decide ((0 : Int) < (zz (List.length v.2.2)))) <|
 Option.bind (zJ fuel ((List.getD v.2.2 (Int.toNat (0 : Int)) [], ()), ())) fun y_3 =>
 cond (y_2.1.1 != y_3.1.1)
 (some (((false, ()), ())))
 (tst (decide (0 ≤ v.2.1)) <|
 tst (decide (v.2.1 < (zz (List.length v.2.2)))) <|
 Option.bind (zJ fuel ((List.getD v.2.2 (Int.toNat v.2.1) [], ()), ())) fun y_5 =>
 cond (decide (y_5.1.1 > (2000 : Int)))
 (some (((false, ()), ())))
 (g0 (w64 (v.2.1 + (1 : Int)), v.2.2))))
def zmB (fuel : Nat) (g0 : zaI → Option ((Bool × Unit) × Unit)) (g1 : zbV → Option ((Bool × Unit) × Unit)) : zbV → Option ((Bool × Unit) × Unit) := zbX fuel g0 g1
theorem zD0 (fuel : Nat) (G) : zt.lp (zK fuel) 0 fuel G (endF zag zaf) 1 zbW = iter (zmB fuel (fun v => G 0 (zV v).1 (zV v).2)) fuel := C.lp_iter fun g v =>
  (show run (zK fuel) 0 fuel (zt.bdAt 1) (zbW v).1 (zbW v).2 (loopK 0 (zt.nmAt 1) g (zt.contAt (zK fuel) 0 fuel G 0 1 (endF zag zaf))) = zbX fuel (fun v => G 0 (zV v).1 (zV v).2) (fun v => g (zbW v).1 (zbW v).2) v by kernel_rfl)
def zbY (fuel : Nat) (X1 : zbV → Option ((Bool × Unit) × Unit)) (g0 : zaI → Option ((Bool × Unit) × Unit)) (v : zaI) : Option ((Bool × Unit) × Unit) :=
 cond (decide (v.1 < (3 : Int)))
 (tst (decide (0 ≤ v.1)) <|
 tst (decide (v.1 < (zz (List.length v.2)))) <|
 cond ((zz (List.length (List.getD v.2 (Int.toNat v.1) []))) != (8 : Int))
 (some (((false, ()), ())))
 (X1 ((0 : Int), v.1, v.2)))
 (some (((true, ()), ())))
def zik (fuel : Nat) (g0 : zaI → Option ((Bool × Unit) × Unit)) : zaI → Option ((Bool × Unit) × Unit) := zbY fuel (iter (zmB fuel g0) fuel) g0
theorem zD1 (fuel : Nat) (G) : zt.lp (zK fuel) 0 fuel G (endF zag zaf) 0 zV = iter (zik fuel) fuel := C.lp_iter fun g v =>
  (show run (zK fuel) 0 fuel (zt.bdAt 0) (zV v).1 (zV v).2 (loopK 0 (zt.nmAt 0) g (zt.contAt (zK fuel) 0 fuel G 0 0 (endF zag zaf))) = zbY fuel (zt.lp (zK fuel) 0 fuel (fun m => bif Nat.beq m 0 then g else G m) (endF zag zaf) 1 zbW) (fun v => g (zV v).1 (zV v).2) v by kernel_rfl).trans (by rw [zD0]; rfl)
def zil (fuel : Nat) (X0 : zaI → Option ((Bool × Unit) × Unit)) (x0 : List (List Int)) : Option ((Bool × Unit) × Unit) :=
 cond ((zz (List.length x0)) != (3 : Int))
 (some (((false, ()), ())))
 (X0 ((0 : Int), x0))
def zbd (fuel : Nat) (x : (((List (List Int)) × Unit) × Unit)) : Option ((Bool × Unit) × Unit) := zil fuel (iter (zik fuel) fuel) x.1.1
theorem zD2 (fuel : Nat) (x : PsT zij) : run (zK fuel) 0 fuel zt (env0 (svPs zij x) 0) [] (endF zag zaf) = zbd fuel x :=
  (show run (zK fuel) 0 fuel zt (env0 (svPs zij x) 0) [] (endF zag zaf) = zil fuel (zt.lp (zK fuel) 0 fuel (fun _ _ _ => none) (endF zag zaf) 0 zV) x.1.1 by kernel_rfl).trans (by rw [zD1]; rfl)
def zdS (fuel : Nat) : TF := ⟨zij, zaf, true, zbd fuel⟩
theorem zD3 (fuel : Nat) : FnSpec Tryz.prog 141 (zdS fuel) :=
  fn_spec (T := zK fuel) (c := bodyOf Tryz.f141) (fn := Tryz.f141) (TabOK.of (entCons (zia fuel) (entCons (zmA fuel) entNil)) (methNil)) mixed (by kernel_rfl) (by kernel_rfl) zDZ (by kernel_rfl) (Nat.le_of_ble_eq_true (by kernel_rfl)) (rv := zag) (by kernel_rfl) (zD2 fuel)
theorem zmC (fuel : Nat) : EntryOK Tryz.prog 141 (zdS fuel).te := EntryOK.tf rfl (zD3 fuel) (isFn (fn := Tryz.f141) (by kernel_rfl) (by kernel_rfl) (by kernel_rfl))
def zdT (fuel : Nat) : Tab := Tab.of [(107, (zbR fuel).te)] []
abbrev zim : List Pm := [{ cs := [(Kd.list I6, false)], ag := true }]
abbrev zdU : List Pm := [{ cs := [(Kd.bool, false)], ag := false }]
def zrY : List Norm := [{ live := [3, 1], fix := [] }]
noncomputable def zdV : C := irOf Tryz.prog Tryz.f142 [] zrY []
theorem zD4 : lightC Tryz.prog [] Tryz.f142.ntmps zrY [] 0 (bodyOf Tryz.f142) = some (zdV, 1) := by kernel_rfl
def zdW : List (Nat × Option (Nat × Bool)) := [(2, none)]
abbrev zbZ := (Int) × (List Int)
def zrZ (v : zbZ) : Env × Heap := ([(3, SV.int .i64 v.1), (1, SV.ptr 0 0)], [Blk.cells [SV.es I6 v.2] 0 1])
def zdX (fuel : Nat) (g0 : zbZ → Option ((Bool × Unit) × Unit)) (v : zbZ) : Option ((Bool × Unit) × Unit) :=
 cond (decide (v.1 < (zz (List.length v.2))))
 (tst (decide (0 ≤ v.1)) <|
 tst (decide (v.1 < (zz (List.length v.2)))) <|
 Option.bind (zr fuel ((List.getD v.2 (Int.toNat v.1) 0, ()), ((0 : Int), ()), ((63 : Int), ()), ())) fun y_2 =>
 cond (!y_2.1.1)
 (some (((false, ()), ())))
 (cond (decide (v.1 > (0 : Int)))
 (tst (decide (0 ≤ w64 (v.1 - (1 : Int)))) <|
 tst (decide (w64 (v.1 - (1 : Int)) < (zz (List.length v.2)))) <|
 tst (decide (0 ≤ v.1)) <|
 tst (decide (v.1 < (zz (List.length v.2)))) <|
 cond (decide (List.getD v.2 (Int.toNat (w64 (v.1 - (1 : Int)))) 0 ≥ List.getD v.2 (Int.toNat v.1) 0))
 (some (((false, ()), ())))
 (g0 (w64 (v.1 + (1 : Int)), v.2)))
 (g0 (w64 (v.1 + (1 : Int)), v.2))))
 (some (((decide ((zz (List.length v.2)) ≤ (6 : Int)), ()), ())))
def zin (fuel : Nat) (g0 : zbZ → Option ((Bool × Unit) × Unit)) : zbZ → Option ((Bool × Unit) × Unit) := zdX fuel g0
theorem zD5 (fuel : Nat) (G) : zdV.lp (zdT fuel) 0 fuel G (endF zdW zdU) 0 zrZ = iter (zin fuel) fuel := C.lp_iter fun g v => by kernel_rfl
def zr0 (fuel : Nat) (X0 : zbZ → Option ((Bool × Unit) × Unit)) (x0 : List Int) : Option ((Bool × Unit) × Unit) :=
 X0 ((0 : Int), x0)
def zb0 (fuel : Nat) (x : (((List Int) × Unit) × Unit)) : Option ((Bool × Unit) × Unit) := zr0 fuel (iter (zin fuel) fuel) x.1.1
theorem zD6 (fuel : Nat) (x : PsT zim) : run (zdT fuel) 0 fuel zdV (env0 (svPs zim x) 0) [] (endF zdW zdU) = zb0 fuel x :=
  (show run (zdT fuel) 0 fuel zdV (env0 (svPs zim x) 0) [] (endF zdW zdU) = zr0 fuel (zdV.lp (zdT fuel) 0 fuel (fun _ _ _ => none) (endF zdW zdU) 0 zrZ) x.1.1 by kernel_rfl).trans (by rw [zD5]; rfl)
def zio (fuel : Nat) : TF := ⟨zim, zdU, true, zb0 fuel⟩
theorem zD7 (fuel : Nat) : FnSpec Tryz.prog 142 (zio fuel) :=
  fn_spec (T := zdT fuel) (c := bodyOf Tryz.f142) (fn := Tryz.f142) (TabOK.of (entCons (zia fuel) entNil) (methNil)) mixed (by kernel_rfl) (by kernel_rfl) zD4 (by kernel_rfl) (Nat.le_of_ble_eq_true (by kernel_rfl)) (rv := zdW) (by kernel_rfl) (zD6 fuel)
theorem zr1 (fuel : Nat) : EntryOK Tryz.prog 142 (zio fuel).te := EntryOK.tf rfl (zD7 fuel) (isFn (fn := Tryz.f142) (by kernel_rfl) (by kernel_rfl) (by kernel_rfl))
def zdY (fuel : Nat) : Tab := Tab.of [] []
abbrev ziq : List Pm := [{ cs := [(Kd.list KP, false)], ag := false }]
abbrev zdZ : List Pm := [{ cs := [(I6, false)], ag := false }]
def zr2 : List Norm := [{ live := [4, 0, 3], fix := [] }]
noncomputable def zd0 : C := irOf Tryz.prog Tryz.f185 [] zr2 []
theorem zD8 : lightC Tryz.prog [] Tryz.f185.ntmps zr2 [] 0 (bodyOf Tryz.f185) = some (zd0, 1) := by kernel_rfl
def zd1 : List (Nat × Option (Nat × Bool)) := [(2, none)]
abbrev zb1 := (Int) × LP × (Int)
def zr3 (v : zb1) : Env × Heap := ([(4, SV.int .i64 v.1), (0, SV.es KP v.2.1), (3, SV.int .i64 v.2.2)], [])
def zd2 (fuel : Nat) (g0 : zb1 → Option ((Int × Unit) × Unit)) (v : zb1) : Option ((Int × Unit) × Unit) :=
 cond (decide (v.1 < (zz (List.length v.2.1))))
 (tst (decide (0 ≤ v.1)) <|
 tst (decide (v.1 < (zz (List.length v.2.1)))) <|
 g0 (w64 (v.1 + (1 : Int)), v.2.1, w64 (v.2.2 + (List.getD v.2.1 (Int.toNat v.1) (0, (0, ()))).2.1)))
 (some (((v.2.2, ()), ())))
def zir (fuel : Nat) (g0 : zb1 → Option ((Int × Unit) × Unit)) : zb1 → Option ((Int × Unit) × Unit) := zd2 fuel g0
theorem zD9 (fuel : Nat) (G) : zd0.lp (zdY fuel) 0 fuel G (endF zd1 zdZ) 0 zr3 = iter (zir fuel) fuel := C.lp_iter fun g v => by kernel_rfl
def zr4 (fuel : Nat) (X0 : zb1 → Option ((Int × Unit) × Unit)) (x0 : LP) : Option ((Int × Unit) × Unit) :=
 X0 ((0 : Int), x0, (0 : Int))
def zis (fuel : Nat) (x : ((LP × Unit) × Unit)) : Option ((Int × Unit) × Unit) := zr4 fuel (iter (zir fuel) fuel) x.1.1
theorem zEa (fuel : Nat) (x : PsT ziq) : run (zdY fuel) 0 fuel zd0 (env0 (svPs ziq x) 0) [] (endF zd1 zdZ) = zis fuel x :=
  (show run (zdY fuel) 0 fuel zd0 (env0 (svPs ziq x) 0) [] (endF zd1 zdZ) = zr4 fuel (zd0.lp (zdY fuel) 0 fuel (fun _ _ _ => none) (endF zd1 zdZ) 0 zr3) x.1.1 by kernel_rfl).trans (by rw [zD9]; rfl)
def zmD (fuel : Nat) : TF := ⟨ziq, zdZ, true, zis fuel⟩
theorem zEb (fuel : Nat) : FnSpec Tryz.prog 185 (zmD fuel) :=
  fn_spec (T := zdY fuel) (c := bodyOf Tryz.f185) (fn := Tryz.f185) (TabOK.of (entNil) (methNil)) mixed (by kernel_rfl) (by kernel_rfl) zD8 (by kernel_rfl) (Nat.le_of_ble_eq_true (by kernel_rfl)) (rv := zd1) (by kernel_rfl) (zEa fuel)
theorem zEc (fuel : Nat) : EntryOK Tryz.prog 185 (zmD fuel).te := EntryOK.tf rfl (zEb fuel) (isFn (fn := Tryz.f185) (by kernel_rfl) (by kernel_rfl) (by kernel_rfl))
def zd3 (fuel : Nat) : Tab := Tab.of [(107, (zbR fuel).te), (185, (zmD fuel).te)] []
abbrev zit : List Pm := [{ cs := [(Kd.list KP, false), (I6, false), (I6, false)], ag := true }]
abbrev zd4 : List Pm := [{ cs := [(Kd.bool, false)], ag := false }]
def zr5 : List Norm := [{ live := [3, 1], fix := [] }]
noncomputable def zd5 : C := irOf Tryz.prog Tryz.f143 [] zr5 []
theorem zEd : lightC Tryz.prog [] Tryz.f143.ntmps zr5 [] 0 (bodyOf Tryz.f143) = some (zd5, 1) := by kernel_rfl
def zd6 : List (Nat × Option (Nat × Bool)) := [(2, none)]
abbrev zb2 := (Int) × LP × (Int) × (Int)
def zr6 (v : zb2) : Env × Heap := ([(3, SV.int .i64 v.1), (1, SV.ptr 0 0)], [Blk.cells [SV.es KP v.2.1, SV.int .i64 v.2.2.1, SV.int .i64 v.2.2.2] 0 3])
def zd7 (fuel : Nat) (g0 : zb2 → Option ((Bool × Unit) × Unit)) (v : zb2) : Option ((Bool × Unit) × Unit) :=
 cond (decide (v.1 < (zz (List.length v.2.1))))
 (tst (decide (0 ≤ v.1)) <|
 tst (decide (v.1 < (zz (List.length v.2.1)))) <|
 Option.bind (zr fuel (((List.getD v.2.1 (Int.toNat v.1) (0, (0, ()))).1, ()), ((0 : Int), ()), ((63 : Int), ()), ())) fun y_2 =>
 cond (!y_2.1.1)
 (some (((false, ()), ())))
 (tst (decide (0 ≤ v.1)) <|
 tst (decide (v.1 < (zz (List.length v.2.1)))) <|
 Option.bind (zr fuel (((List.getD v.2.1 (Int.toNat v.1) (0, (0, ()))).2.1, ()), ((1 : Int), ()), ((2000 : Int), ()), ())) fun y_4 =>
 cond (!y_4.1.1)
 (some (((false, ()), ())))
 (cond (decide (v.1 > (0 : Int)))
 (tst (decide (0 ≤ w64 (v.1 - (1 : Int)))) <|
 tst (decide (w64 (v.1 - (1 : Int)) < (zz (List.length v.2.1)))) <|
 tst (decide (0 ≤ v.1)) <|
 tst (decide (v.1 < (zz (List.length v.2.1)))) <|
 cond (decide ((List.getD v.2.1 (Int.toNat (w64 (v.1 - (1 : Int)))) (0, (0, ()))).1 ≥ (List.getD v.2.1 (Int.toNat v.1) (0, (0, ()))).1))
 (some (((false, ()), ())))
 (g0 (w64 (v.1 + (1 : Int)), v.2.1, v.2.2.1, v.2.2.2)))
 (g0 (w64 (v.1 + (1 : Int)), v.2.1, v.2.2.1, v.2.2.2)))))
 (cond (decide ((zz (List.length v.2.1)) ≤ (4 : Int)))
 (Option.bind (zr fuel ((v.2.2.2, ()), ((0 : Int), ()), ((2000 : Int), ()), ())) fun y_3 =>
 cond (y_3.1.1)
 (Option.bind (zr fuel ((v.2.2.1, ()), ((0 : Int), ()), ((2000 : Int), ()), ())) fun y_5 =>
 cond (y_5.1.1)
 (Option.bind (zis fuel ((v.2.1, ()), ())) fun y_7 =>
 some (((decide (w64 (y_7.1.1 + w64 ((5 : Int) * v.2.2.1)) ≤ v.2.2.2), ()), ())))
 (some (((false, ()), ()))))
 (some (((false, ()), ()))))
 (some (((false, ()), ()))))
def ziu (fuel : Nat) (g0 : zb2 → Option ((Bool × Unit) × Unit)) : zb2 → Option ((Bool × Unit) × Unit) := zd7 fuel g0
theorem zEe (fuel : Nat) (G) : zd5.lp (zd3 fuel) 0 fuel G (endF zd6 zd4) 0 zr6 = iter (ziu fuel) fuel := C.lp_iter fun g v => by kernel_rfl
def zr7 (fuel : Nat) (X0 : zb2 → Option ((Bool × Unit) × Unit)) (x0 : LP) (x1 : Int) (x2 : Int) : Option ((Bool × Unit) × Unit) :=
 X0 ((0 : Int), x0, x1, x2)
def zb3 (fuel : Nat) (x : ((LP × (Int × (Int × Unit))) × Unit)) : Option ((Bool × Unit) × Unit) := zr7 fuel (iter (ziu fuel) fuel) x.1.1 x.1.2.1 x.1.2.2.1
theorem zEf (fuel : Nat) (x : PsT zit) : run (zd3 fuel) 0 fuel zd5 (env0 (svPs zit x) 0) [] (endF zd6 zd4) = zb3 fuel x :=
  (show run (zd3 fuel) 0 fuel zd5 (env0 (svPs zit x) 0) [] (endF zd6 zd4) = zr7 fuel (zd5.lp (zd3 fuel) 0 fuel (fun _ _ _ => none) (endF zd6 zd4) 0 zr6) x.1.1 x.1.2.1 x.1.2.2.1 by kernel_rfl).trans (by rw [zEe]; rfl)
def ziv (fuel : Nat) : TF := ⟨zit, zd4, true, zb3 fuel⟩
theorem zEg (fuel : Nat) : FnSpec Tryz.prog 143 (ziv fuel) :=
  fn_spec (T := zd3 fuel) (c := bodyOf Tryz.f143) (fn := Tryz.f143) (TabOK.of (entCons (zia fuel) (entCons (zEc fuel) entNil)) (methNil)) mixed (by kernel_rfl) (by kernel_rfl) zEd (by kernel_rfl) (Nat.le_of_ble_eq_true (by kernel_rfl)) (rv := zd6) (by kernel_rfl) (zEf fuel)
theorem zr8 (fuel : Nat) : EntryOK Tryz.prog 143 (ziv fuel).te := EntryOK.tf rfl (zEg fuel) (isFn (fn := Tryz.f143) (by kernel_rfl) (by kernel_rfl) (by kernel_rfl))
end Go.Proofs.YtdgdoeknpakmlaaGreat.Den
namespace Go.Proofs.YtdgdoeknpakmlaaGreat.Den
open Go Go.RowKit
def zr9 (fuel : Nat) : Tab := Tab.of [(135, (zdR fuel).te), (141, (zdS fuel).te)] []
abbrev zmE : List Pm := [{ cs := [(Kd.list (Kd.list I6), false)], ag := true }]
abbrev zsa : List Pm := [{ cs := [(I6, false)], ag := false }]
def zsb : List Norm := []
noncomputable def zsc : C := irOf Tryz.prog Tryz.f145 [] zsb []
theorem zEh : lightC Tryz.prog [] Tryz.f145.ntmps zsb [] 0 (bodyOf Tryz.f145) = some (zsc, 0) := by kernel_rfl
def zsd : List (Nat × Option (Nat × Bool)) := [(2, none)]
def zmF (fuel : Nat) (x0 : List (List Int)) : Option ((Int × Unit) × Unit) :=
 Option.bind (zbd fuel ((x0, ()), ())) fun y_1 =>
 cond (!y_1.1.1)
 (some ((((-1 : Int), ()), ())))
 (tst (decide ((0 : Int) < (zz (List.length x0)))) <|
 Option.bind (zJ fuel ((List.getD x0 (Int.toNat (0 : Int)) [], ()), ())) fun y_3 =>
 some (((y_3.1.1, ()), ())))
def ziw (fuel : Nat) (x : (((List (List Int)) × Unit) × Unit)) : Option ((Int × Unit) × Unit) := zmF fuel x.1.1
theorem zEi (fuel : Nat) (x : PsT zmE) : run (zr9 fuel) 0 fuel zsc (env0 (svPs zmE x) 0) [] (endF zsd zsa) = ziw fuel x := by kernel_rfl
def zmG (fuel : Nat) : TF := ⟨zmE, zsa, true, ziw fuel⟩
theorem zEj (fuel : Nat) : FnSpec Tryz.prog 145 (zmG fuel) :=
  fn_spec (T := zr9 fuel) (c := bodyOf Tryz.f145) (fn := Tryz.f145) (TabOK.of (entCons (zmA fuel) (entCons (zmC fuel) entNil)) (methNil)) mixed (by kernel_rfl) (by kernel_rfl) zEh (by kernel_rfl) (Nat.le_of_ble_eq_true (by kernel_rfl)) (rv := zsd) (by kernel_rfl) (zEi fuel)
theorem zEk (fuel : Nat) : EntryOK Tryz.prog 145 (zmG fuel).te := EntryOK.tf rfl (zEj fuel) (isFn (fn := Tryz.f145) (by kernel_rfl) (by kernel_rfl) (by kernel_rfl))
def zse (fuel : Nat) : Tab := Tab.of [(141, (zdS fuel).te), (142, (zio fuel).te), (143, (ziv fuel).te), (144, (zid fuel).te), (145, (zmG fuel).te)] []
abbrev zmH : List Pm := [{ cs := [(Kd.list (Kd.list I6), false), (Kd.list I6, false), (Kd.list KP, false), (I6, false), (I6, false), (Kd.list KP, false), (I6, false)], ag := true }]
abbrev zsf : List Pm := [{ cs := [(Kd.bool, false)], ag := false }]
def zsg : List Norm := []
noncomputable def zsh : C := irOf Tryz.prog Tryz.f98 [] zsg []
theorem zEl : lightC Tryz.prog [] Tryz.f98.ntmps zsg [] 0 (bodyOf Tryz.f98) = some (zsh, 0) := by kernel_rfl
def zsi : List (Nat × Option (Nat × Bool)) := [(2, none)]
def zmI (fuel : Nat) (x0 : List (List Int)) (x1 : List Int) (x2 : LP) (x3 : Int) (x4 : Int) (x5 : LP) (x6 : Int) : Option ((Bool × Unit) × Unit) :=
 Option.bind (zbd fuel ((x0, ()), ())) fun y_1 =>
 cond (y_1.1.1)
 (Option.bind (zb0 fuel ((x1, ()), ())) fun y_3 =>
 cond (y_3.1.1)
 (Option.bind (zb3 fuel ((x2, x3, x4, ()), ())) fun y_5 =>
 cond (y_5.1.1)
 (Option.bind (zbb fuel ((x5, x6, ()), ())) fun y_7 =>
 cond (y_7.1.1)
 (Option.bind (ziw fuel ((x0, ()), ())) fun y_9 =>
 cond (y_9.1.1 == x4)
 (cond (x4 == x6)
 (some (((decide ((zz (List.length x1)) > (0 : Int)) == decide (x4 > (0 : Int)), ()), ())))
 (some (((false, ()), ()))))
 (some (((false, ()), ()))))
 (some (((false, ()), ()))))
 (some (((false, ()), ()))))
 (some (((false, ()), ()))))
 (some (((false, ()), ())))
def zb4 (fuel : Nat) (x : (SumY × Unit)) : Option ((Bool × Unit) × Unit) := zmI fuel x.1.1 x.1.2.1 x.1.2.2.1 x.1.2.2.2.1 x.1.2.2.2.2.1 x.1.2.2.2.2.2.1 x.1.2.2.2.2.2.2.1
theorem zEm (fuel : Nat) (x : PsT zmH) : run (zse fuel) 0 fuel zsh (env0 (svPs zmH x) 0) [] (endF zsi zsf) = zb4 fuel x := by kernel_rfl
def zmJ (fuel : Nat) : TF := ⟨zmH, zsf, true, zb4 fuel⟩
theorem zEn (fuel : Nat) : FnSpec Tryz.prog 98 (zmJ fuel) :=
  fn_spec (T := zse fuel) (c := bodyOf Tryz.f98) (fn := Tryz.f98) (TabOK.of (entCons (zmC fuel) (entCons (zr1 fuel) (entCons (zr8 fuel) (entCons (zrQ fuel) (entCons (zEk fuel) entNil))))) (methNil)) mixed (by kernel_rfl) (by kernel_rfl) zEl (by kernel_rfl) (Nat.le_of_ble_eq_true (by kernel_rfl)) (rv := zsi) (by kernel_rfl) (zEm fuel)
theorem zEo (fuel : Nat) : EntryOK Tryz.prog 98 (zmJ fuel).te := EntryOK.tf rfl (zEn fuel) (isFn (fn := Tryz.f98) (by kernel_rfl) (by kernel_rfl) (by kernel_rfl))
def zsj (fuel : Nat) : Tab := Tab.of [] []
abbrev zsk : Sh := (.agg (.cell (Kd.list (Kd.list I6)) 5 .nil) .nil)
abbrev zsl : Sh := (.agg (.cell (Kd.list (Kd.list I6)) 5 .nil) .nil)
def zsm : List Norm := [{ live := [4, 1, 3, 2], fix := [] }]
noncomputable def zsn : C := irOf Tryz.prog Tryz.f146 [21] zsm []
theorem zEp : lightC Tryz.prog [21] Tryz.f146.ntmps zsm [] 0 (bodyOf Tryz.f146) = some (zsn, 1) := by kernel_rfl
def zso : List (Nat × Option (Nat × Bool)) := [(2, some (1, true))]
def zd8 (fuel : Nat) (x0 : List Int) (x1 : List Int) (x2 : List Int) : Option (((List (List Int)) × Unit) × Unit) :=
 tst (decide (0 + List.length x0 < LIM)) <|
 tst (decide (0 + List.length x1 < LIM)) <|
 tst (decide (0 + List.length x2 < LIM)) <|
 some ((([[] ++ x0, [] ++ x1, [] ++ x2], ()), ()))
def zmK (fuel : Nat) (x : (((List (List Int)) × Unit) × Unit)) : Option (((List (List Int)) × Unit) × Unit) := lit3 x.1.1 fun x0 x1 x2 => zd8 fuel x0 x1 x2
theorem zEq (fuel : Nat) (x0 : List Int) (x1 : List Int) (x2 : List Int) : run (zsj fuel) 0 (fuel + 6) zsn (env0 (svS zsk (([x0, x1, x2], ()), ())) 0) [] (endG zso zsl) = zd8 fuel x0 x1 x2 := by kernel_rfl
def zmL (fuel : Nat) : TG := ⟨zsk, zsl, true, zmK fuel⟩
theorem zEr (fuel : Nat) : FnSpecG Tryz.prog 146 (zmL fuel) :=
  ze (T := zsj fuel) (c := bodyOf Tryz.f146) (fn := Tryz.f146) (TabOK.of (entNil) (methNil)) mixed (by kernel_rfl) (by kernel_rfl) zEp (by kernel_rfl) (Nat.le_of_ble_eq_true (by kernel_rfl)) (rv := zso) (by kernel_rfl) (fun x y h => by
    obtain ⟨⟨l0, ⟨⟩⟩, ⟨⟩⟩ := x
    obtain ⟨x0, x1, x2, rfl, h⟩ := zrc (show lit3 l0 (fun x0 x1 x2 => zd8 fuel x0 x1 x2) = some y from h)
    exact (zEq fuel x0 x1 x2).trans h)
theorem zEs (fuel : Nat) : EntryOK Tryz.prog 146 (zmL fuel).te := EntryOK.tg rfl (zEr fuel) (isFn (fn := Tryz.f146) (by kernel_rfl) (by kernel_rfl) (by kernel_rfl))
abbrev zbe := Option (((List Int) × Unit) × Unit)
def zd9 (fuel : Nat) : Tab := Tab.of [] []
abbrev zix : List Pm := [{ cs := [(Kd.list I6, false)], ag := false }, { cs := [(I6, false)], ag := false }]
abbrev zea : List Pm := [{ cs := [(Kd.list I6, true)], ag := false }]
def zsp : List Norm := [{ live := [7, 0, 6, 1, 5], fix := [(5, none, I6, true)] }]
noncomputable def zeb : C := irOf Tryz.prog Tryz.f147 [] zsp []
theorem zEt : lightC Tryz.prog [] Tryz.f147.ntmps zsp [] 0 (bodyOf Tryz.f147) = some (zeb, 1) := by kernel_rfl
def zec : List (Nat × Option (Nat × Bool)) := [(4, none)]
abbrev zb5 := (Int) × (List Int) × (Bool) × (Int) × (List Int)
def zsq (v : zb5) : Env × Heap := ([(7, SV.int .i64 v.1), (0, SV.es I6 v.2.1), (6, SV.bool v.2.2.1), (1, SV.int .i64 v.2.2.2.1), (5, SV.own 0)], [Blk.arr I6 v.2.2.2.2 0])
def zed (fuel : Nat) (g0 : zb5 → zbe) (v : zb5) : zbe :=
 cond (decide (v.1 < (zz (List.length v.2.1))))
 (cond (!v.2.2.1)
 (tst (decide (0 ≤ v.1)) <|
 tst (decide (v.1 < (zz (List.length v.2.1)))) <|
 cond (decide (List.getD v.2.1 (Int.toNat v.1) 0 ≥ v.2.2.2.1))
 (tst (decide (List.length v.2.2.2.2 + 1 < LIM)) <|
 tst (decide (0 ≤ v.1)) <|
 tst (decide (v.1 < (zz (List.length v.2.1)))) <|
 cond (List.getD v.2.1 (Int.toNat v.1) 0 != v.2.2.2.1)
 (tst (decide (0 ≤ v.1)) <|
 tst (decide (v.1 < (zz (List.length v.2.1)))) <|
 tst (decide (List.length (v.2.2.2.2 ++ [v.2.2.2.1]) + 1 < LIM)) <|
 g0 (w64 (v.1 + (1 : Int)), v.2.1, true, v.2.2.2.1, v.2.2.2.2 ++ [v.2.2.2.1] ++ [List.getD v.2.1 (Int.toNat v.1) 0]))
 (g0 (w64 (v.1 + (1 : Int)), v.2.1, true, v.2.2.2.1, v.2.2.2.2 ++ [v.2.2.2.1])))
 (tst (decide (0 ≤ v.1)) <|
 tst (decide (v.1 < (zz (List.length v.2.1)))) <|
 cond (List.getD v.2.1 (Int.toNat v.1) 0 != v.2.2.2.1)
 (tst (decide (0 ≤ v.1)) <|
 tst (decide (v.1 < (zz (List.length v.2.1)))) <|
 tst (decide (List.length v.2.2.2.2 + 1 < LIM)) <|
 g0 (w64 (v.1 + (1 : Int)), v.2.1, v.2.2.1, v.2.2.2.1, v.2.2.2.2 ++ [List.getD v.2.1 (Int.toNat v.1) 0]))
 (g0 (w64 (v.1 + (1 : Int)), v.2.1, v.2.2.1, v.2.2.2.1, v.2.2.2.2))))
 (tst (decide (0 ≤ v.1)) <|
 tst (decide (v.1 < (zz (List.length v.2.1)))) <|
 cond (List.getD v.2.1 (Int.toNat v.1) 0 != v.2.2.2.1)
 (tst (decide (0 ≤ v.1)) <|
 tst (decide (v.1 < (zz (List.length v.2.1)))) <|
 tst (decide (List.length v.2.2.2.2 + 1 < LIM)) <|
 g0 (w64 (v.1 + (1 : Int)), v.2.1, v.2.2.1, v.2.2.2.1, v.2.2.2.2 ++ [List.getD v.2.1 (Int.toNat v.1) 0]))
 (g0 (w64 (v.1 + (1 : Int)), v.2.1, v.2.2.1, v.2.2.2.1, v.2.2.2.2))))
 (cond (!v.2.2.1)
 (tst (decide (List.length v.2.2.2.2 + 1 < LIM)) <|
 tst (decide (0 ≤ if (6 : Int) < (zz (List.length (v.2.2.2.2 ++ [v.2.2.2.1]))) then (6 : Int) else (zz (List.length (v.2.2.2.2 ++ [v.2.2.2.1]))))) <|
 tst (decide ((if (6 : Int) < (zz (List.length (v.2.2.2.2 ++ [v.2.2.2.1]))) then (6 : Int) else (zz (List.length (v.2.2.2.2 ++ [v.2.2.2.1])))) ≤ (zz (List.length (v.2.2.2.2 ++ [v.2.2.2.1]))))) <|
 some (((List.take (Int.toNat (if (6 : Int) < (zz (List.length (v.2.2.2.2 ++ [v.2.2.2.1]))) then (6 : Int) else (zz (List.length (v.2.2.2.2 ++ [v.2.2.2.1])))) - 0) (List.drop 0 (v.2.2.2.2 ++ [v.2.2.2.1])), ()), ())))
 (tst (decide (0 ≤ if (6 : Int) < (zz (List.length v.2.2.2.2)) then (6 : Int) else (zz (List.length v.2.2.2.2)))) <|
 tst (decide ((if (6 : Int) < (zz (List.length v.2.2.2.2)) then (6 : Int) else (zz (List.length v.2.2.2.2))) ≤ (zz (List.length v.2.2.2.2)))) <|
 some (((List.take (Int.toNat (if (6 : Int) < (zz (List.length v.2.2.2.2)) then (6 : Int) else (zz (List.length v.2.2.2.2))) - 0) (List.drop 0 v.2.2.2.2), ()), ()))))
def zee (fuel : Nat) (g0 : zb5 → zbe) : zb5 → zbe := zed fuel g0
theorem zEu (fuel : Nat) (G) : zeb.lp (zd9 fuel) 0 fuel G (endF zec zea) 0 zsq = iter (zee fuel) fuel := C.lp_iter fun g v => by kernel_rfl
def zsr (fuel : Nat) (X0 : zb5 → zbe) (x0 : List Int) (x1 : Int) : zbe :=
 X0 ((0 : Int), x0, false, x1, [])
def zb6 (fuel : Nat) (x : (((List Int) × Unit) × ((Int × Unit) × Unit))) : zbe := zsr fuel (iter (zee fuel) fuel) x.1.1 x.2.1.1
theorem zEv (fuel : Nat) (x : PsT zix) : run (zd9 fuel) 0 fuel zeb (env0 (svPs zix x) 0) [] (endF zec zea) = zb6 fuel x :=
  (show run (zd9 fuel) 0 fuel zeb (env0 (svPs zix x) 0) [] (endF zec zea) = zsr fuel (zeb.lp (zd9 fuel) 0 fuel (fun _ _ _ => none) (endF zec zea) 0 zsq) x.1.1 x.2.1.1 by kernel_rfl).trans (by rw [zEu]; rfl)
def zmM (fuel : Nat) : TF := ⟨zix, zea, true, zb6 fuel⟩
theorem zEw (fuel : Nat) : FnSpec Tryz.prog 147 (zmM fuel) :=
  fn_spec (T := zd9 fuel) (c := bodyOf Tryz.f147) (fn := Tryz.f147) (TabOK.of (entNil) (methNil)) mixed (by kernel_rfl) (by kernel_rfl) zEt (by kernel_rfl) (Nat.le_of_ble_eq_true (by kernel_rfl)) (rv := zec) (by kernel_rfl) (zEv fuel)
theorem zEx (fuel : Nat) : EntryOK Tryz.prog 147 (zmM fuel).te := EntryOK.tf rfl (zEw fuel) (isFn (fn := Tryz.f147) (by kernel_rfl) (by kernel_rfl) (by kernel_rfl))
abbrev zbf := Option ((LP × Unit) × Unit)
def zef (fuel : Nat) : Tab := Tab.of [] []
abbrev ziy : List Pm := [{ cs := [(Kd.list KP, false)], ag := false }, { cs := [(I6, false), (I6, false)], ag := true }]
abbrev zeg : List Pm := [{ cs := [(Kd.list KP, true)], ag := false }]
def zss : List Norm := [{ live := [7, 0, 6, 3, 5], fix := [(5, none, KP, true)] }]
noncomputable def zeh : C := irOf Tryz.prog Tryz.f148 [] zss []
theorem zEy : lightC Tryz.prog [] Tryz.f148.ntmps zss [] 0 (bodyOf Tryz.f148) = some (zeh, 1) := by kernel_rfl
def zei : List (Nat × Option (Nat × Bool)) := [(4, none)]
abbrev zb7 := (Int) × LP × (Bool) × (Int) × (Int) × LP
def zst (v : zb7) : Env × Heap := ([(7, SV.int .i64 v.1), (0, SV.es KP v.2.1), (6, SV.bool v.2.2.1), (3, SV.ptr 0 0), (5, SV.own 1)], [Blk.cells [SV.int .i64 v.2.2.2.1, SV.int .i64 v.2.2.2.2.1] 0 2, Blk.arr KP v.2.2.2.2.2 0])
def zej (fuel : Nat) (g0 : zb7 → zbf) (v : zb7) : zbf :=
 cond (decide (v.1 < (zz (List.length v.2.1))))
 (cond (!v.2.2.1)
 (tst (decide (0 ≤ v.1)) <|
 tst (decide (v.1 < (zz (List.length v.2.1)))) <|
 cond (decide ((List.getD v.2.1 (Int.toNat v.1) (0, (0, ()))).1 ≥ v.2.2.2.1))
 (tst (decide (0 ≤ v.1)) <|
 tst (decide (v.1 < (zz (List.length v.2.1)))) <|
 cond ((List.getD v.2.1 (Int.toNat v.1) (0, (0, ()))).1 == v.2.2.2.1)
 (tst (decide (0 ≤ v.1)) <|
 tst (decide (v.1 < (zz (List.length v.2.1)))) <|
 tst (decide (List.length v.2.2.2.2.2 + 1 < LIM)) <|
 g0 (w64 (v.1 + (1 : Int)), v.2.1, true, v.2.2.2.1, v.2.2.2.2.1, v.2.2.2.2.2 ++ [(v.2.2.2.1, w64 (v.2.2.2.2.1 + (List.getD v.2.1 (Int.toNat v.1) (0, (0, ()))).2.1), ())]))
 (tst (decide (List.length v.2.2.2.2.2 + 1 < LIM)) <|
 tst (decide (0 ≤ v.1)) <|
 tst (decide (v.1 < (zz (List.length v.2.1)))) <|
 tst (decide (List.length (v.2.2.2.2.2 ++ [(v.2.2.2.1, v.2.2.2.2.1, ())]) + 1 < LIM)) <|
 g0 (w64 (v.1 + (1 : Int)), v.2.1, true, v.2.2.2.1, v.2.2.2.2.1, v.2.2.2.2.2 ++ [(v.2.2.2.1, v.2.2.2.2.1, ())] ++ [((List.getD v.2.1 (Int.toNat v.1) (0, (0, ()))).1, (List.getD v.2.1 (Int.toNat v.1) (0, (0, ()))).2.1, ())])))
 (tst (decide (0 ≤ v.1)) <|
 tst (decide (v.1 < (zz (List.length v.2.1)))) <|
 tst (decide (List.length v.2.2.2.2.2 + 1 < LIM)) <|
 g0 (w64 (v.1 + (1 : Int)), v.2.1, v.2.2.1, v.2.2.2.1, v.2.2.2.2.1, v.2.2.2.2.2 ++ [((List.getD v.2.1 (Int.toNat v.1) (0, (0, ()))).1, (List.getD v.2.1 (Int.toNat v.1) (0, (0, ()))).2.1, ())])))
 (tst (decide (0 ≤ v.1)) <|
 tst (decide (v.1 < (zz (List.length v.2.1)))) <|
 tst (decide (List.length v.2.2.2.2.2 + 1 < LIM)) <|
 g0 (w64 (v.1 + (1 : Int)), v.2.1, v.2.2.1, v.2.2.2.1, v.2.2.2.2.1, v.2.2.2.2.2 ++ [((List.getD v.2.1 (Int.toNat v.1) (0, (0, ()))).1, (List.getD v.2.1 (Int.toNat v.1) (0, (0, ()))).2.1, ())])))
 (cond (!v.2.2.1)
 (tst (decide (List.length v.2.2.2.2.2 + 1 < LIM)) <|
 some (((v.2.2.2.2.2 ++ [(v.2.2.2.1, v.2.2.2.2.1, ())], ()), ())))
 (some (((v.2.2.2.2.2, ()), ()))))
def zek (fuel : Nat) (g0 : zb7 → zbf) : zb7 → zbf := zej fuel g0
theorem zEz (fuel : Nat) (G) : zeh.lp (zef fuel) 0 fuel G (endF zei zeg) 0 zst = iter (zek fuel) fuel := C.lp_iter fun g v => by kernel_rfl
def zsu (fuel : Nat) (X0 : zb7 → zbf) (x0 : LP) (x1 : Int) (x2 : Int) : zbf :=
 X0 ((0 : Int), x0, false, x1, x2, [])
def zbg (fuel : Nat) (x : ((LP × Unit) × ((Int × (Int × Unit)) × Unit))) : zbf := zsu fuel (iter (zek fuel) fuel) x.1.1 x.2.1.1 x.2.1.2.1
theorem zEA (fuel : Nat) (x : PsT ziy) : run (zef fuel) 0 fuel zeh (env0 (svPs ziy x) 0) [] (endF zei zeg) = zbg fuel x :=
  (show run (zef fuel) 0 fuel zeh (env0 (svPs ziy x) 0) [] (endF zei zeg) = zsu fuel (zeh.lp (zef fuel) 0 fuel (fun _ _ _ => none) (endF zei zeg) 0 zst) x.1.1 x.2.1.1 x.2.1.2.1 by kernel_rfl).trans (by rw [zEz]; rfl)
def zmN (fuel : Nat) : TF := ⟨ziy, zeg, true, zbg fuel⟩
theorem zEB (fuel : Nat) : FnSpec Tryz.prog 148 (zmN fuel) :=
  fn_spec (T := zef fuel) (c := bodyOf Tryz.f148) (fn := Tryz.f148) (TabOK.of (entNil) (methNil)) mixed (by kernel_rfl) (by kernel_rfl) zEy (by kernel_rfl) (Nat.le_of_ble_eq_true (by kernel_rfl)) (rv := zei) (by kernel_rfl) (zEA fuel)
theorem zEC (fuel : Nat) : EntryOK Tryz.prog 148 (zmN fuel).te := EntryOK.tf rfl (zEB fuel) (isFn (fn := Tryz.f148) (by kernel_rfl) (by kernel_rfl) (by kernel_rfl))
def zL (fuel : Nat) : Tab := Tab.of [] []
abbrev ziz : List Pm := [{ cs := [(Kd.list KP, false)], ag := false }]
abbrev zah : List Pm := [{ cs := [(I6, false)], ag := false }]
def zsv : List Norm := [{ live := [4, 0, 3], fix := [] }, { live := [6, 0, 4, 5, 3], fix := [] }]
noncomputable def zu : C := irOf Tryz.prog Tryz.f186 [] zsv []
theorem zED : lightC Tryz.prog [] Tryz.f186.ntmps zsv [] 0 (bodyOf Tryz.f186) = some (zu, 2) := by kernel_rfl
def zai : List (Nat × Option (Nat × Bool)) := [(2, none)]
abbrev zaJ := (Int) × LP × (Int)
abbrev zb8 := (Int) × LP × (Int) × (Int) × (Int)
def zW (v : zaJ) : Env × Heap := ([(4, SV.int .i64 v.1), (0, SV.es KP v.2.1), (3, SV.int .i64 v.2.2)], [])
def zb9 (v : zb8) : Env × Heap := ([(6, SV.int .i64 v.1), (0, SV.es KP v.2.1), (4, SV.int .i64 v.2.2.1), (5, SV.int .i64 v.2.2.2.1), (3, SV.int .i64 v.2.2.2.2)], [])
def zca (fuel : Nat) (g0 : zaJ → Option ((Int × Unit) × Unit)) (g1 : zb8 → Option ((Int × Unit) × Unit)) (v : zb8) : Option ((Int × Unit) × Unit) :=
 cond (decide (v.1 < (zz (List.length v.2.1))))
 (tst (decide (0 ≤ v.1)) <|
 tst (decide (v.1 < (zz (List.length v.2.1)))) <|
 tst (decide (0 ≤ v.2.2.1)) <|
 tst (decide (v.2.2.1 < (zz (List.length v.2.1)))) <|
 cond (decide ((List.getD v.2.1 (Int.toNat v.1) (0, (0, ()))).2.1 ≥ (List.getD v.2.1 (Int.toNat v.2.2.1) (0, (0, ()))).2.1))
 (g1 (w64 (v.1 + (1 : Int)), v.2.1, v.2.2.1, w64 (v.2.2.2.1 + (1 : Int)), v.2.2.2.2))
 (g1 (w64 (v.1 + (1 : Int)), v.2.1, v.2.2.1, v.2.2.2.1, v.2.2.2.2)))
 (cond (decide (v.2.2.2.1 > (4 : Int)))
 (tst (decide (0 ≤ v.2.2.1)) <|
 tst (decide (v.2.2.1 < (zz (List.length v.2.1)))) <|
 g0 (w64 (v.2.2.1 + (1 : Int)), v.2.1, if (List.getD v.2.1 (Int.toNat v.2.2.1) (0, (0, ()))).2.1 > v.2.2.2.2 then (List.getD v.2.1 (Int.toNat v.2.2.1) (0, (0, ()))).2.1 else v.2.2.2.2))
 (g0 (w64 (v.2.2.1 + (1 : Int)), v.2.1, v.2.2.2.2)))
def zmO (fuel : Nat) (g0 : zaJ → Option ((Int × Unit) × Unit)) (g1 : zb8 → Option ((Int × Unit) × Unit)) : zb8 → Option ((Int × Unit) × Unit) := zca fuel g0 g1
theorem zEE (fuel : Nat) (G) : zu.lp (zL fuel) 0 fuel G (endF zai zah) 1 zb9 = iter (zmO fuel (fun v => G 0 (zW v).1 (zW v).2)) fuel := C.lp_iter fun g v =>
  (show run (zL fuel) 0 fuel (zu.bdAt 1) (zb9 v).1 (zb9 v).2 (loopK 0 (zu.nmAt 1) g (zu.contAt (zL fuel) 0 fuel G 0 1 (endF zai zah))) = zca fuel (fun v => G 0 (zW v).1 (zW v).2) (fun v => g (zb9 v).1 (zb9 v).2) v by kernel_rfl)
def zcb (fuel : Nat) (X1 : zb8 → Option ((Int × Unit) × Unit)) (g0 : zaJ → Option ((Int × Unit) × Unit)) (v : zaJ) : Option ((Int × Unit) × Unit) :=
 cond (decide (v.1 < (zz (List.length v.2.1))))
 (X1 ((0 : Int), v.2.1, v.1, (0 : Int), v.2.2))
 (some (((v.2.2, ()), ())))
def ziA (fuel : Nat) (g0 : zaJ → Option ((Int × Unit) × Unit)) : zaJ → Option ((Int × Unit) × Unit) := zcb fuel (iter (zmO fuel g0) fuel) g0
theorem zEF (fuel : Nat) (G) : zu.lp (zL fuel) 0 fuel G (endF zai zah) 0 zW = iter (ziA fuel) fuel := C.lp_iter fun g v =>
  (show run (zL fuel) 0 fuel (zu.bdAt 0) (zW v).1 (zW v).2 (loopK 0 (zu.nmAt 0) g (zu.contAt (zL fuel) 0 fuel G 0 0 (endF zai zah))) = zcb fuel (zu.lp (zL fuel) 0 fuel (fun m => bif Nat.beq m 0 then g else G m) (endF zai zah) 1 zb9) (fun v => g (zW v).1 (zW v).2) v by kernel_rfl).trans (by rw [zEE]; rfl)
def zsw (fuel : Nat) (X0 : zaJ → Option ((Int × Unit) × Unit)) (x0 : LP) : Option ((Int × Unit) × Unit) :=
 X0 ((0 : Int), x0, (0 : Int))
def ziB (fuel : Nat) (x : ((LP × Unit) × Unit)) : Option ((Int × Unit) × Unit) := zsw fuel (iter (ziA fuel) fuel) x.1.1
theorem zEG (fuel : Nat) (x : PsT ziz) : run (zL fuel) 0 fuel zu (env0 (svPs ziz x) 0) [] (endF zai zah) = ziB fuel x :=
  (show run (zL fuel) 0 fuel zu (env0 (svPs ziz x) 0) [] (endF zai zah) = zsw fuel (zu.lp (zL fuel) 0 fuel (fun _ _ _ => none) (endF zai zah) 0 zW) x.1.1 by kernel_rfl).trans (by rw [zEF]; rfl)
def zmP (fuel : Nat) : TF := ⟨ziz, zah, true, ziB fuel⟩
theorem zEH (fuel : Nat) : FnSpec Tryz.prog 186 (zmP fuel) :=
  fn_spec (T := zL fuel) (c := bodyOf Tryz.f186) (fn := Tryz.f186) (TabOK.of (entNil) (methNil)) mixed (by kernel_rfl) (by kernel_rfl) zED (by kernel_rfl) (Nat.le_of_ble_eq_true (by kernel_rfl)) (rv := zai) (by kernel_rfl) (zEG fuel)
theorem zEI (fuel : Nat) : EntryOK Tryz.prog 186 (zmP fuel).te := EntryOK.tf rfl (zEH fuel) (isFn (fn := Tryz.f186) (by kernel_rfl) (by kernel_rfl) (by kernel_rfl))
abbrev zbh := Option ((LP × Unit) × Unit)
def zel (fuel : Nat) : Tab := Tab.of [] []
abbrev ziC : List Pm := [{ cs := [(Kd.list KP, false)], ag := false }, { cs := [(I6, false)], ag := false }]
abbrev zem : List Pm := [{ cs := [(Kd.list KP, true)], ag := false }]
def zsx : List Norm := [{ live := [6, 0, 1, 5], fix := [(5, none, KP, true)] }]
noncomputable def zen : C := irOf Tryz.prog Tryz.f187 [] zsx []
theorem zEJ : lightC Tryz.prog [] Tryz.f187.ntmps zsx [] 0 (bodyOf Tryz.f187) = some (zen, 1) := by kernel_rfl
def zeo : List (Nat × Option (Nat × Bool)) := [(4, none)]
abbrev zcc := (Int) × LP × (Int) × LP
def zsy (v : zcc) : Env × Heap := ([(6, SV.int .i64 v.1), (0, SV.es KP v.2.1), (1, SV.int .i64 v.2.2.1), (5, SV.own 0)], [Blk.arr KP v.2.2.2 0])
def zep (fuel : Nat) (g0 : zcc → zbh) (v : zcc) : zbh :=
 cond (decide (v.1 < (zz (List.length v.2.1))))
 (tst (decide (0 ≤ v.1)) <|
 tst (decide (v.1 < (zz (List.length v.2.1)))) <|
 cond (decide ((List.getD v.2.1 (Int.toNat v.1) (0, (0, ()))).2.1 > v.2.2.1))
 (tst (decide (0 ≤ v.1)) <|
 tst (decide (v.1 < (zz (List.length v.2.1)))) <|
 tst (decide (0 ≤ v.1)) <|
 tst (decide (v.1 < (zz (List.length v.2.1)))) <|
 tst (decide (List.length v.2.2.2 + 1 < LIM)) <|
 g0 (w64 (v.1 + (1 : Int)), v.2.1, v.2.2.1, v.2.2.2 ++ [((List.getD v.2.1 (Int.toNat v.1) (0, (0, ()))).1, w64 ((List.getD v.2.1 (Int.toNat v.1) (0, (0, ()))).2.1 - v.2.2.1), ())]))
 (g0 (w64 (v.1 + (1 : Int)), v.2.1, v.2.2.1, v.2.2.2)))
 (some (((v.2.2.2, ()), ())))
def zeq (fuel : Nat) (g0 : zcc → zbh) : zcc → zbh := zep fuel g0
theorem zEK (fuel : Nat) (G) : zen.lp (zel fuel) 0 fuel G (endF zeo zem) 0 zsy = iter (zeq fuel) fuel := C.lp_iter fun g v => by kernel_rfl
def zsz (fuel : Nat) (X0 : zcc → zbh) (x0 : LP) (x1 : Int) : zbh :=
 X0 ((0 : Int), x0, x1, [])
def ziD (fuel : Nat) (x : ((LP × Unit) × ((Int × Unit) × Unit))) : zbh := zsz fuel (iter (zeq fuel) fuel) x.1.1 x.2.1.1
theorem zEL (fuel : Nat) (x : PsT ziC) : run (zel fuel) 0 fuel zen (env0 (svPs ziC x) 0) [] (endF zeo zem) = ziD fuel x :=
  (show run (zel fuel) 0 fuel zen (env0 (svPs ziC x) 0) [] (endF zeo zem) = zsz fuel (zen.lp (zel fuel) 0 fuel (fun _ _ _ => none) (endF zeo zem) 0 zsy) x.1.1 x.2.1.1 by kernel_rfl).trans (by rw [zEK]; rfl)
def zmQ (fuel : Nat) : TF := ⟨ziC, zem, true, ziD fuel⟩
theorem zEM (fuel : Nat) : FnSpec Tryz.prog 187 (zmQ fuel) :=
  fn_spec (T := zel fuel) (c := bodyOf Tryz.f187) (fn := Tryz.f187) (TabOK.of (entNil) (methNil)) mixed (by kernel_rfl) (by kernel_rfl) zEJ (by kernel_rfl) (Nat.le_of_ble_eq_true (by kernel_rfl)) (rv := zeo) (by kernel_rfl) (zEL fuel)
theorem zEN (fuel : Nat) : EntryOK Tryz.prog 187 (zmQ fuel).te := EntryOK.tf rfl (zEM fuel) (isFn (fn := Tryz.f187) (by kernel_rfl) (by kernel_rfl) (by kernel_rfl))
def zsA (fuel : Nat) : Tab := Tab.of [(186, (zmP fuel).te), (187, (zmQ fuel).te)] []
abbrev zmR : List Pm := [{ cs := [(Kd.list KP, false), (I6, false), (I6, false)], ag := true }]
abbrev zsB : List Pm := [{ cs := [(Kd.list KP, true), (I6, false), (I6, false)], ag := true }]
def zsC : List Norm := []
noncomputable def zsD : C := irOf Tryz.prog Tryz.f149 [] zsC []
theorem zEO : lightC Tryz.prog [] Tryz.f149.ntmps zsC [] 0 (bodyOf Tryz.f149) = some (zsD, 0) := by kernel_rfl
def zsE : List (Nat × Option (Nat × Bool)) := [(2, some (3, true))]
def zmS (fuel : Nat) (x0 : LP) (x1 : Int) (x2 : Int) : Option ((LP × (Int × (Int × Unit))) × Unit) :=
 Option.bind (ziB fuel ((x0, ()), ())) fun y_1 =>
 Option.bind (ziD fuel ((x0, ()), (y_1.1.1, ()), ())) fun y_2 =>
 some (((y_2.1.1, w64 (x1 + y_1.1.1), x2, ()), ()))
def zbi (fuel : Nat) (x : ((LP × (Int × (Int × Unit))) × Unit)) : Option ((LP × (Int × (Int × Unit))) × Unit) := zmS fuel x.1.1 x.1.2.1 x.1.2.2.1
theorem zEP (fuel : Nat) (x : PsT zmR) : run (zsA fuel) 0 fuel zsD (env0 (svPs zmR x) 0) [] (endF zsE zsB) = zbi fuel x := by kernel_rfl
def zmT (fuel : Nat) : TF := ⟨zmR, zsB, true, zbi fuel⟩
theorem zEQ (fuel : Nat) : FnSpec Tryz.prog 149 (zmT fuel) :=
  fn_spec (T := zsA fuel) (c := bodyOf Tryz.f149) (fn := Tryz.f149) (TabOK.of (entCons (zEI fuel) (entCons (zEN fuel) entNil)) (methNil)) mixed (by kernel_rfl) (by kernel_rfl) zEO (by kernel_rfl) (Nat.le_of_ble_eq_true (by kernel_rfl)) (rv := zsE) (by kernel_rfl) (zEP fuel)
theorem zER (fuel : Nat) : EntryOK Tryz.prog 149 (zmT fuel).te := EntryOK.tf rfl (zEQ fuel) (isFn (fn := Tryz.f149) (by kernel_rfl) (by kernel_rfl) (by kernel_rfl))
abbrev zbj := Option (((List Int) × Unit) × Unit)
def zer (fuel : Nat) : Tab := Tab.of [] []
abbrev ziE : List Pm := [{ cs := [(Kd.list KP, false)], ag := false }]
abbrev zes : List Pm := [{ cs := [(Kd.list I6, true)], ag := false }]
def zsF : List Norm := [{ live := [4, 0, 3], fix := [] }]
noncomputable def zet : C := irOf Tryz.prog Tryz.f150 [] zsF []
theorem zES : lightC Tryz.prog [] Tryz.f150.ntmps zsF [] 0 (bodyOf Tryz.f150) = some (zet, 1) := by kernel_rfl
def zeu : List (Nat × Option (Nat × Bool)) := [(2, none)]
abbrev zcd := (Int) × LP × (List Int)
def zsG (v : zcd) : Env × Heap := ([(4, SV.int .i64 v.1), (0, SV.es KP v.2.1), (3, SV.own 0)], [Blk.arr I6 v.2.2 0])
def zev (fuel : Nat) (g0 : zcd → zbj) (v : zcd) : zbj :=
 cond (decide (v.1 < (zz (List.length v.2.1))))
 (tst (decide (0 ≤ v.1)) <|
 tst (decide (v.1 < (zz (List.length v.2.1)))) <|
 tst (decide (0 ≤ v.1)) <|
 tst (decide (v.1 < (zz (List.length v.2.1)))) <|
 tst (decide (0 ≤ (List.getD v.2.1 (Int.toNat v.1) (0, (0, ()))).1)) <|
 tst (decide ((List.getD v.2.1 (Int.toNat v.1) (0, (0, ()))).1 < (zz (List.length v.2.2)))) <|
 tst (decide (Int.toNat (List.getD v.2.1 (Int.toNat v.1) (0, (0, ()))).1 < List.length v.2.2)) <|
 tst (decide (0 ≤ v.1)) <|
 tst (decide (v.1 < (zz (List.length v.2.1)))) <|
 tst (decide (0 ≤ (List.getD v.2.1 (Int.toNat v.1) (0, (0, ()))).1)) <|
 tst (decide ((List.getD v.2.1 (Int.toNat v.1) (0, (0, ()))).1 < (zz (List.length v.2.2)))) <|
 tst (decide (Int.toNat (List.getD v.2.1 (Int.toNat v.1) (0, (0, ()))).1 < List.length v.2.2)) <|
 g0 (w64 (v.1 + (1 : Int)), v.2.1, List.set v.2.2 (Int.toNat (List.getD v.2.1 (Int.toNat v.1) (0, (0, ()))).1) (w64 (List.getD v.2.2 (Int.toNat (List.getD v.2.1 (Int.toNat v.1) (0, (0, ()))).1) 0 + (List.getD v.2.1 (Int.toNat v.1) (0, (0, ()))).2.1))))
 (some (((v.2.2, ()), ())))
def ziF (fuel : Nat) (g0 : zcd → zbj) : zcd → zbj := zev fuel g0
theorem zET (fuel : Nat) (G) : zet.lp (zer fuel) 0 fuel G (endF zeu zes) 0 zsG = iter (ziF fuel) fuel := C.lp_iter fun g v => by kernel_rfl
def zmU (fuel : Nat) (X0 : zcd → zbj) (x0 : LP) : zbj :=
 X0 ((0 : Int), x0, List.replicate (Int.toNat (128 : Int)) 0)
def zew (fuel : Nat) (x : ((LP × Unit) × Unit)) : zbj := zmU fuel (iter (ziF fuel) fuel) x.1.1
theorem zEU (fuel : Nat) (x : PsT ziE) : run (zer fuel) 0 fuel zet (env0 (svPs ziE x) 0) [] (endF zeu zes) = zew fuel x :=
  (show run (zer fuel) 0 fuel zet (env0 (svPs ziE x) 0) [] (endF zeu zes) = zmU fuel (zet.lp (zer fuel) 0 fuel (fun _ _ _ => none) (endF zeu zes) 0 zsG) x.1.1 by kernel_rfl).trans (by rw [zET]; rfl)
def zmV (fuel : Nat) : TF := ⟨ziE, zes, true, zew fuel⟩
theorem zEV (fuel : Nat) : FnSpec Tryz.prog 150 (zmV fuel) :=
  fn_spec (T := zer fuel) (c := bodyOf Tryz.f150) (fn := Tryz.f150) (TabOK.of (entNil) (methNil)) mixed (by kernel_rfl) (by kernel_rfl) zES (by kernel_rfl) (Nat.le_of_ble_eq_true (by kernel_rfl)) (rv := zeu) (by kernel_rfl) (zEU fuel)
theorem zEW (fuel : Nat) : EntryOK Tryz.prog 150 (zmV fuel).te := EntryOK.tf rfl (zEV fuel) (isFn (fn := Tryz.f150) (by kernel_rfl) (by kernel_rfl) (by kernel_rfl))
end Go.Proofs.YtdgdoeknpakmlaaGreat.Den
namespace Go.Proofs.YtdgdoeknpakmlaaGreat.Den
open Go Go.RowKit
abbrev zbk := Option ((LP × Unit) × Unit)
def zex (fuel : Nat) : Tab := Tab.of [] []
abbrev ziG : List Pm := [{ cs := [(Kd.list I6, false)], ag := false }]
abbrev zey : List Pm := [{ cs := [(Kd.list KP, true)], ag := false }]
def zsH : List Norm := [{ live := [4, 0, 3], fix := [(3, none, KP, true)] }]
noncomputable def zez : C := irOf Tryz.prog Tryz.f151 [] zsH []
theorem zEX : lightC Tryz.prog [] Tryz.f151.ntmps zsH [] 0 (bodyOf Tryz.f151) = some (zez, 1) := by kernel_rfl
def zeA : List (Nat × Option (Nat × Bool)) := [(2, none)]
abbrev zce := (Int) × (List Int) × LP
def zsI (v : zce) : Env × Heap := ([(4, SV.int .i64 v.1), (0, SV.es I6 v.2.1), (3, SV.own 0)], [Blk.arr KP v.2.2 0])
def zeB (fuel : Nat) (g0 : zce → zbk) (v : zce) : zbk :=
 cond (decide (v.1 < (zz (List.length v.2.1))))
 (tst (decide (0 ≤ v.1)) <|
 tst (decide (v.1 < (zz (List.length v.2.1)))) <|
 cond (decide (List.getD v.2.1 (Int.toNat v.1) 0 > (0 : Int)))
 (tst (decide (0 ≤ v.1)) <|
 tst (decide (v.1 < (zz (List.length v.2.1)))) <|
 tst (decide (List.length v.2.2 + 1 < LIM)) <|
 g0 (w64 (v.1 + (1 : Int)), v.2.1, v.2.2 ++ [(v.1, List.getD v.2.1 (Int.toNat v.1) 0, ())]))
 (g0 (w64 (v.1 + (1 : Int)), v.2.1, v.2.2)))
 (some (((v.2.2, ()), ())))
def ziH (fuel : Nat) (g0 : zce → zbk) : zce → zbk := zeB fuel g0
theorem zEY (fuel : Nat) (G) : zez.lp (zex fuel) 0 fuel G (endF zeA zey) 0 zsI = iter (ziH fuel) fuel := C.lp_iter fun g v => by kernel_rfl
def zmW (fuel : Nat) (X0 : zce → zbk) (x0 : List Int) : zbk :=
 X0 ((1 : Int), x0, [])
def zeC (fuel : Nat) (x : (((List Int) × Unit) × Unit)) : zbk := zmW fuel (iter (ziH fuel) fuel) x.1.1
theorem zEZ (fuel : Nat) (x : PsT ziG) : run (zex fuel) 0 fuel zez (env0 (svPs ziG x) 0) [] (endF zeA zey) = zeC fuel x :=
  (show run (zex fuel) 0 fuel zez (env0 (svPs ziG x) 0) [] (endF zeA zey) = zmW fuel (zez.lp (zex fuel) 0 fuel (fun _ _ _ => none) (endF zeA zey) 0 zsI) x.1.1 by kernel_rfl).trans (by rw [zEY]; rfl)
def zmX (fuel : Nat) : TF := ⟨ziG, zey, true, zeC fuel⟩
theorem zE0 (fuel : Nat) : FnSpec Tryz.prog 151 (zmX fuel) :=
  fn_spec (T := zex fuel) (c := bodyOf Tryz.f151) (fn := Tryz.f151) (TabOK.of (entNil) (methNil)) mixed (by kernel_rfl) (by kernel_rfl) zEX (by kernel_rfl) (Nat.le_of_ble_eq_true (by kernel_rfl)) (rv := zeA) (by kernel_rfl) (zEZ fuel)
theorem zE1 (fuel : Nat) : EntryOK Tryz.prog 151 (zmX fuel).te := EntryOK.tf rfl (zE0 fuel) (isFn (fn := Tryz.f151) (by kernel_rfl) (by kernel_rfl) (by kernel_rfl))
def zeD (fuel : Nat) : Tab := Tab.of [] []
abbrev ziI : List Pm := [{ cs := [(I6, false)], ag := false }]
abbrev zeE : List Pm := []
def zsJ : List Norm := [{ live := [5, 0, 1], fix := [] }]
noncomputable def zeF : C := irOf Tryz.prog Tryz.f152 [] zsJ []
theorem zE2 : lightC Tryz.prog [] Tryz.f152.ntmps zsJ [] 0 (bodyOf Tryz.f152) = some (zeF, 1) := by kernel_rfl
def zeG : List (Nat × Option (Nat × Bool)) := [(4, none)]
abbrev zcf := (Int) × (Int) × (List Int)
def zsK (v : zcf) : Env × Heap := ([(5, SV.int .i64 v.1), (0, SV.own 0), (1, SV.int .i64 v.2.1)], [Blk.arr I6 v.2.2 0])
def zeH (fuel : Nat) (g0 : zcf → Option ((List Int) × Unit)) (v : zcf) : Option ((List Int) × Unit) :=
 cond (decide (v.1 ≥ (2 : Int)))
 (tst (decide (0 ≤ v.1)) <|
 tst (decide (v.1 < (zz (List.length v.2.2)))) <|
 tst (decide (Int.toNat v.1 < List.length v.2.2)) <|
 tst (decide (0 ≤ w64 (v.1 + (1 : Int)))) <|
 tst (decide (w64 (v.1 + (1 : Int)) < (zz (List.length v.2.2)))) <|
 tst (decide (Int.toNat (w64 (v.1 + (1 : Int))) < List.length v.2.2)) <|
 cond (decide (w64 (List.getD v.2.2 (Int.toNat v.1) 0 + List.getD v.2.2 (Int.toNat (w64 (v.1 + (1 : Int)))) 0) > (0 : Int)))
 (tst (decide (0 ≤ w64 (Int.tdiv v.1 (2 : Int)))) <|
 tst (decide (w64 (Int.tdiv v.1 (2 : Int)) < (zz (List.length v.2.2)))) <|
 tst (decide (Int.toNat (w64 (Int.tdiv v.1 (2 : Int))) < List.length v.2.2)) <|
 cond (decide (w64 (w64 (List.getD v.2.2 (Int.toNat v.1) 0 + List.getD v.2.2 (Int.toNat (w64 (v.1 + (1 : Int)))) 0) + List.getD v.2.2 (Int.toNat (w64 (Int.tdiv v.1 (2 : Int)))) 0) ≤ w64 (Int.tdiv v.2.1 (8 : Int))))
 (tst (decide (0 ≤ w64 (Int.tdiv v.1 (2 : Int)))) <|
 tst (decide (w64 (Int.tdiv v.1 (2 : Int)) < (zz (List.length v.2.2)))) <|
 tst (decide (Int.toNat (w64 (Int.tdiv v.1 (2 : Int))) < List.length v.2.2)) <|
 tst (decide (0 ≤ w64 (Int.tdiv v.1 (2 : Int)))) <|
 tst (decide (w64 (Int.tdiv v.1 (2 : Int)) < (zz (List.length v.2.2)))) <|
 tst (decide (Int.toNat (w64 (Int.tdiv v.1 (2 : Int))) < List.length v.2.2)) <|
 tst (decide (0 ≤ v.1)) <|
 tst (decide (v.1 < (zz (List.length (List.set v.2.2 (Int.toNat (w64 (Int.tdiv v.1 (2 : Int)))) (w64 (List.getD v.2.2 (Int.toNat (w64 (Int.tdiv v.1 (2 : Int)))) 0 + w64 (List.getD v.2.2 (Int.toNat v.1) 0 + List.getD v.2.2 (Int.toNat (w64 (v.1 + (1 : Int)))) 0)))))))) <|
 tst (decide (Int.toNat v.1 < List.length (List.set v.2.2 (Int.toNat (w64 (Int.tdiv v.1 (2 : Int)))) (w64 (List.getD v.2.2 (Int.toNat (w64 (Int.tdiv v.1 (2 : Int)))) 0 + w64 (List.getD v.2.2 (Int.toNat v.1) 0 + List.getD v.2.2 (Int.toNat (w64 (v.1 + (1 : Int)))) 0)))))) <|
 tst (decide (0 ≤ w64 (v.1 + (1 : Int)))) <|
 tst (decide (w64 (v.1 + (1 : Int)) < (zz (List.length (List.set (List.set v.2.2 (Int.toNat (w64 (Int.tdiv v.1 (2 : Int)))) (w64 (List.getD v.2.2 (Int.toNat (w64 (Int.tdiv v.1 (2 : Int)))) 0 + w64 (List.getD v.2.2 (Int.toNat v.1) 0 + List.getD v.2.2 (Int.toNat (w64 (v.1 + (1 : Int)))) 0)))) (Int.toNat v.1) (0 : Int)))))) <|
 tst (decide (Int.toNat (w64 (v.1 + (1 : Int))) < List.length (List.set (List.set v.2.2 (Int.toNat (w64 (Int.tdiv v.1 (2 : Int)))) (w64 (List.getD v.2.2 (Int.toNat (w64 (Int.tdiv v.1 (2 : Int)))) 0 + w64 (List.getD v.2.2 (Int.toNat v.1) 0 + List.getD v.2.2 (Int.toNat (w64 (v.1 + (1 : Int)))) 0)))) (Int.toNat v.1) (0 : Int)))) <|
 g0 (w64 (v.1 - (2 : Int)), v.2.1, List.set (List.set (List.set v.2.2 (Int.toNat (w64 (Int.tdiv v.1 (2 : Int)))) (w64 (List.getD v.2.2 (Int.toNat (w64 (Int.tdiv v.1 (2 : Int)))) 0 + w64 (List.getD v.2.2 (Int.toNat v.1) 0 + List.getD v.2.2 (Int.toNat (w64 (v.1 + (1 : Int)))) 0)))) (Int.toNat v.1) (0 : Int)) (Int.toNat (w64 (v.1 + (1 : Int)))) (0 : Int)))
 (g0 (w64 (v.1 - (2 : Int)), v.2.1, v.2.2)))
 (g0 (w64 (v.1 - (2 : Int)), v.2.1, v.2.2)))
 (some ((v.2.2, ())))
def ziJ (fuel : Nat) (g0 : zcf → Option ((List Int) × Unit)) : zcf → Option ((List Int) × Unit) := zeH fuel g0
theorem zE3 (fuel : Nat) (G) : zeF.lp (zeD fuel) 1 fuel G (endS zeG I6 true zeE) 0 zsK = iter (ziJ fuel) fuel := C.lp_iter fun g v => by kernel_rfl
def zmY (fuel : Nat) (X0 : zcf → Option ((List Int) × Unit)) (d0 : List Int) (x0 : Int) : Option ((List Int) × Unit) :=
 X0 (w64 ((zz (List.length d0)) - (2 : Int)), x0, d0)
def zeI (fuel : Nat) (z : (List Int) × Unit × ((Int × Unit) × Unit)) : Option ((List Int) × Unit) := zmY fuel (iter (ziJ fuel) fuel) z.1 z.2.2.1.1
theorem zE4 (fuel : Nat) (c : List (Kd.T I6)) (d : CsT []) (x : PsT ziI) : run (zeD fuel) 1 fuel zeF ((0, firstV false 0 (svCs [] d)) :: env0 (svPs ziI x) 1) [.arr I6 c 0] (endS zeG I6 true zeE) = zeI fuel (c, d, x) :=
  (show run (zeD fuel) 1 fuel zeF ((0, firstV false 0 (svCs [] d)) :: env0 (svPs ziI x) 1) [.arr I6 c 0] (endS zeG I6 true zeE) = zmY fuel (zeF.lp (zeD fuel) 1 fuel (fun _ _ _ => none) (endS zeG I6 true zeE) 0 zsK) c x.1.1 by kernel_rfl).trans (by rw [zE3]; rfl)
def zmZ (fuel : Nat) : TFS := ⟨I6, false, [], ziI, zeE, true, zeI fuel⟩
theorem zE5 (fuel : Nat) : FnSpecS Tryz.prog 152 (zmZ fuel) :=
  zl7 (T := zeD fuel) (c := bodyOf Tryz.f152) (fn := Tryz.f152) (TabOK.of (entNil) (methNil)) mixed (by kernel_rfl) (by kernel_rfl) zE2 (by kernel_rfl) (Nat.le_of_ble_eq_true (by kernel_rfl)) (rv := zeG) (by kernel_rfl) (zE4 fuel)
theorem zE6 (fuel : Nat) : EntryOK Tryz.prog 152 (zmZ fuel).te := EntryOK.tfs (zE5 fuel) (isFn (fn := Tryz.f152) (by kernel_rfl) (by kernel_rfl) (by kernel_rfl))
def zsL (fuel : Nat) : Tab := Tab.of [] []
abbrev zm0 : Sh := (.agg (.cell (Kd.list (Kd.list I6)) 0 (.cell (Kd.list I6) 0 (.cell (Kd.list KP) 0 (.cell I6 0 (.cell I6 0 (.cell (Kd.list KP) 0 (.cell I6 0 .nil))))))) .nil)
abbrev zsM : Sh := (.agg (.ifc 27 (.agg (.cell (Kd.list (Kd.list I6)) 0 .nil) .nil) (.ifc 29 (.agg (.cell (Kd.list I6) 0 .nil) .nil) (.ifc 32 (.agg (.cell (Kd.list KP) 0 (.cell I6 0 (.cell I6 0 .nil))) .nil) (.ifc 35 (.agg (.cell (Kd.list KP) 0 (.cell I6 0 .nil)) .nil) .nil)))) .nil)
def zsN : List Norm := []
noncomputable def zsO : C := irOf Tryz.prog Tryz.f82 [] zsN []
theorem zE7 : lightC Tryz.prog [] Tryz.f82.ntmps zsN [] 0 (bodyOf Tryz.f82) = some (zsO, 0) := by kernel_rfl
def zsP : List (Nat × Option (Nat × Bool)) := [(2, some (4, true))]
def zE8 (fuel : Nat) (x0 : List (List Int)) (x1 : List Int) (x2 : LP) (x3 : Int) (x4 : Int) (x5 : LP) (x6 : Int) : Option (((((List (List Int)) × Unit) × Unit) × ((((List Int) × Unit) × Unit) × (((LP × (Int × (Int × Unit))) × Unit) × (((LP × (Int × Unit)) × Unit) × Unit)))) × Unit) :=
 some (((((x0, ()), ()), ((x1, ()), ()), ((x2, x3, x4, ()), ()), ((x5, x6, ()), ()), ()), ()))
def zX (fuel : Nat) (x : (SumY × Unit)) : Option (((((List (List Int)) × Unit) × Unit) × ((((List Int) × Unit) × Unit) × (((LP × (Int × (Int × Unit))) × Unit) × (((LP × (Int × Unit)) × Unit) × Unit)))) × Unit) := zE8 fuel x.1.1 x.1.2.1 x.1.2.2.1 x.1.2.2.2.1 x.1.2.2.2.2.1 x.1.2.2.2.2.2.1 x.1.2.2.2.2.2.2.1
theorem zE9 (fuel : Nat) (x : Sh.T zm0) : run (zsL fuel) 0 fuel zsO (env0 (svS zm0 x) 0) [] (endG zsP zsM) = zX fuel x := by kernel_rfl
def zeJ (fuel : Nat) : TG := ⟨zm0, zsM, false, zX fuel⟩
theorem zFa (fuel : Nat) : FnSpecG Tryz.prog 82 (zeJ fuel) :=
  ze (T := zsL fuel) (c := bodyOf Tryz.f82) (fn := Tryz.f82) (TabOK.of (entNil) (methNil)) mixed (by kernel_rfl) (by kernel_rfl) zE7 (by kernel_rfl) (Nat.le_of_ble_eq_true (by kernel_rfl)) (rv := zsP) (by kernel_rfl) (fun x y h => (zE9 fuel x).trans h)
theorem zm1 (fuel : Nat) : EntryOK Tryz.prog 82 (zeJ fuel).te := EntryOK.tg rfl (zFa fuel) (isFn (fn := Tryz.f82) (by kernel_rfl) (by kernel_rfl) (by kernel_rfl))
def zsQ (fuel : Nat) : Tab := Tab.of [] []
abbrev zm2 : Sh := (.agg (.ifc 27 (.agg (.cell (Kd.list (Kd.list I6)) 0 .nil) .nil) (.ifc 29 (.agg (.cell (Kd.list I6) 0 .nil) .nil) (.ifc 32 (.agg (.cell (Kd.list KP) 0 (.cell I6 0 (.cell I6 0 .nil))) .nil) (.ifc 35 (.agg (.cell (Kd.list KP) 0 (.cell I6 0 .nil)) .nil) .nil)))) .nil)
abbrev zsR : Sh := (.agg (.cell (Kd.list (Kd.list I6)) 0 (.cell (Kd.list I6) 0 (.cell (Kd.list KP) 0 (.cell I6 0 (.cell I6 0 (.cell (Kd.list KP) 0 (.cell I6 0 .nil))))))) .nil)
def zsS : List Norm := [{ live := [11, 10, 3, 2], fix := [] }]
noncomputable def zsT : C := irOf Tryz.prog Tryz.f104 [] zsS []
theorem zFb : lightC Tryz.prog [] Tryz.f104.ntmps zsS [] 0 (bodyOf Tryz.f104) = some (zsT, 1) := by kernel_rfl
def zsU : List (Nat × Option (Nat × Bool)) := [(2, some (7, true))]
def zFc (fuel : Nat) (x0 : List (List Int)) (x1 : List Int) (x2 : LP) (x3 : Int) (x4 : Int) (x5 : LP) (x6 : Int) : Option (SumY × Unit) :=
 some (((x0, x1, x2, x3, x4, x5, x6, ()), ()))
def zm3 (fuel : Nat) (x : (((((List (List Int)) × Unit) × Unit) × ((((List Int) × Unit) × Unit) × (((LP × (Int × (Int × Unit))) × Unit) × (((LP × (Int × Unit)) × Unit) × Unit)))) × Unit)) : Option (SumY × Unit) := zFc fuel x.1.1.1.1 x.1.2.1.1.1 x.1.2.2.1.1.1 x.1.2.2.1.1.2.1 x.1.2.2.1.1.2.2.1 x.1.2.2.2.1.1.1 x.1.2.2.2.1.1.2.1
theorem zFd (fuel : Nat) (x : Sh.T zm2) : run (zsQ fuel) 0 (fuel + 6) zsT (env0 (svS zm2 x) 0) [] (endG zsU zsR) = zm3 fuel x := by kernel_rfl
def zm4 (fuel : Nat) : TG := ⟨zm2, zsR, false, zm3 fuel⟩
theorem zFe (fuel : Nat) : FnSpecG Tryz.prog 104 (zm4 fuel) :=
  ze (T := zsQ fuel) (c := bodyOf Tryz.f104) (fn := Tryz.f104) (TabOK.of (entNil) (methNil)) mixed (by kernel_rfl) (by kernel_rfl) zFb (by kernel_rfl) (Nat.le_of_ble_eq_true (by kernel_rfl)) (rv := zsU) (by kernel_rfl) (fun x y h => (zFd fuel x).trans h)
theorem zFf (fuel : Nat) : EntryOK Tryz.prog 104 (zm4 fuel).te := EntryOK.tg rfl (zFe fuel) (isFn (fn := Tryz.f104) (by kernel_rfl) (by kernel_rfl) (by kernel_rfl))
abbrev zbl := Option ((Int × Unit) × ((Bool × Unit) × Unit))
def zeK (fuel : Nat) : Tab := Tab.of [] []
abbrev ziK : List Pm := [{ cs := [(Kd.list I6, false)], ag := false }]
abbrev zeL : List Pm := [{ cs := [(I6, false)], ag := false }, { cs := [(Kd.bool, false)], ag := false }]
def zsV : List Norm := [{ live := [12, 11, 10, 4], fix := [] }]
noncomputable def zeM : C := irOf Tryz.prog Tryz.f91 [] zsV []
theorem zFg : lightC Tryz.prog [] Tryz.f91.ntmps zsV [] 0 (bodyOf Tryz.f91) = some (zeM, 1) := by kernel_rfl
def zeN : List (Nat × Option (Nat × Bool)) := [(2, none), (3, none)]
abbrev zcg := (Int) × (Int) × (List Int) × (Int)
def zsW (v : zcg) : Env × Heap := ([(12, SV.int .i64 v.1), (11, SV.int .i64 v.2.1), (10, SV.es I6 v.2.2.1), (4, SV.int .i64 v.2.2.2)], [])
def zeO (fuel : Nat) (g0 : zcg → zbl) (v : zcg) : zbl :=
 cond (decide (v.1 < v.2.1))
 (tst (decide (0 ≤ v.1)) <|
 tst (decide (v.1 < (zz (List.length v.2.2.1)))) <|
 cond (decide (List.getD v.2.2.1 (Int.toNat v.1) 0 < (0 : Int)))
 (some ((((0 : Int), ()), (false, ()), ())))
 (cond (decide (List.getD v.2.2.1 (Int.toNat v.1) 0 > (2000 : Int)))
 (some ((((0 : Int), ()), (false, ()), ())))
 (g0 (w64 (v.1 + (1 : Int)), v.2.1, v.2.2.1, w64 (v.2.2.2 + List.getD v.2.2.1 (Int.toNat v.1) 0)))))
 (some (((v.2.2.2, ()), (decide (v.2.2.2 ≤ (2000 : Int)), ()), ())))
def ziL (fuel : Nat) (g0 : zcg → zbl) : zcg → zbl := zeO fuel g0
theorem zFh (fuel : Nat) (G) : zeM.lp (zeK fuel) 0 fuel G (endF zeN zeL) 0 zsW = iter (ziL fuel) fuel := C.lp_iter fun g v => by kernel_rfl
def ziM (fuel : Nat) (X0 : zcg → zbl) (x0 : List Int) : zbl :=
 cond ((zz (List.length x0)) != (8 : Int))
 (some ((((0 : Int), ()), (false, ()), ())))
 (X0 ((0 : Int), (zz (List.length x0)), x0, (0 : Int)))
def zch (fuel : Nat) (x : (((List Int) × Unit) × Unit)) : zbl := ziM fuel (iter (ziL fuel) fuel) x.1.1
theorem zFi (fuel : Nat) (x : PsT ziK) : run (zeK fuel) 0 fuel zeM (env0 (svPs ziK x) 0) [] (endF zeN zeL) = zch fuel x :=
  (show run (zeK fuel) 0 fuel zeM (env0 (svPs ziK x) 0) [] (endF zeN zeL) = ziM fuel (zeM.lp (zeK fuel) 0 fuel (fun _ _ _ => none) (endF zeN zeL) 0 zsW) x.1.1 by kernel_rfl).trans (by rw [zFh]; rfl)
def ziN (fuel : Nat) : TF := ⟨ziK, zeL, true, zch fuel⟩
theorem zFj (fuel : Nat) : FnSpec Tryz.prog 91 (ziN fuel) :=
  fn_spec (T := zeK fuel) (c := bodyOf Tryz.f91) (fn := Tryz.f91) (TabOK.of (entNil) (methNil)) mixed (by kernel_rfl) (by kernel_rfl) zFg (by kernel_rfl) (Nat.le_of_ble_eq_true (by kernel_rfl)) (rv := zeN) (by kernel_rfl) (zFi fuel)
theorem zsX (fuel : Nat) : EntryOK Tryz.prog 91 (ziN fuel).te := EntryOK.tf rfl (zFj fuel) (isFn (fn := Tryz.f91) (by kernel_rfl) (by kernel_rfl) (by kernel_rfl))
def zeP (fuel : Nat) : Tab := Tab.of [(91, (ziN fuel).te)] []
abbrev ziO : List Pm := [{ cs := [(Kd.list (Kd.list I6), false)], ag := true }]
abbrev zeQ : List Pm := [{ cs := [(Kd.bool, false)], ag := false }]
def zsY : List Norm := [{ live := [24, 23, 22, 3], fix := [] }]
noncomputable def zeR : C := irOf Tryz.prog Tryz.f89 [] zsY []
theorem zFk : lightC Tryz.prog [] Tryz.f89.ntmps zsY [] 0 (bodyOf Tryz.f89) = some (zeR, 1) := by kernel_rfl
def zeS : List (Nat × Option (Nat × Bool)) := [(2, none)]
abbrev zci := (Int) × (Int) × (List (List Int)) × (Int)
def zsZ (v : zci) : Env × Heap := ([(24, SV.int .i64 v.1), (23, SV.int .i64 v.2.1), (22, SV.es (Kd.list I6) v.2.2.1), (3, SV.int .i64 v.2.2.2)], [])
def zeT (fuel : Nat) (g0 : zci → Option ((Bool × Unit) × Unit)) (v : zci) : Option ((Bool × Unit) × Unit) :=
 cond (decide (v.1 < v.2.1))
 (tst (decide (0 ≤ v.1)) <|
 tst (decide (v.1 < (zz (List.length v.2.2.1)))) <|
 Option.bind (zch fuel ((List.getD v.2.2.1 (Int.toNat v.1) [], ()), ())) fun y_2 =>
 cond (!y_2.2.1.1)
 (some (((false, ()), ())))
 (cond (y_2.1.1 != v.2.2.2)
 (some (((false, ()), ())))
 (g0 (w64 (v.1 + (1 : Int)), v.2.1, v.2.2.1, v.2.2.2))))
 (some (((true, ()), ())))
def ziP (fuel : Nat) (g0 : zci → Option ((Bool × Unit) × Unit)) : zci → Option ((Bool × Unit) × Unit) := zeT fuel g0
theorem zFl (fuel : Nat) (G) : zeR.lp (zeP fuel) 0 fuel G (endF zeS zeQ) 0 zsZ = iter (ziP fuel) fuel := C.lp_iter fun g v => by kernel_rfl
def ziQ (fuel : Nat) (X0 : zci → Option ((Bool × Unit) × Unit)) (x0 : List (List Int)) : Option ((Bool × Unit) × Unit) :=
 cond ((zz (List.length x0)) != (3 : Int))
 (some (((false, ()), ())))
 (tst (decide ((0 : Int) < (zz (List.length x0)))) <|
 Option.bind (zch fuel ((List.getD x0 (Int.toNat (0 : Int)) [], ()), ())) fun y_2 =>
 X0 ((0 : Int), (zz (List.length x0)), x0, y_2.1.1))
def zaj (fuel : Nat) (x : (((List (List Int)) × Unit) × Unit)) : Option ((Bool × Unit) × Unit) := ziQ fuel (iter (ziP fuel) fuel) x.1.1
theorem zFm (fuel : Nat) (x : PsT ziO) : run (zeP fuel) 0 fuel zeR (env0 (svPs ziO x) 0) [] (endF zeS zeQ) = zaj fuel x :=
  (show run (zeP fuel) 0 fuel zeR (env0 (svPs ziO x) 0) [] (endF zeS zeQ) = ziQ fuel (zeR.lp (zeP fuel) 0 fuel (fun _ _ _ => none) (endF zeS zeQ) 0 zsZ) x.1.1 by kernel_rfl).trans (by rw [zFl]; rfl)
def zcj (fuel : Nat) : TF := ⟨ziO, zeQ, true, zaj fuel⟩
theorem zFn (fuel : Nat) : FnSpec Tryz.prog 89 (zcj fuel) :=
  fn_spec (T := zeP fuel) (c := bodyOf Tryz.f89) (fn := Tryz.f89) (TabOK.of (entCons (zsX fuel) entNil) (methNil)) mixed (by kernel_rfl) (by kernel_rfl) zFk (by kernel_rfl) (Nat.le_of_ble_eq_true (by kernel_rfl)) (rv := zeS) (by kernel_rfl) (zFm fuel)
theorem ziR (fuel : Nat) : EntryOK Tryz.prog 89 (zcj fuel).te := EntryOK.tf rfl (zFn fuel) (isFn (fn := Tryz.f89) (by kernel_rfl) (by kernel_rfl) (by kernel_rfl))
end Go.Proofs.YtdgdoeknpakmlaaGreat.Den
namespace Go.Proofs.YtdgdoeknpakmlaaGreat.Den
open Go Go.RowKit
def zs0 (fuel : Nat) : Tab := Tab.of [(89, (zcj fuel).te), (91, (ziN fuel).te)] []
abbrev zm5 : List Pm := [{ cs := [(Kd.list (Kd.list I6), false)], ag := true }]
abbrev zs1 : List Pm := [{ cs := [(I6, false)], ag := false }]
def zs2 : List Norm := []
noncomputable def zs3 : C := irOf Tryz.prog Tryz.f47 [] zs2 []
theorem zFo : lightC Tryz.prog [] Tryz.f47.ntmps zs2 [] 0 (bodyOf Tryz.f47) = some (zs3, 0) := by kernel_rfl
def zs4 : List (Nat × Option (Nat × Bool)) := [(2, none)]
def zm6 (fuel : Nat) (x0 : List (List Int)) : Option ((Int × Unit) × Unit) :=
 Option.bind (zaj fuel ((x0, ()), ())) fun y_1 =>
 cond (!y_1.1.1)
 (some ((((-1 : Int), ()), ())))
 (tst (decide ((0 : Int) < (zz (List.length x0)))) <|
 Option.bind (zch fuel ((List.getD x0 (Int.toNat (0 : Int)) [], ()), ())) fun y_3 =>
 some (((y_3.1.1, ()), ())))
def zaK (fuel : Nat) (x : (((List (List Int)) × Unit) × Unit)) : Option ((Int × Unit) × Unit) := zm6 fuel x.1.1
theorem zFp (fuel : Nat) (x : PsT zm5) : run (zs0 fuel) 0 fuel zs3 (env0 (svPs zm5 x) 0) [] (endF zs4 zs1) = zaK fuel x := by kernel_rfl
def zeU (fuel : Nat) : TF := ⟨zm5, zs1, true, zaK fuel⟩
theorem zFq (fuel : Nat) : FnSpec Tryz.prog 47 (zeU fuel) :=
  fn_spec (T := zs0 fuel) (c := bodyOf Tryz.f47) (fn := Tryz.f47) (TabOK.of (entCons (ziR fuel) (entCons (zsX fuel) entNil)) (methNil)) mixed (by kernel_rfl) (by kernel_rfl) zFo (by kernel_rfl) (Nat.le_of_ble_eq_true (by kernel_rfl)) (rv := zs4) (by kernel_rfl) (zFp fuel)
theorem zm7 (fuel : Nat) : EntryOK Tryz.prog 47 (zeU fuel).te := EntryOK.tf rfl (zFq fuel) (isFn (fn := Tryz.f47) (by kernel_rfl) (by kernel_rfl) (by kernel_rfl))
def zs5 (fuel : Nat) : Tab := Tab.of [] []
abbrev zm8 : List Pm := [{ cs := [(I6, false)], ag := false }, { cs := [(I6, false)], ag := false }]
abbrev zs6 : List Pm := [{ cs := [(I6, false)], ag := false }]
def zs7 : List Norm := []
noncomputable def zs8 : C := irOf Tryz.prog Tryz.f163 [] zs7 []
theorem zFr : lightC Tryz.prog [] Tryz.f163.ntmps zs7 [] 0 (bodyOf Tryz.f163) = some (zs8, 0) := by kernel_rfl
def zs9 : List (Nat × Option (Nat × Bool)) := [(4, none)]
def zFs (fuel : Nat) (x0 : Int) (x1 : Int) : Option ((Int × Unit) × Unit) :=
 some (((w64 (x0 + x1), ()), ()))
def ziS (fuel : Nat) (x : ((Int × Unit) × ((Int × Unit) × Unit))) : Option ((Int × Unit) × Unit) := zFs fuel x.1.1 x.2.1.1
theorem zFt (fuel : Nat) (x : PsT zm8) : run (zs5 fuel) 0 fuel zs8 (env0 (svPs zm8 x) 0) [] (endF zs9 zs6) = ziS fuel x := by kernel_rfl
def zm9 (fuel : Nat) : TF := ⟨zm8, zs6, true, ziS fuel⟩
theorem zFu (fuel : Nat) : FnSpec Tryz.prog 163 (zm9 fuel) :=
  fn_spec (T := zs5 fuel) (c := bodyOf Tryz.f163) (fn := Tryz.f163) (TabOK.of (entNil) (methNil)) mixed (by kernel_rfl) (by kernel_rfl) zFr (by kernel_rfl) (Nat.le_of_ble_eq_true (by kernel_rfl)) (rv := zs9) (by kernel_rfl) (zFt fuel)
theorem zFv (fuel : Nat) : EntryOK Tryz.prog 163 (zm9 fuel).te := EntryOK.tf rfl (zFu fuel) (isFn (fn := Tryz.f163) (by kernel_rfl) (by kernel_rfl) (by kernel_rfl))
def zeV (fuel : Nat) : Tab := Tab.of [(163, (zm9 fuel).te)] []
abbrev ziT : Sh := (.cell (Kd.list I6) 0 (.cell (Kd.list I6) 0 (.fnc 163 .nil)))
abbrev zeW : Sh := (.cell (Kd.list I6) 1 .nil)
def zta : List Norm := [{ live := [14, 13, 7, 2, 0, 1], fix := [] }]
noncomputable def zeX : C := irOf Tryz.prog Tryz.f162 [] zta []
theorem zFw : lightC Tryz.prog [] Tryz.f162.ntmps zta [] 0 (bodyOf Tryz.f162) = some (zeX, 1) := by kernel_rfl
def zeY : List (Nat × Option (Nat × Bool)) := [(6, none)]
abbrev zck := (Int) × (Int) × (List Int) × (List Int) × (List Int)
def ztb (v : zck) : Env × Heap := ([(14, SV.int .i64 v.1), (13, SV.int .i64 v.2.1), (7, SV.own 0), (2, SV.fn (Fn.func 163) [] []), (0, SV.es I6 v.2.2.1), (1, SV.es I6 v.2.2.2.1)], [Blk.arr I6 v.2.2.2.2 0])
def zeZ (fuel : Nat) (g0 : zck → Option ((List Int) × Unit)) (v : zck) : Option ((List Int) × Unit) :=
 cond (decide (v.1 < v.2.1))
 (tst (decide (0 ≤ v.1)) <|
 tst (decide (v.1 < (zz (List.length v.2.2.1)))) <|
 tst (decide (0 ≤ v.1)) <|
 tst (decide (v.1 < (zz (List.length v.2.2.2.1)))) <|
 Option.bind (ziS fuel ((List.getD v.2.2.1 (Int.toNat v.1) 0, ()), (List.getD v.2.2.2.1 (Int.toNat v.1) 0, ()), ())) fun y_2 =>
 tst (decide (0 ≤ v.1)) <|
 tst (decide (v.1 < (zz (List.length v.2.2.2.2)))) <|
 tst (decide (Int.toNat v.1 < List.length v.2.2.2.2)) <|
 g0 (w64 (v.1 + (1 : Int)), v.2.1, v.2.2.1, v.2.2.2.1, List.set v.2.2.2.2 (Int.toNat v.1) y_2.1.1))
 (some ((v.2.2.2.2, ())))
def ziU (fuel : Nat) (g0 : zck → Option ((List Int) × Unit)) : zck → Option ((List Int) × Unit) := zeZ fuel g0
theorem zFx (fuel : Nat) (G) : zeX.lp (zeV fuel) 0 fuel G (endG zeY zeW) 0 ztb = iter (ziU fuel) fuel := C.lp_iter fun g v => by kernel_rfl
def ziV (fuel : Nat) (X0 : zck → Option ((List Int) × Unit)) (x0 : List Int) (x1 : List Int) : Option ((List Int) × Unit) :=
 tst (decide (0 ≤ (zz (List.length x0)))) <|
 tst (decide ((zz (List.length x0)) ≤ (zz (List.length x0)))) <|
 tst (decide (Int.toNat (zz (List.length x0)) < LIM)) <|
 X0 ((0 : Int), (zz (List.length (List.replicate (Int.toNat (zz (List.length x0))) (Kd.dflt I6)))), x0, x1, List.replicate (Int.toNat (zz (List.length x0))) 0)
def ziW (fuel : Nat) (x : ((List Int) × ((List Int) × Unit))) : Option ((List Int) × Unit) := ziV fuel (iter (ziU fuel) fuel) x.1 x.2.1
theorem zFy (fuel : Nat) (x : Sh.T ziT) : run (zeV fuel) 0 fuel zeX (env0 (svS ziT x) 0) [] (endG zeY zeW) = ziW fuel x :=
  (show run (zeV fuel) 0 fuel zeX (env0 (svS ziT x) 0) [] (endG zeY zeW) = ziV fuel (zeX.lp (zeV fuel) 0 fuel (fun _ _ _ => none) (endG zeY zeW) 0 ztb) x.1 x.2.1 by kernel_rfl).trans (by rw [zFx]; rfl)
def zna (fuel : Nat) : TG := ⟨ziT, zeW, true, ziW fuel⟩
theorem zFz (fuel : Nat) : FnSpecG Tryz.prog 162 (zna fuel) :=
  ze (T := zeV fuel) (c := bodyOf Tryz.f162) (fn := Tryz.f162) (TabOK.of (entCons (zFv fuel) entNil) (methNil)) mixed (by kernel_rfl) (by kernel_rfl) zFw (by kernel_rfl) (Nat.le_of_ble_eq_true (by kernel_rfl)) (rv := zeY) (by kernel_rfl) (fun x y h => (zFy fuel x).trans h)
theorem zFA (fuel : Nat) : EntryOK Tryz.prog 162 (zna fuel).te := EntryOK.tg rfl (zFz fuel) (isFn (fn := Tryz.f162) (by kernel_rfl) (by kernel_rfl) (by kernel_rfl))
def ztc (fuel : Nat) : Tab := Tab.of [(162, (zna fuel).te)] []
abbrev znb : List Pm := [{ cs := [(Kd.list I6, false)], ag := false }, { cs := [(Kd.list I6, false)], ag := false }]
abbrev ztd : List Pm := [{ cs := [(Kd.list I6, true)], ag := false }]
def zte : List Norm := []
noncomputable def ztf : C := irOf Tryz.prog Tryz.f161 [] zte []
theorem zFB : lightC Tryz.prog [] Tryz.f161.ntmps zte [] 0 (bodyOf Tryz.f161) = some (ztf, 0) := by kernel_rfl
def ztg : List (Nat × Option (Nat × Bool)) := [(4, none)]
def znc (fuel : Nat) (x0 : List Int) (x1 : List Int) : Option (((List Int) × Unit) × Unit) :=
 Option.bind (ziW fuel (x0, x1, ())) fun y_1 =>
 some (((y_1.1, ()), ()))
def zcl (fuel : Nat) (x : (((List Int) × Unit) × (((List Int) × Unit) × Unit))) : Option (((List Int) × Unit) × Unit) := znc fuel x.1.1 x.2.1.1
theorem zFC (fuel : Nat) (x : PsT znb) : run (ztc fuel) 0 fuel ztf (env0 (svPs znb x) 0) [] (endF ztg ztd) = zcl fuel x := by kernel_rfl
def znd (fuel : Nat) : TF := ⟨znb, ztd, true, zcl fuel⟩
theorem zFD (fuel : Nat) : FnSpec Tryz.prog 161 (znd fuel) :=
  fn_spec (T := ztc fuel) (c := bodyOf Tryz.f161) (fn := Tryz.f161) (TabOK.of (entCons (zFA fuel) entNil) (methNil)) mixed (by kernel_rfl) (by kernel_rfl) zFB (by kernel_rfl) (Nat.le_of_ble_eq_true (by kernel_rfl)) (rv := ztg) (by kernel_rfl) (zFC fuel)
theorem zFE (fuel : Nat) : EntryOK Tryz.prog 161 (znd fuel).te := EntryOK.tf rfl (zFD fuel) (isFn (fn := Tryz.f161) (by kernel_rfl) (by kernel_rfl) (by kernel_rfl))
def zth (fuel : Nat) : Tab := Tab.of [(161, (znd fuel).te)] []
abbrev zti : Sh := (.cell (Kd.list (Kd.list I6)) 5 (.cell (Kd.list (Kd.list I6)) 5 (.fnc 161 .nil)))
abbrev ztj : Sh := (.cell (Kd.list (Kd.list I6)) 5 .nil)
def ztk : List Norm := [{ live := [14, 13, 7, 2, 0, 1], fix := [] }]
noncomputable def ztl : C := irOf Tryz.prog Tryz.f160 [11] ztk []
theorem zFF : lightC Tryz.prog [11] Tryz.f160.ntmps ztk [] 0 (bodyOf Tryz.f160) = some (ztl, 1) := by kernel_rfl
def ztm : List (Nat × Option (Nat × Bool)) := [(6, none)]
def zcm (fuel : Nat) (x0 : List Int) (x1 : List Int) (x2 : List Int) (x3 : List Int) (x4 : List Int) (x5 : List Int) : Option ((List (List Int)) × Unit) :=
 Option.bind (zcl fuel ((x0, ()), (x3, ()), ())) fun y_1 =>
 Option.bind (zcl fuel ((x1, ()), (x4, ()), ())) fun y_2 =>
 Option.bind (zcl fuel ((x2, ()), (x5, ()), ())) fun y_3 =>
 some (([y_1.1.1, y_2.1.1, y_3.1.1], ()))
def zne (fuel : Nat) (x : ((List (List Int)) × ((List (List Int)) × Unit))) : Option ((List (List Int)) × Unit) := lit3 x.1 fun x0 x1 x2 => lit3 x.2.1 fun x3 x4 x5 => zcm fuel x0 x1 x2 x3 x4 x5
theorem zFG (fuel : Nat) (x0 : List Int) (x1 : List Int) (x2 : List Int) (x3 : List Int) (x4 : List Int) (x5 : List Int) : run (zth fuel) 0 (fuel + 6) ztl (env0 (svS zti ([x0, x1, x2], [x3, x4, x5], ())) 0) [] (endG ztm ztj) = zcm fuel x0 x1 x2 x3 x4 x5 := by kernel_rfl
def znf (fuel : Nat) : TG := ⟨zti, ztj, true, zne fuel⟩
theorem zFH (fuel : Nat) : FnSpecG Tryz.prog 160 (znf fuel) :=
  ze (T := zth fuel) (c := bodyOf Tryz.f160) (fn := Tryz.f160) (TabOK.of (entCons (zFE fuel) entNil) (methNil)) mixed (by kernel_rfl) (by kernel_rfl) zFF (by kernel_rfl) (Nat.le_of_ble_eq_true (by kernel_rfl)) (rv := ztm) (by kernel_rfl) (fun x y h => by
    obtain ⟨l0, l1, ⟨⟩⟩ := x
    obtain ⟨x0, x1, x2, rfl, h⟩ := zrc (show lit3 l0 (fun x0 x1 x2 => lit3 l1 fun x3 x4 x5 => zcm fuel x0 x1 x2 x3 x4 x5) = some y from h)
    obtain ⟨x3, x4, x5, rfl, h⟩ := zrc (show lit3 l1 (fun x3 x4 x5 => zcm fuel x0 x1 x2 x3 x4 x5) = some y from h)
    exact (zFG fuel x0 x1 x2 x3 x4 x5).trans h)
theorem zFI (fuel : Nat) : EntryOK Tryz.prog 160 (znf fuel).te := EntryOK.tg rfl (zFH fuel) (isFn (fn := Tryz.f160) (by kernel_rfl) (by kernel_rfl) (by kernel_rfl))
def ztn (fuel : Nat) : Tab := Tab.of [(160, (znf fuel).te)] []
abbrev zng : Sh := (.agg (.cell (Kd.list (Kd.list I6)) 0 .nil) (.agg (.cell (Kd.list (Kd.list I6)) 0 .nil) .nil))
abbrev zto : Sh := (.agg (.cell (Kd.list (Kd.list I6)) 5 .nil) .nil)
def ztp : List Norm := []
noncomputable def ztq : C := irOf Tryz.prog Tryz.f112 [] ztp []
theorem zFJ : lightC Tryz.prog [] Tryz.f112.ntmps ztp [] 0 (bodyOf Tryz.f112) = some (ztq, 0) := by kernel_rfl
def ztr : List (Nat × Option (Nat × Bool)) := [(4, some (1, true))]
def znh (fuel : Nat) (x0 : List (List Int)) (x1 : List (List Int)) : Option (((List (List Int)) × Unit) × Unit) :=
 Option.bind (zne fuel (x0, x1, ())) fun y_1 =>
 some ((([List.getD y_1.1 0 [], List.getD y_1.1 1 [], List.getD y_1.1 2 []], ()), ()))
def ze0 (fuel : Nat) (x : (((List (List Int)) × Unit) × (((List (List Int)) × Unit) × Unit))) : Option (((List (List Int)) × Unit) × Unit) := znh fuel x.1.1 x.2.1.1
theorem zFK (fuel : Nat) (x : Sh.T zng) : run (ztn fuel) 0 fuel ztq (env0 (svS zng x) 0) [] (endG ztr zto) = ze0 fuel x := by kernel_rfl
def ziX (fuel : Nat) : TG := ⟨zng, zto, true, ze0 fuel⟩
theorem zFL (fuel : Nat) : FnSpecG Tryz.prog 112 (ziX fuel) :=
  ze (T := ztn fuel) (c := bodyOf Tryz.f112) (fn := Tryz.f112) (TabOK.of (entCons (zFI fuel) entNil) (methNil)) mixed (by kernel_rfl) (by kernel_rfl) zFJ (by kernel_rfl) (Nat.le_of_ble_eq_true (by kernel_rfl)) (rv := ztr) (by kernel_rfl) (fun x y h => (zFK fuel x).trans h)
theorem zts (fuel : Nat) : EntryOK Tryz.prog 112 (ziX fuel).te := EntryOK.tg rfl (zFL fuel) (isFn (fn := Tryz.f112) (by kernel_rfl) (by kernel_rfl) (by kernel_rfl))
def ze1 (fuel : Nat) : Tab := Tab.of [] []
abbrev ziY : List Pm := [{ cs := [(Kd.list I6, false)], ag := true }]
abbrev ze2 : List Pm := [{ cs := [(Kd.bool, false)], ag := false }]
def ztt : List Norm := [{ live := [13, 12, 11, 3], fix := [] }]
noncomputable def ze3 : C := irOf Tryz.prog Tryz.f84 [] ztt []
theorem zFM : lightC Tryz.prog [] Tryz.f84.ntmps ztt [] 0 (bodyOf Tryz.f84) = some (ze3, 1) := by kernel_rfl
def ze4 : List (Nat × Option (Nat × Bool)) := [(2, none)]
abbrev zcn := (Int) × (Int) × (List Int) × (Int)
def ztu (v : zcn) : Env × Heap := ([(13, SV.int .i64 v.1), (12, SV.int .i64 v.2.1), (11, SV.es I6 v.2.2.1), (3, SV.int .i64 v.2.2.2)], [])
def ze5 (fuel : Nat) (g0 : zcn → Option ((Bool × Unit) × Unit)) (v : zcn) : Option ((Bool × Unit) × Unit) :=
 cond (decide (v.1 < v.2.1))
 (tst (decide (0 ≤ v.1)) <|
 tst (decide (v.1 < (zz (List.length v.2.2.1)))) <|
 cond (decide (List.getD v.2.2.1 (Int.toNat v.1) 0 ≤ v.2.2.2))
 (some (((false, ()), ())))
 (cond (decide (List.getD v.2.2.1 (Int.toNat v.1) 0 ≥ (64 : Int)))
 (some (((false, ()), ())))
 (g0 (w64 (v.1 + (1 : Int)), v.2.1, v.2.2.1, List.getD v.2.2.1 (Int.toNat v.1) 0))))
 (some (((true, ()), ())))
def ziZ (fuel : Nat) (g0 : zcn → Option ((Bool × Unit) × Unit)) : zcn → Option ((Bool × Unit) × Unit) := ze5 fuel g0
theorem zFN (fuel : Nat) (G) : ze3.lp (ze1 fuel) 0 fuel G (endF ze4 ze2) 0 ztu = iter (ziZ fuel) fuel := C.lp_iter fun g v => by kernel_rfl
def zi0 (fuel : Nat) (X0 : zcn → Option ((Bool × Unit) × Unit)) (x0 : List Int) : Option ((Bool × Unit) × Unit) :=
 cond (decide ((zz (List.length x0)) > (6 : Int)))
 (some (((false, ()), ())))
 (X0 ((0 : Int), (zz (List.length x0)), x0, (-1 : Int)))
def zco (fuel : Nat) (x : (((List Int) × Unit) × Unit)) : Option ((Bool × Unit) × Unit) := zi0 fuel (iter (ziZ fuel) fuel) x.1.1
theorem zFO (fuel : Nat) (x : PsT ziY) : run (ze1 fuel) 0 fuel ze3 (env0 (svPs ziY x) 0) [] (endF ze4 ze2) = zco fuel x :=
  (show run (ze1 fuel) 0 fuel ze3 (env0 (svPs ziY x) 0) [] (endF ze4 ze2) = zi0 fuel (ze3.lp (ze1 fuel) 0 fuel (fun _ _ _ => none) (endF ze4 ze2) 0 ztu) x.1.1 by kernel_rfl).trans (by rw [zFN]; rfl)
def zi1 (fuel : Nat) : TF := ⟨ziY, ze2, true, zco fuel⟩
theorem zFP (fuel : Nat) : FnSpec Tryz.prog 84 (zi1 fuel) :=
  fn_spec (T := ze1 fuel) (c := bodyOf Tryz.f84) (fn := Tryz.f84) (TabOK.of (entNil) (methNil)) mixed (by kernel_rfl) (by kernel_rfl) zFM (by kernel_rfl) (Nat.le_of_ble_eq_true (by kernel_rfl)) (rv := ze4) (by kernel_rfl) (zFO fuel)
theorem ztv (fuel : Nat) : EntryOK Tryz.prog 84 (zi1 fuel).te := EntryOK.tf rfl (zFP fuel) (isFn (fn := Tryz.f84) (by kernel_rfl) (by kernel_rfl) (by kernel_rfl))
def ze6 (fuel : Nat) : Tab := Tab.of [] []
abbrev zi2 : List Pm := [{ cs := [(Kd.list KP, false), (I6, false), (I6, false)], ag := true }]
abbrev ze7 : List Pm := [{ cs := [(Kd.bool, false)], ag := false }]
def ztw : List Norm := [{ live := [37, 36, 35, 4, 3, 1], fix := [] }]
noncomputable def ze8 : C := irOf Tryz.prog Tryz.f85 [] ztw []
theorem zFQ : lightC Tryz.prog [] Tryz.f85.ntmps ztw [] 0 (bodyOf Tryz.f85) = some (ze8, 1) := by kernel_rfl
def ze9 : List (Nat × Option (Nat × Bool)) := [(2, none)]
abbrev zcp := (Int) × (Int) × LP × (Int) × (Int) × LP × (Int) × (Int)
def ztx (v : zcp) : Env × Heap := ([(37, SV.int .i64 v.1), (36, SV.int .i64 v.2.1), (35, SV.es KP v.2.2.1), (4, SV.int .i64 v.2.2.2.1), (3, SV.int .i64 v.2.2.2.2.1), (1, SV.ptr 0 0)], [Blk.cells [SV.es KP v.2.2.2.2.2.1, SV.int .i64 v.2.2.2.2.2.2.1, SV.int .i64 v.2.2.2.2.2.2.2] 0 3])
def zfa (fuel : Nat) (g0 : zcp → Option ((Bool × Unit) × Unit)) (v : zcp) : Option ((Bool × Unit) × Unit) :=
 cond (decide (v.1 < v.2.1))
 (tst (decide (0 ≤ v.1)) <|
 tst (decide (v.1 < (zz (List.length v.2.2.1)))) <|
 cond (decide ((List.getD v.2.2.1 (Int.toNat v.1) (0, (0, ()))).1 ≤ v.2.2.2.1))
 (some (((false, ()), ())))
 (cond (decide ((List.getD v.2.2.1 (Int.toNat v.1) (0, (0, ()))).1 ≥ (64 : Int)))
 (some (((false, ()), ())))
 (cond (decide ((List.getD v.2.2.1 (Int.toNat v.1) (0, (0, ()))).2.1 < (1 : Int)))
 (some (((false, ()), ())))
 (cond (decide ((List.getD v.2.2.1 (Int.toNat v.1) (0, (0, ()))).2.1 > (2000 : Int)))
 (some (((false, ()), ())))
 (g0 (w64 (v.1 + (1 : Int)), v.2.1, v.2.2.1, (List.getD v.2.2.1 (Int.toNat v.1) (0, (0, ()))).1, w64 (v.2.2.2.2.1 + (List.getD v.2.2.1 (Int.toNat v.1) (0, (0, ()))).2.1), v.2.2.2.2.2.1, v.2.2.2.2.2.2.1, v.2.2.2.2.2.2.2))))))
 (some (((decide (v.2.2.2.2.1 ≤ v.2.2.2.2.2.2.2), ()), ())))
def zi3 (fuel : Nat) (g0 : zcp → Option ((Bool × Unit) × Unit)) : zcp → Option ((Bool × Unit) × Unit) := zfa fuel g0
theorem zFR (fuel : Nat) (G) : ze8.lp (ze6 fuel) 0 fuel G (endF ze9 ze7) 0 ztx = iter (zi3 fuel) fuel := C.lp_iter fun g v => by kernel_rfl
def zi4 (fuel : Nat) (X0 : zcp → Option ((Bool × Unit) × Unit)) (x0 : LP) (x1 : Int) (x2 : Int) : Option ((Bool × Unit) × Unit) :=
 cond (decide ((zz (List.length x0)) > (4 : Int)))
 (some (((false, ()), ())))
 (cond (decide (x1 < (0 : Int)))
 (some (((false, ()), ())))
 (cond (decide (x1 > (2000 : Int)))
 (some (((false, ()), ())))
 (cond (decide (x2 < (0 : Int)))
 (some (((false, ()), ())))
 (cond (decide (x2 > (2000 : Int)))
 (some (((false, ()), ())))
 (X0 ((0 : Int), (zz (List.length x0)), x0, (-1 : Int), w64 (x1 * (5 : Int)), x0, x1, x2))))))
def zaL (fuel : Nat) (x : ((LP × (Int × (Int × Unit))) × Unit)) : Option ((Bool × Unit) × Unit) := zi4 fuel (iter (zi3 fuel) fuel) x.1.1 x.1.2.1 x.1.2.2.1
theorem zFS (fuel : Nat) (x : PsT zi2) : run (ze6 fuel) 0 fuel ze8 (env0 (svPs zi2 x) 0) [] (endF ze9 ze7) = zaL fuel x :=
  (show run (ze6 fuel) 0 fuel ze8 (env0 (svPs zi2 x) 0) [] (endF ze9 ze7) = zi4 fuel (ze8.lp (ze6 fuel) 0 fuel (fun _ _ _ => none) (endF ze9 ze7) 0 ztx) x.1.1 x.1.2.1 x.1.2.2.1 by kernel_rfl).trans (by rw [zFR]; rfl)
def zfb (fuel : Nat) : TF := ⟨zi2, ze7, true, zaL fuel⟩
theorem zFT (fuel : Nat) : FnSpec Tryz.prog 85 (zfb fuel) :=
  fn_spec (T := ze6 fuel) (c := bodyOf Tryz.f85) (fn := Tryz.f85) (TabOK.of (entNil) (methNil)) mixed (by kernel_rfl) (by kernel_rfl) zFQ (by kernel_rfl) (Nat.le_of_ble_eq_true (by kernel_rfl)) (rv := ze9) (by kernel_rfl) (zFS fuel)
theorem zni (fuel : Nat) : EntryOK Tryz.prog 85 (zfb fuel).te := EntryOK.tf rfl (zFT fuel) (isFn (fn := Tryz.f85) (by kernel_rfl) (by kernel_rfl) (by kernel_rfl))
def zty (fuel : Nat) : Tab := Tab.of [] []
abbrev znj : List Pm := [{ cs := [(Kd.list KP, false)], ag := false }]
abbrev ztz : List Pm := [{ cs := [(Kd.list KP, true)], ag := false }]
def ztA : List Norm := []
noncomputable def ztB : C := irOf Tryz.prog Tryz.f182 [] ztA []
theorem zFU : lightC Tryz.prog [] Tryz.f182.ntmps ztA [] 0 (bodyOf Tryz.f182) = some (ztB, 0) := by kernel_rfl
def ztC : List (Nat × Option (Nat × Bool)) := [(2, none)]
def znk (fuel : Nat) (x0 : LP) : Option ((LP × Unit) × Unit) :=
 tst (decide (0 < List.length x0)) <|
 tst (decide (0 + List.length x0 < LIM)) <|
 some ((([] ++ x0, ()), ()))
def zcq (fuel : Nat) (x : ((LP × Unit) × Unit)) : Option ((LP × Unit) × Unit) := znk fuel x.1.1
theorem zFV (fuel : Nat) (x : PsT znj) : run (zty fuel) 0 fuel ztB (env0 (svPs znj x) 0) [] (endF ztC ztz) = zcq fuel x := by kernel_rfl
def zfc (fuel : Nat) : TF := ⟨znj, ztz, true, zcq fuel⟩
theorem zFW (fuel : Nat) : FnSpec Tryz.prog 182 (zfc fuel) :=
  fn_spec (T := zty fuel) (c := bodyOf Tryz.f182) (fn := Tryz.f182) (TabOK.of (entNil) (methNil)) mixed (by kernel_rfl) (by kernel_rfl) zFU (by kernel_rfl) (Nat.le_of_ble_eq_true (by kernel_rfl)) (rv := ztC) (by kernel_rfl) (zFV fuel)
theorem znl (fuel : Nat) : EntryOK Tryz.prog 182 (zfc fuel).te := EntryOK.tf rfl (zFW fuel) (isFn (fn := Tryz.f182) (by kernel_rfl) (by kernel_rfl) (by kernel_rfl))
end Go.Proofs.YtdgdoeknpakmlaaGreat.Den
namespace Go.Proofs.YtdgdoeknpakmlaaGreat.Den
open Go Go.RowKit
def ztD (fuel : Nat) : Tab := Tab.of [] []
abbrev znm : List Pm := [{ cs := [(I6, false)], ag := false }]
abbrev ztE : List Pm := [{ cs := [(Kd.bool, false)], ag := false }]
def ztF : List Norm := []
noncomputable def ztG : C := irOf Tryz.prog Tryz.f200 [] ztF []
theorem zFX : lightC Tryz.prog [] Tryz.f200.ntmps ztF [] 0 (bodyOf Tryz.f200) = some (ztG, 0) := by kernel_rfl
def ztH : List (Nat × Option (Nat × Bool)) := [(2, none)]
def zFY (fuel : Nat) (x0 : Int) : Option ((Bool × Unit) × Unit) :=
 some (((x0 != x0, ()), ()))
def zfd (fuel : Nat) (x : ((Int × Unit) × Unit)) : Option ((Bool × Unit) × Unit) := zFY fuel x.1.1
theorem zFZ (fuel : Nat) (x : PsT znm) : run (ztD fuel) 0 fuel ztG (env0 (svPs znm x) 0) [] (endF ztH ztE) = zfd fuel x := by kernel_rfl
def znn (fuel : Nat) : TF := ⟨znm, ztE, true, zfd fuel⟩
theorem zF0 (fuel : Nat) : FnSpec Tryz.prog 200 (znn fuel) :=
  fn_spec (T := ztD fuel) (c := bodyOf Tryz.f200) (fn := Tryz.f200) (TabOK.of (entNil) (methNil)) mixed (by kernel_rfl) (by kernel_rfl) zFX (by kernel_rfl) (Nat.le_of_ble_eq_true (by kernel_rfl)) (rv := ztH) (by kernel_rfl) (zFZ fuel)
theorem zF1 (fuel : Nat) : EntryOK Tryz.prog 200 (znn fuel).te := EntryOK.tf rfl (zF0 fuel) (isFn (fn := Tryz.f200) (by kernel_rfl) (by kernel_rfl) (by kernel_rfl))
def ztI (fuel : Nat) : Tab := Tab.of [(200, (znn fuel).te)] []
abbrev zno : List Pm := [{ cs := [(I6, false)], ag := false }, { cs := [(I6, false)], ag := false }]
abbrev ztJ : List Pm := [{ cs := [(I6, false)], ag := false }]
def ztK : List Norm := []
noncomputable def ztL : C := irOf Tryz.prog Tryz.f197 [] ztK []
theorem zF2 : lightC Tryz.prog [] Tryz.f197.ntmps ztK [] 0 (bodyOf Tryz.f197) = some (ztL, 0) := by kernel_rfl
def ztM : List (Nat × Option (Nat × Bool)) := [(4, none)]
def znp (fuel : Nat) (x0 : Int) (x1 : Int) : Option ((Int × Unit) × Unit) :=
 Option.bind (zfd fuel ((x0, ()), ())) fun y_1 =>
 Option.bind (zfd fuel ((x1, ()), ())) fun y_2 =>
 cond (y_1.1.1)
 (cond (y_2.1.1)
 (some ((((0 : Int), ()), ())))
 (some ((((-1 : Int), ()), ()))))
 (cond (y_2.1.1)
 (some ((((1 : Int), ()), ())))
 (cond (decide (x0 < x1))
 (some ((((-1 : Int), ()), ())))
 (cond (decide (x0 > x1))
 (some ((((1 : Int), ()), ())))
 (some ((((0 : Int), ()), ()))))))
def zfe (fuel : Nat) (x : ((Int × Unit) × ((Int × Unit) × Unit))) : Option ((Int × Unit) × Unit) := znp fuel x.1.1 x.2.1.1
theorem zF3 (fuel : Nat) (x : PsT zno) : run (ztI fuel) 0 fuel ztL (env0 (svPs zno x) 0) [] (endF ztM ztJ) = zfe fuel x := by kernel_rfl
def zi5 (fuel : Nat) : TF := ⟨zno, ztJ, true, zfe fuel⟩
theorem zF4 (fuel : Nat) : FnSpec Tryz.prog 197 (zi5 fuel) :=
  fn_spec (T := ztI fuel) (c := bodyOf Tryz.f197) (fn := Tryz.f197) (TabOK.of (entCons (zF1 fuel) entNil) (methNil)) mixed (by kernel_rfl) (by kernel_rfl) zF2 (by kernel_rfl) (Nat.le_of_ble_eq_true (by kernel_rfl)) (rv := ztM) (by kernel_rfl) (zF3 fuel)
theorem ztN (fuel : Nat) : EntryOK Tryz.prog 197 (zi5 fuel).te := EntryOK.tf rfl (zF4 fuel) (isFn (fn := Tryz.f197) (by kernel_rfl) (by kernel_rfl) (by kernel_rfl))
def ztO (fuel : Nat) : Tab := Tab.of [(197, (zi5 fuel).te)] []
abbrev znq : List Pm := [{ cs := [(I6, false), (I6, false)], ag := true }, { cs := [(I6, false), (I6, false)], ag := true }]
abbrev ztP : List Pm := [{ cs := [(I6, false)], ag := false }]
def ztQ : List Norm := []
noncomputable def ztR : C := irOf Tryz.prog Tryz.f193 [] ztQ []
theorem zF5 : lightC Tryz.prog [] Tryz.f193.ntmps ztQ [] 0 (bodyOf Tryz.f193) = some (ztR, 0) := by kernel_rfl
def ztS : List (Nat × Option (Nat × Bool)) := [(4, none)]
def znr (fuel : Nat) (x0 : Int) (x1 : Int) (x2 : Int) (x3 : Int) : Option ((Int × Unit) × Unit) :=
 Option.bind (zfe fuel ((x0, ()), (x2, ()), ())) fun y_1 =>
 some (((y_1.1.1, ()), ()))
def zi6 (fuel : Nat) (x : ((Int × (Int × Unit)) × ((Int × (Int × Unit)) × Unit))) : Option ((Int × Unit) × Unit) := znr fuel x.1.1 x.1.2.1 x.2.1.1 x.2.1.2.1
theorem zF6 (fuel : Nat) (x : PsT znq) : run (ztO fuel) 0 fuel ztR (env0 (svPs znq x) 0) [] (endF ztS ztP) = zi6 fuel x := by kernel_rfl
def zi7 (fuel : Nat) : TF := ⟨znq, ztP, true, zi6 fuel⟩
theorem zF7 (fuel : Nat) : FnSpec Tryz.prog 193 (zi7 fuel) :=
  fn_spec (T := ztO fuel) (c := bodyOf Tryz.f193) (fn := Tryz.f193) (TabOK.of (entCons (ztN fuel) entNil) (methNil)) mixed (by kernel_rfl) (by kernel_rfl) zF5 (by kernel_rfl) (Nat.le_of_ble_eq_true (by kernel_rfl)) (rv := ztS) (by kernel_rfl) (zF6 fuel)
theorem ztT (fuel : Nat) : EntryOK Tryz.prog 193 (zi7 fuel).te := EntryOK.tf rfl (zF7 fuel) (isFn (fn := Tryz.f193) (by kernel_rfl) (by kernel_rfl) (by kernel_rfl))
def ztU (fuel : Nat) : Tab := Tab.of [(197, (zi5 fuel).te)] []
abbrev zns : List Pm := [{ cs := [(I6, false), (I6, false)], ag := true }, { cs := [(I6, false), (I6, false)], ag := true }]
abbrev ztV : List Pm := [{ cs := [(I6, false)], ag := false }]
def ztW : List Norm := []
noncomputable def ztX : C := irOf Tryz.prog Tryz.f194 [] ztW []
theorem zF8 : lightC Tryz.prog [] Tryz.f194.ntmps ztW [] 0 (bodyOf Tryz.f194) = some (ztX, 0) := by kernel_rfl
def ztY : List (Nat × Option (Nat × Bool)) := [(4, none)]
def znt (fuel : Nat) (x0 : Int) (x1 : Int) (x2 : Int) (x3 : Int) : Option ((Int × Unit) × Unit) :=
 Option.bind (zfe fuel ((x3, ()), (x1, ()), ())) fun y_1 =>
 some (((y_1.1.1, ()), ()))
def zi8 (fuel : Nat) (x : ((Int × (Int × Unit)) × ((Int × (Int × Unit)) × Unit))) : Option ((Int × Unit) × Unit) := znt fuel x.1.1 x.1.2.1 x.2.1.1 x.2.1.2.1
theorem zF9 (fuel : Nat) (x : PsT zns) : run (ztU fuel) 0 fuel ztX (env0 (svPs zns x) 0) [] (endF ztY ztV) = zi8 fuel x := by kernel_rfl
def zi9 (fuel : Nat) : TF := ⟨zns, ztV, true, zi8 fuel⟩
theorem zGa (fuel : Nat) : FnSpec Tryz.prog 194 (zi9 fuel) :=
  fn_spec (T := ztU fuel) (c := bodyOf Tryz.f194) (fn := Tryz.f194) (TabOK.of (entCons (ztN fuel) entNil) (methNil)) mixed (by kernel_rfl) (by kernel_rfl) zF8 (by kernel_rfl) (Nat.le_of_ble_eq_true (by kernel_rfl)) (rv := ztY) (by kernel_rfl) (zF9 fuel)
theorem ztZ (fuel : Nat) : EntryOK Tryz.prog 194 (zi9 fuel).te := EntryOK.tf rfl (zGa fuel) (isFn (fn := Tryz.f194) (by kernel_rfl) (by kernel_rfl) (by kernel_rfl))
abbrev zj := Option (LP × Unit)
def zM (fuel : Nat) : Tab := Tab.of [(193, (zi7 fuel).te), (194, (zi9 fuel).te)] []
abbrev zja : Sh := (.cell I6 0 (.cell I6 0 (.fnc 193 .nil)))
abbrev zak : List Pm := []
def zt0 : List Norm := [{ live := [8, 2, 1, 3, 0], fix := [] }, { live := [9, 1, 3, 0, 8, 2], fix := [] }]
noncomputable def zv : C := irOf Tryz.prog Tryz.f201 [] zt0 []
theorem zGb : lightC Tryz.prog [] Tryz.f201.ntmps zt0 [] 0 (bodyOf Tryz.f201) = some (zv, 2) := by kernel_rfl
def zal : List (Nat × Option (Nat × Bool)) := []
abbrev zam := (Int) × (Int) × (Int) × LP
abbrev zcr := (Int) × (Int) × (Int) × (Int) × LP
def zY (v : zam) : Env × Heap := ([(8, SV.int .i64 v.1), (2, SV.int .i64 v.2.1), (1, SV.int .i64 v.2.2.1), (3, SV.fn (Fn.func 193) [] []), (0, SV.own 0)], [Blk.arr KP v.2.2.2 0])
def zcs (v : zcr) : Env × Heap := ([(9, SV.int .i64 v.1), (1, SV.int .i64 v.2.1), (3, SV.fn (Fn.func 193) [] []), (0, SV.own 0), (8, SV.int .i64 v.2.2.1), (2, SV.int .i64 v.2.2.2.1)], [Blk.arr KP v.2.2.2.2 0])
def zct (fuel : Nat) (g0 : zam → zj) (g1 : zcr → zj) (v : zcr) : zj :=
 cond (decide (v.1 > v.2.1))
 (tst (decide (0 ≤ v.1)) <|
 tst (decide (v.1 < (zz (List.length v.2.2.2.2)))) <|
 tst (decide (Int.toNat v.1 < List.length v.2.2.2.2)) <|
 tst (decide (0 ≤ w64 (v.1 - (1 : Int)))) <|
 tst (decide (w64 (v.1 - (1 : Int)) < (zz (List.length v.2.2.2.2)))) <|
 tst (decide (Int.toNat (w64 (v.1 - (1 : Int))) < List.length v.2.2.2.2)) <|
 Option.bind (zi6 fuel (((List.getD v.2.2.2.2 (Int.toNat v.1) (0, (0, ()))).1, (List.getD v.2.2.2.2 (Int.toNat v.1) (0, (0, ()))).2.1, ()), ((List.getD v.2.2.2.2 (Int.toNat (w64 (v.1 - (1 : Int)))) (0, (0, ()))).1, (List.getD v.2.2.2.2 (Int.toNat (w64 (v.1 - (1 : Int)))) (0, (0, ()))).2.1, ()), ())) fun y_2 =>
 cond (decide (y_2.1.1 < (0 : Int)))
 (tst (decide (0 ≤ w64 (v.1 - (1 : Int)))) <|
 tst (decide (w64 (v.1 - (1 : Int)) < (zz (List.length v.2.2.2.2)))) <|
 tst (decide (Int.toNat (w64 (v.1 - (1 : Int))) < List.length v.2.2.2.2)) <|
 tst (decide (0 ≤ v.1)) <|
 tst (decide (v.1 < (zz (List.length v.2.2.2.2)))) <|
 tst (decide (Int.toNat v.1 < List.length v.2.2.2.2)) <|
 tst (decide (0 ≤ v.1)) <|
 tst (decide (v.1 < (zz (List.length v.2.2.2.2)))) <|
 tst (decide (Int.toNat v.1 < List.length v.2.2.2.2)) <|
 tst (decide (0 ≤ w64 (v.1 - (1 : Int)))) <|
 tst (decide (w64 (v.1 - (1 : Int)) < (zz (List.length (List.set v.2.2.2.2 (Int.toNat v.1) ((List.getD v.2.2.2.2 (Int.toNat (w64 (v.1 - (1 : Int)))) (0, (0, ()))).1, (List.getD v.2.2.2.2 (Int.toNat (w64 (v.1 - (1 : Int)))) (0, (0, ()))).2.1, ())))))) <|
 tst (decide (Int.toNat (w64 (v.1 - (1 : Int))) < List.length (List.set v.2.2.2.2 (Int.toNat v.1) ((List.getD v.2.2.2.2 (Int.toNat (w64 (v.1 - (1 : Int)))) (0, (0, ()))).1, (List.getD v.2.2.2.2 (Int.toNat (w64 (v.1 - (1 : Int)))) (0, (0, ()))).2.1, ())))) <|
 g1 (w64 (v.1 - (1 : Int)), v.2.1, v.2.2.1, v.2.2.2.1, List.set (List.set v.2.2.2.2 (Int.toNat v.1) ((List.getD v.2.2.2.2 (Int.toNat (w64 (v.1 - (1 : Int)))) (0, (0, ()))).1, (List.getD v.2.2.2.2 (Int.toNat (w64 (v.1 - (1 : Int)))) (0, (0, ()))).2.1, ())) (Int.toNat (w64 (v.1 - (1 : Int)))) ((List.getD v.2.2.2.2 (Int.toNat v.1) (0, (0, ()))).1, (List.getD v.2.2.2.2 (Int.toNat v.1) (0, (0, ()))).2.1, ())))
 (g0 (w64 (v.2.2.1 + (1 : Int)), v.2.2.2.1, v.2.1, v.2.2.2.2)))
 (g0 (w64 (v.2.2.1 + (1 : Int)), v.2.2.2.1, v.2.1, v.2.2.2.2))
def znu (fuel : Nat) (g0 : zam → zj) (g1 : zcr → zj) : zcr → zj := zct fuel g0 g1
theorem zGc (fuel : Nat) (G) : zv.lp (zM fuel) 1 fuel G (endS zal KP false zak) 1 zcs = iter (znu fuel (fun v => G 0 (zY v).1 (zY v).2)) fuel := C.lp_iter fun g v =>
  (show run (zM fuel) 1 fuel (zv.bdAt 1) (zcs v).1 (zcs v).2 (loopK 1 (zv.nmAt 1) g (zv.contAt (zM fuel) 1 fuel G 0 1 (endS zal KP false zak))) = zct fuel (fun v => G 0 (zY v).1 (zY v).2) (fun v => g (zcs v).1 (zcs v).2) v by kernel_rfl)
def zaM (fuel : Nat) (X1 : zcr → zj) (g0 : zam → zj) (v : zam) : zj :=
 cond (decide (v.1 < v.2.1))
 (X1 (v.1, v.2.2.1, v.1, v.2.1, v.2.2.2))
 (some ((v.2.2.2, ())))
def zjb (fuel : Nat) (g0 : zam → zj) : zam → zj := zaM fuel (iter (znu fuel g0) fuel) g0
theorem zGd (fuel : Nat) (G) : zv.lp (zM fuel) 1 fuel G (endS zal KP false zak) 0 zY = iter (zjb fuel) fuel := C.lp_iter fun g v =>
  (show run (zM fuel) 1 fuel (zv.bdAt 0) (zY v).1 (zY v).2 (loopK 1 (zv.nmAt 0) g (zv.contAt (zM fuel) 1 fuel G 0 0 (endS zal KP false zak))) = zaM fuel (zv.lp (zM fuel) 1 fuel (fun m => bif Nat.beq m 0 then g else G m) (endS zal KP false zak) 1 zcs) (fun v => g (zY v).1 (zY v).2) v by kernel_rfl).trans (by rw [zGc]; rfl)
def zt1 (fuel : Nat) (X0 : zam → zj) (d0 : LP) (x0 : Int) (x1 : Int) : zj :=
 X0 (w64 (x0 + (1 : Int)), x1, x0, d0)
def zff (fuel : Nat) (z : LP × Unit × (Int × (Int × Unit))) : zj := zt1 fuel (iter (zjb fuel) fuel) z.1 z.2.2.1 z.2.2.2.1
theorem zGe (fuel : Nat) (c : List (Kd.T KP)) (d : CsT []) (x : Sh.T zja) : run (zM fuel) 1 fuel zv ((0, firstV false 0 (svCs [] d)) :: env0 (svS zja x) 1) [.arr KP c 0] (endS zal KP false zak) = zff fuel (c, d, x) :=
  (show run (zM fuel) 1 fuel zv ((0, firstV false 0 (svCs [] d)) :: env0 (svS zja x) 1) [.arr KP c 0] (endS zal KP false zak) = zt1 fuel (zv.lp (zM fuel) 1 fuel (fun _ _ _ => none) (endS zal KP false zak) 0 zY) c x.1 x.2.1 by kernel_rfl).trans (by rw [zGd]; rfl)
def zjc (fuel : Nat) : TFT := ⟨KP, false, [], zja, zak, false, zff fuel⟩
theorem zGf (fuel : Nat) : FnSpecT Tryz.prog 201 (zjc fuel) :=
  za7 (T := zM fuel) (c := bodyOf Tryz.f201) (fn := Tryz.f201) (TabOK.of (entCons (ztT fuel) (entCons (ztZ fuel) entNil)) (methNil)) mixed (by kernel_rfl) (by kernel_rfl) zGb (by kernel_rfl) (Nat.le_of_ble_eq_true (by kernel_rfl)) (rv := zal) (by kernel_rfl) (zGe fuel)
theorem zt2 (fuel : Nat) : EntryOK Tryz.prog 201 (zjc fuel).te := EntryOK.tft (zGf fuel) (isFn (fn := Tryz.f201) (by kernel_rfl) (by kernel_rfl) (by kernel_rfl))
abbrev zk := Option (LP × Unit)
def zN (fuel : Nat) : Tab := Tab.of [(193, (zi7 fuel).te), (194, (zi9 fuel).te)] []
abbrev zjd : Sh := (.cell I6 0 (.cell I6 0 (.fnc 194 .nil)))
abbrev zan : List Pm := []
def zt3 : List Norm := [{ live := [8, 2, 1, 3, 0], fix := [] }, { live := [9, 1, 3, 0, 8, 2], fix := [] }]
noncomputable def zw : C := irOf Tryz.prog Tryz.f201 [] zt3 []
theorem zGg : lightC Tryz.prog [] Tryz.f201.ntmps zt3 [] 0 (bodyOf Tryz.f201) = some (zw, 2) := by kernel_rfl
def zao : List (Nat × Option (Nat × Bool)) := []
abbrev zap := (Int) × (Int) × (Int) × LP
abbrev zcu := (Int) × (Int) × (Int) × (Int) × LP
def zZ (v : zap) : Env × Heap := ([(8, SV.int .i64 v.1), (2, SV.int .i64 v.2.1), (1, SV.int .i64 v.2.2.1), (3, SV.fn (Fn.func 194) [] []), (0, SV.own 0)], [Blk.arr KP v.2.2.2 0])
def zcv (v : zcu) : Env × Heap := ([(9, SV.int .i64 v.1), (1, SV.int .i64 v.2.1), (3, SV.fn (Fn.func 194) [] []), (0, SV.own 0), (8, SV.int .i64 v.2.2.1), (2, SV.int .i64 v.2.2.2.1)], [Blk.arr KP v.2.2.2.2 0])
def zcw (fuel : Nat) (g0 : zap → zk) (g1 : zcu → zk) (v : zcu) : zk :=
 cond (decide (v.1 > v.2.1))
 (tst (decide (0 ≤ v.1)) <|
 tst (decide (v.1 < (zz (List.length v.2.2.2.2)))) <|
 tst (decide (Int.toNat v.1 < List.length v.2.2.2.2)) <|
 tst (decide (0 ≤ w64 (v.1 - (1 : Int)))) <|
 tst (decide (w64 (v.1 - (1 : Int)) < (zz (List.length v.2.2.2.2)))) <|
 tst (decide (Int.toNat (w64 (v.1 - (1 : Int))) < List.length v.2.2.2.2)) <|
 Option.bind (zi8 fuel (((List.getD v.2.2.2.2 (Int.toNat v.1) (0, (0, ()))).1, (List.getD v.2.2.2.2 (Int.toNat v.1) (0, (0, ()))).2.1, ()), ((List.getD v.2.2.2.2 (Int.toNat (w64 (v.1 - (1 : Int)))) (0, (0, ()))).1, (List.getD v.2.2.2.2 (Int.toNat (w64 (v.1 - (1 : Int)))) (0, (0, ()))).2.1, ()), ())) fun y_2 =>
 cond (decide (y_2.1.1 < (0 : Int)))
 (tst (decide (0 ≤ w64 (v.1 - (1 : Int)))) <|
 tst (decide (w64 (v.1 - (1 : Int)) < (zz (List.length v.2.2.2.2)))) <|
 tst (decide (Int.toNat (w64 (v.1 - (1 : Int))) < List.length v.2.2.2.2)) <|
 tst (decide (0 ≤ v.1)) <|
 tst (decide (v.1 < (zz (List.length v.2.2.2.2)))) <|
 tst (decide (Int.toNat v.1 < List.length v.2.2.2.2)) <|
 tst (decide (0 ≤ v.1)) <|
 tst (decide (v.1 < (zz (List.length v.2.2.2.2)))) <|
 tst (decide (Int.toNat v.1 < List.length v.2.2.2.2)) <|
 tst (decide (0 ≤ w64 (v.1 - (1 : Int)))) <|
 tst (decide (w64 (v.1 - (1 : Int)) < (zz (List.length (List.set v.2.2.2.2 (Int.toNat v.1) ((List.getD v.2.2.2.2 (Int.toNat (w64 (v.1 - (1 : Int)))) (0, (0, ()))).1, (List.getD v.2.2.2.2 (Int.toNat (w64 (v.1 - (1 : Int)))) (0, (0, ()))).2.1, ())))))) <|
 tst (decide (Int.toNat (w64 (v.1 - (1 : Int))) < List.length (List.set v.2.2.2.2 (Int.toNat v.1) ((List.getD v.2.2.2.2 (Int.toNat (w64 (v.1 - (1 : Int)))) (0, (0, ()))).1, (List.getD v.2.2.2.2 (Int.toNat (w64 (v.1 - (1 : Int)))) (0, (0, ()))).2.1, ())))) <|
 g1 (w64 (v.1 - (1 : Int)), v.2.1, v.2.2.1, v.2.2.2.1, List.set (List.set v.2.2.2.2 (Int.toNat v.1) ((List.getD v.2.2.2.2 (Int.toNat (w64 (v.1 - (1 : Int)))) (0, (0, ()))).1, (List.getD v.2.2.2.2 (Int.toNat (w64 (v.1 - (1 : Int)))) (0, (0, ()))).2.1, ())) (Int.toNat (w64 (v.1 - (1 : Int)))) ((List.getD v.2.2.2.2 (Int.toNat v.1) (0, (0, ()))).1, (List.getD v.2.2.2.2 (Int.toNat v.1) (0, (0, ()))).2.1, ())))
 (g0 (w64 (v.2.2.1 + (1 : Int)), v.2.2.2.1, v.2.1, v.2.2.2.2)))
 (g0 (w64 (v.2.2.1 + (1 : Int)), v.2.2.2.1, v.2.1, v.2.2.2.2))
def znv (fuel : Nat) (g0 : zap → zk) (g1 : zcu → zk) : zcu → zk := zcw fuel g0 g1
theorem zGh (fuel : Nat) (G) : zw.lp (zN fuel) 1 fuel G (endS zao KP false zan) 1 zcv = iter (znv fuel (fun v => G 0 (zZ v).1 (zZ v).2)) fuel := C.lp_iter fun g v =>
  (show run (zN fuel) 1 fuel (zw.bdAt 1) (zcv v).1 (zcv v).2 (loopK 1 (zw.nmAt 1) g (zw.contAt (zN fuel) 1 fuel G 0 1 (endS zao KP false zan))) = zcw fuel (fun v => G 0 (zZ v).1 (zZ v).2) (fun v => g (zcv v).1 (zcv v).2) v by kernel_rfl)
def zaN (fuel : Nat) (X1 : zcu → zk) (g0 : zap → zk) (v : zap) : zk :=
 cond (decide (v.1 < v.2.1))
 (X1 (v.1, v.2.2.1, v.1, v.2.1, v.2.2.2))
 (some ((v.2.2.2, ())))
def zje (fuel : Nat) (g0 : zap → zk) : zap → zk := zaN fuel (iter (znv fuel g0) fuel) g0
theorem zGi (fuel : Nat) (G) : zw.lp (zN fuel) 1 fuel G (endS zao KP false zan) 0 zZ = iter (zje fuel) fuel := C.lp_iter fun g v =>
  (show run (zN fuel) 1 fuel (zw.bdAt 0) (zZ v).1 (zZ v).2 (loopK 1 (zw.nmAt 0) g (zw.contAt (zN fuel) 1 fuel G 0 0 (endS zao KP false zan))) = zaN fuel (zw.lp (zN fuel) 1 fuel (fun m => bif Nat.beq m 0 then g else G m) (endS zao KP false zan) 1 zcv) (fun v => g (zZ v).1 (zZ v).2) v by kernel_rfl).trans (by rw [zGh]; rfl)
def zt4 (fuel : Nat) (X0 : zap → zk) (d0 : LP) (x0 : Int) (x1 : Int) : zk :=
 X0 (w64 (x0 + (1 : Int)), x1, x0, d0)
def zfg (fuel : Nat) (z : LP × Unit × (Int × (Int × Unit))) : zk := zt4 fuel (iter (zje fuel) fuel) z.1 z.2.2.1 z.2.2.2.1
theorem zGj (fuel : Nat) (c : List (Kd.T KP)) (d : CsT []) (x : Sh.T zjd) : run (zN fuel) 1 fuel zw ((0, firstV false 0 (svCs [] d)) :: env0 (svS zjd x) 1) [.arr KP c 0] (endS zao KP false zan) = zfg fuel (c, d, x) :=
  (show run (zN fuel) 1 fuel zw ((0, firstV false 0 (svCs [] d)) :: env0 (svS zjd x) 1) [.arr KP c 0] (endS zao KP false zan) = zt4 fuel (zw.lp (zN fuel) 1 fuel (fun _ _ _ => none) (endS zao KP false zan) 0 zZ) c x.1 x.2.1 by kernel_rfl).trans (by rw [zGi]; rfl)
def zjf (fuel : Nat) : TFT := ⟨KP, false, [], zjd, zan, false, zfg fuel⟩
theorem zGk (fuel : Nat) : FnSpecT Tryz.prog 201 (zjf fuel) :=
  za7 (T := zN fuel) (c := bodyOf Tryz.f201) (fn := Tryz.f201) (TabOK.of (entCons (ztT fuel) (entCons (ztZ fuel) entNil)) (methNil)) mixed (by kernel_rfl) (by kernel_rfl) zGg (by kernel_rfl) (Nat.le_of_ble_eq_true (by kernel_rfl)) (rv := zao) (by kernel_rfl) (zGj fuel)
theorem zt5 (fuel : Nat) : EntryOK Tryz.prog 201 (zjf fuel).te := EntryOK.tft (zGk fuel) (isFn (fn := Tryz.f201) (by kernel_rfl) (by kernel_rfl) (by kernel_rfl))
abbrev zbm := Option (LP × Unit)
def zfh (fuel : Nat) : Tab := Tab.of [(201, (zjc fuel).te), (201, (zjf fuel).te)] []
abbrev zjg : Sh := (.cell I6 0 (.cell I6 0 (.cell I6 0 (.fnc 193 .nil))))
abbrev zfi : List Pm := []
def zt6 : List Norm := [{ live := [2, 1, 0, 4, 3, 10, 11], fix := [] }]
noncomputable def zfj : C := irOf Tryz.prog Tryz.f198 [] zt6 []
theorem zGl : lightC Tryz.prog [] Tryz.f198.ntmps zt6 [] 0 (bodyOf Tryz.f198) = some (zfj, 1) := by kernel_rfl
def zfk : List (Nat × Option (Nat × Bool)) := []
abbrev zcx := (Int) × (Int) × (Int) × (Bool) × (Bool) × LP
def zt7 (v : zcx) : Env × Heap := ([(2, SV.int .i64 v.1), (1, SV.int .i64 v.2.1), (0, SV.own 0), (4, SV.fn (Fn.func 193) [] []), (3, SV.int .i64 v.2.2.1), (10, SV.bool v.2.2.2.1), (11, SV.bool v.2.2.2.2.1)], [Blk.arr KP v.2.2.2.2.2 0])
def znw (fuel : Nat) (g0 : zcx → zbm) (v : zcx) : zbm :=
 cond (decide (w64 (v.1 - v.2.1) ≤ (12 : Int)))
 (Option.bind (zff fuel (v.2.2.2.2.2, (), v.2.1, v.1, ())) fun y_2 =>
 some ((y_2.1, ())))
 (cond (v.2.2.1 == (0 : Int))
 (none)
 (cond (!v.2.2.2.1)
 (none)
 (none)))
def znx (fuel : Nat) (g0 : zcx → zbm) : zcx → zbm := znw fuel g0
theorem zGm (fuel : Nat) (G) : zfj.lp (zfh fuel) 1 fuel G (endS zfk KP false zfi) 0 zt7 = iter (znx fuel) fuel := C.lp_iter fun g v => by kernel_rfl
def zt8 (fuel : Nat) (X0 : zcx → zbm) (d0 : LP) (x0 : Int) (x1 : Int) (x2 : Int) : zbm :=
 X0 (x1, x0, x2, true, true, d0)
def zjh (fuel : Nat) (z : LP × Unit × (Int × (Int × (Int × Unit)))) : zbm := zt8 fuel (iter (znx fuel) fuel) z.1 z.2.2.1 z.2.2.2.1 z.2.2.2.2.1
theorem zGn (fuel : Nat) (c : List (Kd.T KP)) (d : CsT []) (x : Sh.T zjg) : run (zfh fuel) 1 fuel zfj ((0, firstV false 0 (svCs [] d)) :: env0 (svS zjg x) 1) [.arr KP c 0] (endS zfk KP false zfi) = zjh fuel (c, d, x) :=
  (show run (zfh fuel) 1 fuel zfj ((0, firstV false 0 (svCs [] d)) :: env0 (svS zjg x) 1) [.arr KP c 0] (endS zfk KP false zfi) = zt8 fuel (zfj.lp (zfh fuel) 1 fuel (fun _ _ _ => none) (endS zfk KP false zfi) 0 zt7) c x.1 x.2.1 x.2.2.1 by kernel_rfl).trans (by rw [zGm]; rfl)
def zji (fuel : Nat) : TFT := ⟨KP, false, [], zjg, zfi, false, zjh fuel⟩
theorem zGo (fuel : Nat) : FnSpecT Tryz.prog 198 (zji fuel) :=
  za7 (T := zfh fuel) (c := bodyOf Tryz.f198) (fn := Tryz.f198) (TabOK.of (entCons (zt2 fuel) (entCons (zt5 fuel) entNil)) (methNil)) mixed (by kernel_rfl) (by kernel_rfl) zGl (by kernel_rfl) (Nat.le_of_ble_eq_true (by kernel_rfl)) (rv := zfk) (by kernel_rfl) (zGn fuel)
theorem zt9 (fuel : Nat) : EntryOK Tryz.prog 198 (zji fuel).te := EntryOK.tft (zGo fuel) (isFn (fn := Tryz.f198) (by kernel_rfl) (by kernel_rfl) (by kernel_rfl))
abbrev zbn := Option (LP × Unit)
def zfl (fuel : Nat) : Tab := Tab.of [(201, (zjc fuel).te), (201, (zjf fuel).te)] []
abbrev zjj : Sh := (.cell I6 0 (.cell I6 0 (.cell I6 0 (.fnc 194 .nil))))
abbrev zfm : List Pm := []
def zua : List Norm := [{ live := [2, 1, 0, 4, 3, 10, 11], fix := [] }]
noncomputable def zfn : C := irOf Tryz.prog Tryz.f198 [] zua []
theorem zGp : lightC Tryz.prog [] Tryz.f198.ntmps zua [] 0 (bodyOf Tryz.f198) = some (zfn, 1) := by kernel_rfl
def zfo : List (Nat × Option (Nat × Bool)) := []
abbrev zcy := (Int) × (Int) × (Int) × (Bool) × (Bool) × LP
def zub (v : zcy) : Env × Heap := ([(2, SV.int .i64 v.1), (1, SV.int .i64 v.2.1), (0, SV.own 0), (4, SV.fn (Fn.func 194) [] []), (3, SV.int .i64 v.2.2.1), (10, SV.bool v.2.2.2.1), (11, SV.bool v.2.2.2.2.1)], [Blk.arr KP v.2.2.2.2.2 0])
def zny (fuel : Nat) (g0 : zcy → zbn) (v : zcy) : zbn :=
 cond (decide (w64 (v.1 - v.2.1) ≤ (12 : Int)))
 (Option.bind (zfg fuel (v.2.2.2.2.2, (), v.2.1, v.1, ())) fun y_2 =>
 some ((y_2.1, ())))
 (cond (v.2.2.1 == (0 : Int))
 (none)
 (cond (!v.2.2.2.1)
 (none)
 (none)))
def znz (fuel : Nat) (g0 : zcy → zbn) : zcy → zbn := zny fuel g0
theorem zGq (fuel : Nat) (G) : zfn.lp (zfl fuel) 1 fuel G (endS zfo KP false zfm) 0 zub = iter (znz fuel) fuel := C.lp_iter fun g v => by kernel_rfl
def zuc (fuel : Nat) (X0 : zcy → zbn) (d0 : LP) (x0 : Int) (x1 : Int) (x2 : Int) : zbn :=
 X0 (x1, x0, x2, true, true, d0)
def zjk (fuel : Nat) (z : LP × Unit × (Int × (Int × (Int × Unit)))) : zbn := zuc fuel (iter (znz fuel) fuel) z.1 z.2.2.1 z.2.2.2.1 z.2.2.2.2.1
theorem zGr (fuel : Nat) (c : List (Kd.T KP)) (d : CsT []) (x : Sh.T zjj) : run (zfl fuel) 1 fuel zfn ((0, firstV false 0 (svCs [] d)) :: env0 (svS zjj x) 1) [.arr KP c 0] (endS zfo KP false zfm) = zjk fuel (c, d, x) :=
  (show run (zfl fuel) 1 fuel zfn ((0, firstV false 0 (svCs [] d)) :: env0 (svS zjj x) 1) [.arr KP c 0] (endS zfo KP false zfm) = zuc fuel (zfn.lp (zfl fuel) 1 fuel (fun _ _ _ => none) (endS zfo KP false zfm) 0 zub) c x.1 x.2.1 x.2.2.1 by kernel_rfl).trans (by rw [zGq]; rfl)
def zjl (fuel : Nat) : TFT := ⟨KP, false, [], zjj, zfm, false, zjk fuel⟩
theorem zGs (fuel : Nat) : FnSpecT Tryz.prog 198 (zjl fuel) :=
  za7 (T := zfl fuel) (c := bodyOf Tryz.f198) (fn := Tryz.f198) (TabOK.of (entCons (zt2 fuel) (entCons (zt5 fuel) entNil)) (methNil)) mixed (by kernel_rfl) (by kernel_rfl) zGp (by kernel_rfl) (Nat.le_of_ble_eq_true (by kernel_rfl)) (rv := zfo) (by kernel_rfl) (zGr fuel)
theorem zud (fuel : Nat) : EntryOK Tryz.prog 198 (zjl fuel).te := EntryOK.tft (zGs fuel) (isFn (fn := Tryz.f198) (by kernel_rfl) (by kernel_rfl) (by kernel_rfl))
def zue (fuel : Nat) : Tab := Tab.of [] []
abbrev znA : List Pm := [{ cs := [(Kd.int IntKind.u64, false)], ag := false }]
abbrev zuf : List Pm := [{ cs := [(I6, false)], ag := false }]
def zug : List Norm := []
noncomputable def zuh : C := irOf Tryz.prog Tryz.f210 [] zug []
theorem zGt : lightC Tryz.prog [] Tryz.f210.ntmps zug [] 0 (bodyOf Tryz.f210) = some (zuh, 0) := by kernel_rfl
def zui : List (Nat × Option (Nat × Bool)) := [(2, none)]
def zGu (fuel : Nat) (x0 : Int) : Option ((Int × Unit) × Unit) :=
 cond (decide (x0 ≥ (4294967296 : Int)))
 (cond (decide (Int.fdiv x0 (2 ^ min (Int.toNat (32 : Int)) (IntKind.bits IntKind.u64)) ≥ (65536 : Int)))
 (cond (decide (Int.fdiv (Int.fdiv x0 (2 ^ min (Int.toNat (32 : Int)) (IntKind.bits IntKind.u64))) (2 ^ min (Int.toNat (16 : Int)) (IntKind.bits IntKind.u64)) ≥ (256 : Int)))
 (tst (decide (0 ≤ IntKind.wrap IntKind.u8 (Int.fdiv (Int.fdiv (Int.fdiv x0 (2 ^ min (Int.toNat (32 : Int)) (IntKind.bits IntKind.u64))) (2 ^ min (Int.toNat (16 : Int)) (IntKind.bits IntKind.u64))) (2 ^ min (Int.toNat (8 : Int)) (IntKind.bits IntKind.u64))))) <|
 tst (decide (IntKind.wrap IntKind.u8 (Int.fdiv (Int.fdiv (Int.fdiv x0 (2 ^ min (Int.toNat (32 : Int)) (IntKind.bits IntKind.u64))) (2 ^ min (Int.toNat (16 : Int)) (IntKind.bits IntKind.u64))) (2 ^ min (Int.toNat (8 : Int)) (IntKind.bits IntKind.u64))) < (zz 256))) <|
 some (((w64 (w64 (w64 ((32 : Int) + (16 : Int)) + (8 : Int)) + w64 (zz (List.getD [0, 1, 2, 2, 3, 3, 3, 3, 4, 4, 4, 4, 4, 4, 4, 4, 5, 5, 5, 5, 5, 5, 5, 5, 5, 5, 5, 5, 5, 5, 5, 5, 6, 6, 6, 6, 6, 6, 6, 6, 6, 6, 6, 6, 6, 6, 6, 6, 6, 6, 6, 6, 6, 6, 6, 6, 6, 6, 6, 6, 6, 6, 6, 6, 7, 7, 7, 7, 7, 7, 7, 7, 7, 7, 7, 7, 7, 7, 7, 7, 7, 7, 7, 7, 7, 7, 7, 7, 7, 7, 7, 7, 7, 7, 7, 7, 7, 7, 7, 7, 7, 7, 7, 7, 7, 7, 7, 7, 7, 7, 7, 7, 7, 7, 7, 7, 7, 7, 7, 7, 7, 7, 7, 7, 7, 7, 7, 7, 8, 8, 8, 8, 8, 8, 8, 8, 8, 8, 8, 8, 8, 8, 8, 8, 8, 8, 8, 8, 8, 8, 8, 8, 8, 8, 8, 8, 8, 8, 8, 8, 8, 8, 8, 8, 8, 8, 8, 8, 8, 8, 8, 8, 8, 8, 8, 8, 8, 8, 8, 8, 8, 8, 8, 8, 8, 8, 8, 8, 8, 8, 8, 8, 8, 8, 8, 8, 8, 8, 8, 8, 8, 8, 8, 8, 8, 8, 8, 8, 8, 8, 8, 8, 8, 8, 8, 8, 8, 8, 8, 8, 8, 8, 8, 8, 8, 8, 8, 8, 8, 8, 8, 8, 8, 8, 8, 8, 8, 8, 8, 8, 8, 8, 8, 8, 8, 8, 8, 8, 8, 8, 8, 8, 8, 8, 8, 8] (Int.toNat (IntKind.wrap IntKind.u8 (Int.fdiv (Int.fdiv (Int.fdiv x0 (2 ^ min (Int.toNat (32 : Int)) (IntKind.bits IntKind.u64))) (2 ^ min (Int.toNat (16 : Int)) (IntKind.bits IntKind.u64))) (2 ^ min (Int.toNat (8 : Int)) (IntKind.bits IntKind.u64))))) 0))), ()), ())))
 (tst (decide (0 ≤ IntKind.wrap IntKind.u8 (Int.fdiv (Int.fdiv x0 (2 ^ min (Int.toNat (32 : Int)) (IntKind.bits IntKind.u64))) (2 ^ min (Int.toNat (16 : Int)) (IntKind.bits IntKind.u64))))) <|
 tst (decide (IntKind.wrap IntKind.u8 (Int.fdiv (Int.fdiv x0 (2 ^ min (Int.toNat (32 : Int)) (IntKind.bits IntKind.u64))) (2 ^ min (Int.toNat (16 : Int)) (IntKind.bits IntKind.u64))) < (zz 256))) <|
 some (((w64 (w64 ((32 : Int) + (16 : Int)) + w64 (zz (List.getD [0, 1, 2, 2, 3, 3, 3, 3, 4, 4, 4, 4, 4, 4, 4, 4, 5, 5, 5, 5, 5, 5, 5, 5, 5, 5, 5, 5, 5, 5, 5, 5, 6, 6, 6, 6, 6, 6, 6, 6, 6, 6, 6, 6, 6, 6, 6, 6, 6, 6, 6, 6, 6, 6, 6, 6, 6, 6, 6, 6, 6, 6, 6, 6, 7, 7, 7, 7, 7, 7, 7, 7, 7, 7, 7, 7, 7, 7, 7, 7, 7, 7, 7, 7, 7, 7, 7, 7, 7, 7, 7, 7, 7, 7, 7, 7, 7, 7, 7, 7, 7, 7, 7, 7, 7, 7, 7, 7, 7, 7, 7, 7, 7, 7, 7, 7, 7, 7, 7, 7, 7, 7, 7, 7, 7, 7, 7, 7, 8, 8, 8, 8, 8, 8, 8, 8, 8, 8, 8, 8, 8, 8, 8, 8, 8, 8, 8, 8, 8, 8, 8, 8, 8, 8, 8, 8, 8, 8, 8, 8, 8, 8, 8, 8, 8, 8, 8, 8, 8, 8, 8, 8, 8, 8, 8, 8, 8, 8, 8, 8, 8, 8, 8, 8, 8, 8, 8, 8, 8, 8, 8, 8, 8, 8, 8, 8, 8, 8, 8, 8, 8, 8, 8, 8, 8, 8, 8, 8, 8, 8, 8, 8, 8, 8, 8, 8, 8, 8, 8, 8, 8, 8, 8, 8, 8, 8, 8, 8, 8, 8, 8, 8, 8, 8, 8, 8, 8, 8, 8, 8, 8, 8, 8, 8, 8, 8, 8, 8, 8, 8, 8, 8, 8, 8, 8, 8] (Int.toNat (IntKind.wrap IntKind.u8 (Int.fdiv (Int.fdiv x0 (2 ^ min (Int.toNat (32 : Int)) (IntKind.bits IntKind.u64))) (2 ^ min (Int.toNat (16 : Int)) (IntKind.bits IntKind.u64))))) 0))), ()), ()))))
 (cond (decide (Int.fdiv x0 (2 ^ min (Int.toNat (32 : Int)) (IntKind.bits IntKind.u64)) ≥ (256 : Int)))
 (tst (decide (0 ≤ IntKind.wrap IntKind.u8 (Int.fdiv (Int.fdiv x0 (2 ^ min (Int.toNat (32 : Int)) (IntKind.bits IntKind.u64))) (2 ^ min (Int.toNat (8 : Int)) (IntKind.bits IntKind.u64))))) <|
 tst (decide (IntKind.wrap IntKind.u8 (Int.fdiv (Int.fdiv x0 (2 ^ min (Int.toNat (32 : Int)) (IntKind.bits IntKind.u64))) (2 ^ min (Int.toNat (8 : Int)) (IntKind.bits IntKind.u64))) < (zz 256))) <|
 some (((w64 (w64 ((32 : Int) + (8 : Int)) + w64 (zz (List.getD [0, 1, 2, 2, 3, 3, 3, 3, 4, 4, 4, 4, 4, 4, 4, 4, 5, 5, 5, 5, 5, 5, 5, 5, 5, 5, 5, 5, 5, 5, 5, 5, 6, 6, 6, 6, 6, 6, 6, 6, 6, 6, 6, 6, 6, 6, 6, 6, 6, 6, 6, 6, 6, 6, 6, 6, 6, 6, 6, 6, 6, 6, 6, 6, 7, 7, 7, 7, 7, 7, 7, 7, 7, 7, 7, 7, 7, 7, 7, 7, 7, 7, 7, 7, 7, 7, 7, 7, 7, 7, 7, 7, 7, 7, 7, 7, 7, 7, 7, 7, 7, 7, 7, 7, 7, 7, 7, 7, 7, 7, 7, 7, 7, 7, 7, 7, 7, 7, 7, 7, 7, 7, 7, 7, 7, 7, 7, 7, 8, 8, 8, 8, 8, 8, 8, 8, 8, 8, 8, 8, 8, 8, 8, 8, 8, 8, 8, 8, 8, 8, 8, 8, 8, 8, 8, 8, 8, 8, 8, 8, 8, 8, 8, 8, 8, 8, 8, 8, 8, 8, 8, 8, 8, 8, 8, 8, 8, 8, 8, 8, 8, 8, 8, 8, 8, 8, 8, 8, 8, 8, 8, 8, 8, 8, 8, 8, 8, 8, 8, 8, 8, 8, 8, 8, 8, 8, 8, 8, 8, 8, 8, 8, 8, 8, 8, 8, 8, 8, 8, 8, 8, 8, 8, 8, 8, 8, 8, 8, 8, 8, 8, 8, 8, 8, 8, 8, 8, 8, 8, 8, 8, 8, 8, 8, 8, 8, 8, 8, 8, 8, 8, 8, 8, 8, 8, 8] (Int.toNat (IntKind.wrap IntKind.u8 (Int.fdiv (Int.fdiv x0 (2 ^ min (Int.toNat (32 : Int)) (IntKind.bits IntKind.u64))) (2 ^ min (Int.toNat (8 : Int)) (IntKind.bits IntKind.u64))))) 0))), ()), ())))
 (tst (decide (0 ≤ IntKind.wrap IntKind.u8 (Int.fdiv x0 (2 ^ min (Int.toNat (32 : Int)) (IntKind.bits IntKind.u64))))) <|
 tst (decide (IntKind.wrap IntKind.u8 (Int.fdiv x0 (2 ^ min (Int.toNat (32 : Int)) (IntKind.bits IntKind.u64))) < (zz 256))) <|
 some (((w64 ((32 : Int) + w64 (zz (List.getD [0, 1, 2, 2, 3, 3, 3, 3, 4, 4, 4, 4, 4, 4, 4, 4, 5, 5, 5, 5, 5, 5, 5, 5, 5, 5, 5, 5, 5, 5, 5, 5, 6, 6, 6, 6, 6, 6, 6, 6, 6, 6, 6, 6, 6, 6, 6, 6, 6, 6, 6, 6, 6, 6, 6, 6, 6, 6, 6, 6, 6, 6, 6, 6, 7, 7, 7, 7, 7, 7, 7, 7, 7, 7, 7, 7, 7, 7, 7, 7, 7, 7, 7, 7, 7, 7, 7, 7, 7, 7, 7, 7, 7, 7, 7, 7, 7, 7, 7, 7, 7, 7, 7, 7, 7, 7, 7, 7, 7, 7, 7, 7, 7, 7, 7, 7, 7, 7, 7, 7, 7, 7, 7, 7, 7, 7, 7, 7, 8, 8, 8, 8, 8, 8, 8, 8, 8, 8, 8, 8, 8, 8, 8, 8, 8, 8, 8, 8, 8, 8, 8, 8, 8, 8, 8, 8, 8, 8, 8, 8, 8, 8, 8, 8, 8, 8, 8, 8, 8, 8, 8, 8, 8, 8, 8, 8, 8, 8, 8, 8, 8, 8, 8, 8, 8, 8, 8, 8, 8, 8, 8, 8, 8, 8, 8, 8, 8, 8, 8, 8, 8, 8, 8, 8, 8, 8, 8, 8, 8, 8, 8, 8, 8, 8, 8, 8, 8, 8, 8, 8, 8, 8, 8, 8, 8, 8, 8, 8, 8, 8, 8, 8, 8, 8, 8, 8, 8, 8, 8, 8, 8, 8, 8, 8, 8, 8, 8, 8, 8, 8, 8, 8, 8, 8, 8, 8] (Int.toNat (IntKind.wrap IntKind.u8 (Int.fdiv x0 (2 ^ min (Int.toNat (32 : Int)) (IntKind.bits IntKind.u64))))) 0))), ()), ())))))
 (cond (decide (x0 ≥ (65536 : Int)))
 (cond (decide (Int.fdiv x0 (2 ^ min (Int.toNat (16 : Int)) (IntKind.bits IntKind.u64)) ≥ (256 : Int)))
 (tst (decide (0 ≤ IntKind.wrap IntKind.u8 (Int.fdiv (Int.fdiv x0 (2 ^ min (Int.toNat (16 : Int)) (IntKind.bits IntKind.u64))) (2 ^ min (Int.toNat (8 : Int)) (IntKind.bits IntKind.u64))))) <|
 tst (decide (IntKind.wrap IntKind.u8 (Int.fdiv (Int.fdiv x0 (2 ^ min (Int.toNat (16 : Int)) (IntKind.bits IntKind.u64))) (2 ^ min (Int.toNat (8 : Int)) (IntKind.bits IntKind.u64))) < (zz 256))) <|
 some (((w64 (w64 (w64 ((0 : Int) + (16 : Int)) + (8 : Int)) + w64 (zz (List.getD [0, 1, 2, 2, 3, 3, 3, 3, 4, 4, 4, 4, 4, 4, 4, 4, 5, 5, 5, 5, 5, 5, 5, 5, 5, 5, 5, 5, 5, 5, 5, 5, 6, 6, 6, 6, 6, 6, 6, 6, 6, 6, 6, 6, 6, 6, 6, 6, 6, 6, 6, 6, 6, 6, 6, 6, 6, 6, 6, 6, 6, 6, 6, 6, 7, 7, 7, 7, 7, 7, 7, 7, 7, 7, 7, 7, 7, 7, 7, 7, 7, 7, 7, 7, 7, 7, 7, 7, 7, 7, 7, 7, 7, 7, 7, 7, 7, 7, 7, 7, 7, 7, 7, 7, 7, 7, 7, 7, 7, 7, 7, 7, 7, 7, 7, 7, 7, 7, 7, 7, 7, 7, 7, 7, 7, 7, 7, 7, 8, 8, 8, 8, 8, 8, 8, 8, 8, 8, 8, 8, 8, 8, 8, 8, 8, 8, 8, 8, 8, 8, 8, 8, 8, 8, 8, 8, 8, 8, 8, 8, 8, 8, 8, 8, 8, 8, 8, 8, 8, 8, 8, 8, 8, 8, 8, 8, 8, 8, 8, 8, 8, 8, 8, 8, 8, 8, 8, 8, 8, 8, 8, 8, 8, 8, 8, 8, 8, 8, 8, 8, 8, 8, 8, 8, 8, 8, 8, 8, 8, 8, 8, 8, 8, 8, 8, 8, 8, 8, 8, 8, 8, 8, 8, 8, 8, 8, 8, 8, 8, 8, 8, 8, 8, 8, 8, 8, 8, 8, 8, 8, 8, 8, 8, 8, 8, 8, 8, 8, 8, 8, 8, 8, 8, 8, 8, 8] (Int.toNat (IntKind.wrap IntKind.u8 (Int.fdiv (Int.fdiv x0 (2 ^ min (Int.toNat (16 : Int)) (IntKind.bits IntKind.u64))) (2 ^ min (Int.toNat (8 : Int)) (IntKind.bits IntKind.u64))))) 0))), ()), ())))
 (tst (decide (0 ≤ IntKind.wrap IntKind.u8 (Int.fdiv x0 (2 ^ min (Int.toNat (16 : Int)) (IntKind.bits IntKind.u64))))) <|
 tst (decide (IntKind.wrap IntKind.u8 (Int.fdiv x0 (2 ^ min (Int.toNat (16 : Int)) (IntKind.bits IntKind.u64))) < (zz 256))) <|
 some (((w64 (w64 ((0 : Int) + (16 : Int)) + w64 (zz (List.getD [0, 1, 2, 2, 3, 3, 3, 3, 4, 4, 4, 4, 4, 4, 4, 4, 5, 5, 5, 5, 5, 5, 5, 5, 5, 5, 5, 5, 5, 5, 5, 5, 6, 6, 6, 6, 6, 6, 6, 6, 6, 6, 6, 6, 6, 6, 6, 6, 6, 6, 6, 6, 6, 6, 6, 6, 6, 6, 6, 6, 6, 6, 6, 6, 7, 7, 7, 7, 7, 7, 7, 7, 7, 7, 7, 7, 7, 7, 7, 7, 7, 7, 7, 7, 7, 7, 7, 7, 7, 7, 7, 7, 7, 7, 7, 7, 7, 7, 7, 7, 7, 7, 7, 7, 7, 7, 7, 7, 7, 7, 7, 7, 7, 7, 7, 7, 7, 7, 7, 7, 7, 7, 7, 7, 7, 7, 7, 7, 8, 8, 8, 8, 8, 8, 8, 8, 8, 8, 8, 8, 8, 8, 8, 8, 8, 8, 8, 8, 8, 8, 8, 8, 8, 8, 8, 8, 8, 8, 8, 8, 8, 8, 8, 8, 8, 8, 8, 8, 8, 8, 8, 8, 8, 8, 8, 8, 8, 8, 8, 8, 8, 8, 8, 8, 8, 8, 8, 8, 8, 8, 8, 8, 8, 8, 8, 8, 8, 8, 8, 8, 8, 8, 8, 8, 8, 8, 8, 8, 8, 8, 8, 8, 8, 8, 8, 8, 8, 8, 8, 8, 8, 8, 8, 8, 8, 8, 8, 8, 8, 8, 8, 8, 8, 8, 8, 8, 8, 8, 8, 8, 8, 8, 8, 8, 8, 8, 8, 8, 8, 8, 8, 8, 8, 8, 8, 8] (Int.toNat (IntKind.wrap IntKind.u8 (Int.fdiv x0 (2 ^ min (Int.toNat (16 : Int)) (IntKind.bits IntKind.u64))))) 0))), ()), ()))))
 (cond (decide (x0 ≥ (256 : Int)))
 (tst (decide (0 ≤ IntKind.wrap IntKind.u8 (Int.fdiv x0 (2 ^ min (Int.toNat (8 : Int)) (IntKind.bits IntKind.u64))))) <|
 tst (decide (IntKind.wrap IntKind.u8 (Int.fdiv x0 (2 ^ min (Int.toNat (8 : Int)) (IntKind.bits IntKind.u64))) < (zz 256))) <|
 some (((w64 (w64 ((0 : Int) + (8 : Int)) + w64 (zz (List.getD [0, 1, 2, 2, 3, 3, 3, 3, 4, 4, 4, 4, 4, 4, 4, 4, 5, 5, 5, 5, 5, 5, 5, 5, 5, 5, 5, 5, 5, 5, 5, 5, 6, 6, 6, 6, 6, 6, 6, 6, 6, 6, 6, 6, 6, 6, 6, 6, 6, 6, 6, 6, 6, 6, 6, 6, 6, 6, 6, 6, 6, 6, 6, 6, 7, 7, 7, 7, 7, 7, 7, 7, 7, 7, 7, 7, 7, 7, 7, 7, 7, 7, 7, 7, 7, 7, 7, 7, 7, 7, 7, 7, 7, 7, 7, 7, 7, 7, 7, 7, 7, 7, 7, 7, 7, 7, 7, 7, 7, 7, 7, 7, 7, 7, 7, 7, 7, 7, 7, 7, 7, 7, 7, 7, 7, 7, 7, 7, 8, 8, 8, 8, 8, 8, 8, 8, 8, 8, 8, 8, 8, 8, 8, 8, 8, 8, 8, 8, 8, 8, 8, 8, 8, 8, 8, 8, 8, 8, 8, 8, 8, 8, 8, 8, 8, 8, 8, 8, 8, 8, 8, 8, 8, 8, 8, 8, 8, 8, 8, 8, 8, 8, 8, 8, 8, 8, 8, 8, 8, 8, 8, 8, 8, 8, 8, 8, 8, 8, 8, 8, 8, 8, 8, 8, 8, 8, 8, 8, 8, 8, 8, 8, 8, 8, 8, 8, 8, 8, 8, 8, 8, 8, 8, 8, 8, 8, 8, 8, 8, 8, 8, 8, 8, 8, 8, 8, 8, 8, 8, 8, 8, 8, 8, 8, 8, 8, 8, 8, 8, 8, 8, 8, 8, 8, 8, 8] (Int.toNat (IntKind.wrap IntKind.u8 (Int.fdiv x0 (2 ^ min (Int.toNat (8 : Int)) (IntKind.bits IntKind.u64))))) 0))), ()), ())))
 (tst (decide (0 ≤ IntKind.wrap IntKind.u8 x0)) <|
 tst (decide (IntKind.wrap IntKind.u8 x0 < (zz 256))) <|
 some (((w64 ((0 : Int) + w64 (zz (List.getD [0, 1, 2, 2, 3, 3, 3, 3, 4, 4, 4, 4, 4, 4, 4, 4, 5, 5, 5, 5, 5, 5, 5, 5, 5, 5, 5, 5, 5, 5, 5, 5, 6, 6, 6, 6, 6, 6, 6, 6, 6, 6, 6, 6, 6, 6, 6, 6, 6, 6, 6, 6, 6, 6, 6, 6, 6, 6, 6, 6, 6, 6, 6, 6, 7, 7, 7, 7, 7, 7, 7, 7, 7, 7, 7, 7, 7, 7, 7, 7, 7, 7, 7, 7, 7, 7, 7, 7, 7, 7, 7, 7, 7, 7, 7, 7, 7, 7, 7, 7, 7, 7, 7, 7, 7, 7, 7, 7, 7, 7, 7, 7, 7, 7, 7, 7, 7, 7, 7, 7, 7, 7, 7, 7, 7, 7, 7, 7, 8, 8, 8, 8, 8, 8, 8, 8, 8, 8, 8, 8, 8, 8, 8, 8, 8, 8, 8, 8, 8, 8, 8, 8, 8, 8, 8, 8, 8, 8, 8, 8, 8, 8, 8, 8, 8, 8, 8, 8, 8, 8, 8, 8, 8, 8, 8, 8, 8, 8, 8, 8, 8, 8, 8, 8, 8, 8, 8, 8, 8, 8, 8, 8, 8, 8, 8, 8, 8, 8, 8, 8, 8, 8, 8, 8, 8, 8, 8, 8, 8, 8, 8, 8, 8, 8, 8, 8, 8, 8, 8, 8, 8, 8, 8, 8, 8, 8, 8, 8, 8, 8, 8, 8, 8, 8, 8, 8, 8, 8, 8, 8, 8, 8, 8, 8, 8, 8, 8, 8, 8, 8, 8, 8, 8, 8, 8, 8] (Int.toNat (IntKind.wrap IntKind.u8 x0)) 0))), ()), ())))))
def znB (fuel : Nat) (x : ((Int × Unit) × Unit)) : Option ((Int × Unit) × Unit) := zGu fuel x.1.1
theorem zGv (fuel : Nat) (x : PsT znA) : run (zue fuel) 0 fuel zuh (env0 (svPs znA x) 0) [] (endF zui zuf) = znB fuel x := by kernel_rfl
def znC (fuel : Nat) : TF := ⟨znA, zuf, true, znB fuel⟩
theorem zGw (fuel : Nat) : FnSpec Tryz.prog 210 (znC fuel) :=
  fn_spec (T := zue fuel) (c := bodyOf Tryz.f210) (fn := Tryz.f210) (TabOK.of (entNil) (methNil)) mixed (by kernel_rfl) (by kernel_rfl) zGt (by kernel_rfl) (Nat.le_of_ble_eq_true (by kernel_rfl)) (rv := zui) (by kernel_rfl) (zGv fuel)
theorem zGx (fuel : Nat) : EntryOK Tryz.prog 210 (znC fuel).te := EntryOK.tf rfl (zGw fuel) (isFn (fn := Tryz.f210) (by kernel_rfl) (by kernel_rfl) (by kernel_rfl))
def zuj (fuel : Nat) : Tab := Tab.of [(210, (znC fuel).te)] []
abbrev znD : List Pm := [{ cs := [(Kd.int IntKind.u64, false)], ag := false }]
abbrev zuk : List Pm := [{ cs := [(I6, false)], ag := false }]
def zul : List Norm := []
noncomputable def zum : C := irOf Tryz.prog Tryz.f199 [] zul []
theorem zGy : lightC Tryz.prog [] Tryz.f199.ntmps zul [] 0 (bodyOf Tryz.f199) = some (zum, 0) := by kernel_rfl
def zun : List (Nat × Option (Nat × Bool)) := [(2, none)]
def zGz (fuel : Nat) (x0 : Int) : Option ((Int × Unit) × Unit) :=
 Option.bind (znB fuel ((x0, ()), ())) fun y_1 =>
 some (((y_1.1.1, ()), ()))
def zcz (fuel : Nat) (x : ((Int × Unit) × Unit)) : Option ((Int × Unit) × Unit) := zGz fuel x.1.1
theorem zGA (fuel : Nat) (x : PsT znD) : run (zuj fuel) 0 fuel zum (env0 (svPs znD x) 0) [] (endF zun zuk) = zcz fuel x := by kernel_rfl
def zjm (fuel : Nat) : TF := ⟨znD, zuk, true, zcz fuel⟩
theorem zGB (fuel : Nat) : FnSpec Tryz.prog 199 (zjm fuel) :=
  fn_spec (T := zuj fuel) (c := bodyOf Tryz.f199) (fn := Tryz.f199) (TabOK.of (entCons (zGx fuel) entNil) (methNil)) mixed (by kernel_rfl) (by kernel_rfl) zGy (by kernel_rfl) (Nat.le_of_ble_eq_true (by kernel_rfl)) (rv := zun) (by kernel_rfl) (zGA fuel)
theorem zuo (fuel : Nat) : EntryOK Tryz.prog 199 (zjm fuel).te := EntryOK.tf rfl (zGB fuel) (isFn (fn := Tryz.f199) (by kernel_rfl) (by kernel_rfl) (by kernel_rfl))
def zup (fuel : Nat) : Tab := Tab.of [(198, (zji fuel).te), (198, (zjl fuel).te), (199, (zjm fuel).te)] []
abbrev znE : Sh := (.fnc 193 .nil)
abbrev zuq : List Pm := []
def zur : List Norm := []
noncomputable def zus : C := irOf Tryz.prog Tryz.f195 [] zur []
theorem zGC : lightC Tryz.prog [] Tryz.f195.ntmps zur [] 0 (bodyOf Tryz.f195) = some (zus, 0) := by kernel_rfl
def zut : List (Nat × Option (Nat × Bool)) := []
def znF (fuel : Nat) (d0 : LP) : Option (LP × Unit) :=
 Option.bind (zcz fuel ((IntKind.wrap IntKind.u64 (zz (List.length d0)), ()), ())) fun y_1 =>
 Option.bind (zjh fuel (d0, (), (0 : Int), (zz (List.length d0)), y_1.1.1, ())) fun y_2 =>
 some ((y_2.1, ()))
def zjn (fuel : Nat) (z : LP × Unit × Unit) : Option (LP × Unit) := znF fuel z.1
theorem zGD (fuel : Nat) (c : List (Kd.T KP)) (d : CsT []) (x : Sh.T znE) : run (zup fuel) 1 fuel zus ((0, firstV false 0 (svCs [] d)) :: env0 (svS znE x) 1) [.arr KP c 0] (endS zut KP false zuq) = zjn fuel (c, d, x) := by kernel_rfl
def zjo (fuel : Nat) : TFT := ⟨KP, false, [], znE, zuq, false, zjn fuel⟩
theorem zGE (fuel : Nat) : FnSpecT Tryz.prog 195 (zjo fuel) :=
  za7 (T := zup fuel) (c := bodyOf Tryz.f195) (fn := Tryz.f195) (TabOK.of (entCons (zt9 fuel) (entCons (zud fuel) (entCons (zuo fuel) entNil))) (methNil)) mixed (by kernel_rfl) (by kernel_rfl) zGC (by kernel_rfl) (Nat.le_of_ble_eq_true (by kernel_rfl)) (rv := zut) (by kernel_rfl) (zGD fuel)
theorem zuu (fuel : Nat) : EntryOK Tryz.prog 195 (zjo fuel).te := EntryOK.tft (zGE fuel) (isFn (fn := Tryz.f195) (by kernel_rfl) (by kernel_rfl) (by kernel_rfl))
def zuv (fuel : Nat) : Tab := Tab.of [(198, (zji fuel).te), (198, (zjl fuel).te), (199, (zjm fuel).te)] []
abbrev znG : Sh := (.fnc 194 .nil)
abbrev zuw : List Pm := []
def zux : List Norm := []
noncomputable def zuy : C := irOf Tryz.prog Tryz.f195 [] zux []
theorem zGF : lightC Tryz.prog [] Tryz.f195.ntmps zux [] 0 (bodyOf Tryz.f195) = some (zuy, 0) := by kernel_rfl
def zuz : List (Nat × Option (Nat × Bool)) := []
def znH (fuel : Nat) (d0 : LP) : Option (LP × Unit) :=
 Option.bind (zcz fuel ((IntKind.wrap IntKind.u64 (zz (List.length d0)), ()), ())) fun y_1 =>
 Option.bind (zjk fuel (d0, (), (0 : Int), (zz (List.length d0)), y_1.1.1, ())) fun y_2 =>
 some ((y_2.1, ()))
def zjp (fuel : Nat) (z : LP × Unit × Unit) : Option (LP × Unit) := znH fuel z.1
theorem zGG (fuel : Nat) (c : List (Kd.T KP)) (d : CsT []) (x : Sh.T znG) : run (zuv fuel) 1 fuel zuy ((0, firstV false 0 (svCs [] d)) :: env0 (svS znG x) 1) [.arr KP c 0] (endS zuz KP false zuw) = zjp fuel (c, d, x) := by kernel_rfl
def zjq (fuel : Nat) : TFT := ⟨KP, false, [], znG, zuw, false, zjp fuel⟩
theorem zGH (fuel : Nat) : FnSpecT Tryz.prog 195 (zjq fuel) :=
  za7 (T := zuv fuel) (c := bodyOf Tryz.f195) (fn := Tryz.f195) (TabOK.of (entCons (zt9 fuel) (entCons (zud fuel) (entCons (zuo fuel) entNil))) (methNil)) mixed (by kernel_rfl) (by kernel_rfl) zGF (by kernel_rfl) (Nat.le_of_ble_eq_true (by kernel_rfl)) (rv := zuz) (by kernel_rfl) (zGG fuel)
theorem zuA (fuel : Nat) : EntryOK Tryz.prog 195 (zjq fuel).te := EntryOK.tft (zGH fuel) (isFn (fn := Tryz.f195) (by kernel_rfl) (by kernel_rfl) (by kernel_rfl))
def zuB (fuel : Nat) : Tab := Tab.of [(195, (zjo fuel).te), (195, (zjq fuel).te)] []
abbrev znI : Sh := (.num .i64 (0) .nil)
abbrev zuC : List Pm := []
def zuD : List Norm := []
noncomputable def zuE : C := irOf Tryz.prog Tryz.f183 [] zuD []
theorem zGI : lightC Tryz.prog [] Tryz.f183.ntmps zuD [] 0 (bodyOf Tryz.f183) = some (zuE, 0) := by kernel_rfl
def zuF : List (Nat × Option (Nat × Bool)) := []
def znJ (fuel : Nat) (d0 : LP) : Option (LP × Unit) :=
 Option.bind (zjn fuel (d0, (), ())) fun y_1 =>
 some ((y_1.1, ()))
def zjr (fuel : Nat) (z : LP × Unit × Unit) : Option (LP × Unit) := znJ fuel z.1
theorem zGJ (fuel : Nat) (c : List (Kd.T KP)) (d : CsT []) (x : Sh.T znI) : run (zuB fuel) 1 fuel zuE ((0, firstV false 0 (svCs [] d)) :: env0 (svS znI x) 1) [.arr KP c 0] (endS zuF KP false zuC) = zjr fuel (c, d, x) := by kernel_rfl
def zcA (fuel : Nat) : TFT := ⟨KP, false, [], znI, zuC, false, zjr fuel⟩
theorem zGK (fuel : Nat) : FnSpecT Tryz.prog 183 (zcA fuel) :=
  za7 (T := zuB fuel) (c := bodyOf Tryz.f183) (fn := Tryz.f183) (TabOK.of (entCons (zuu fuel) (entCons (zuA fuel) entNil)) (methNil)) mixed (by kernel_rfl) (by kernel_rfl) zGI (by kernel_rfl) (Nat.le_of_ble_eq_true (by kernel_rfl)) (rv := zuF) (by kernel_rfl) (zGJ fuel)
theorem zjs (fuel : Nat) : EntryOK Tryz.prog 183 (zcA fuel).te := EntryOK.tft (zGK fuel) (isFn (fn := Tryz.f183) (by kernel_rfl) (by kernel_rfl) (by kernel_rfl))
def zuG (fuel : Nat) : Tab := Tab.of [(195, (zjo fuel).te), (195, (zjq fuel).te)] []
abbrev znK : Sh := (.num .i64 (1) .nil)
abbrev zuH : List Pm := []
def zuI : List Norm := []
noncomputable def zuJ : C := irOf Tryz.prog Tryz.f183 [] zuI []
theorem zGL : lightC Tryz.prog [] Tryz.f183.ntmps zuI [] 0 (bodyOf Tryz.f183) = some (zuJ, 0) := by kernel_rfl
def zuK : List (Nat × Option (Nat × Bool)) := []
def znL (fuel : Nat) (d0 : LP) : Option (LP × Unit) :=
 Option.bind (zjp fuel (d0, (), ())) fun y_1 =>
 some ((y_1.1, ()))
def zcB (fuel : Nat) (z : LP × Unit × Unit) : Option (LP × Unit) := znL fuel z.1
theorem zGM (fuel : Nat) (c : List (Kd.T KP)) (d : CsT []) (x : Sh.T znK) : run (zuG fuel) 1 fuel zuJ ((0, firstV false 0 (svCs [] d)) :: env0 (svS znK x) 1) [.arr KP c 0] (endS zuK KP false zuH) = zcB fuel (c, d, x) := by kernel_rfl
def zcC (fuel : Nat) : TFT := ⟨KP, false, [], znK, zuH, false, zcB fuel⟩
theorem zGN (fuel : Nat) : FnSpecT Tryz.prog 183 (zcC fuel) :=
  za7 (T := zuG fuel) (c := bodyOf Tryz.f183) (fn := Tryz.f183) (TabOK.of (entCons (zuu fuel) (entCons (zuA fuel) entNil)) (methNil)) mixed (by kernel_rfl) (by kernel_rfl) zGL (by kernel_rfl) (Nat.le_of_ble_eq_true (by kernel_rfl)) (rv := zuK) (by kernel_rfl) (zGM fuel)
theorem zjt (fuel : Nat) : EntryOK Tryz.prog 183 (zcC fuel).te := EntryOK.tft (zGN fuel) (isFn (fn := Tryz.f183) (by kernel_rfl) (by kernel_rfl) (by kernel_rfl))
end Go.Proofs.YtdgdoeknpakmlaaGreat.Den
namespace Go.Proofs.YtdgdoeknpakmlaaGreat.Den
open Go Go.RowKit
abbrev zbo := Option ((LP × (Int × (Int × Unit))) × Unit)
def zfp (fuel : Nat) : Tab := Tab.of [(182, (zfc fuel).te), (183, (zcA fuel).te), (183, (zcC fuel).te)] []
abbrev zju : List Pm := [{ cs := [(Kd.list KP, false), (I6, false), (I6, false)], ag := true }]
abbrev zfq : List Pm := [{ cs := [(Kd.list KP, false), (I6, false), (I6, false)], ag := true }]
def zuL : List Norm := [{ live := [26, 25, 24, 4, 5, 1, 2], fix := [] }]
noncomputable def zfr : C := irOf Tryz.prog Tryz.f136 [] zuL []
theorem zGO : lightC Tryz.prog [] Tryz.f136.ntmps zuL [] 0 (bodyOf Tryz.f136) = some (zfr, 1) := by kernel_rfl
def zfs : List (Nat × Option (Nat × Bool)) := [(2, some (3, true))]
abbrev zcD := (Int) × (Int) × LP × (Int) × LP × LP × (Int) × (Int) × (Int) × (Int)
def zuM (v : zcD) : Env × Heap := ([(26, SV.int .i64 v.1), (25, SV.int .i64 v.2.1), (24, SV.es KP v.2.2.1), (4, SV.int .i64 v.2.2.2.1), (5, SV.own 0), (1, SV.ptr 1 0), (2, SV.ptr 2 0)], [Blk.arr KP v.2.2.2.2.1 0, Blk.cells [SV.es KP v.2.2.2.2.2.1, SV.int .i64 v.2.2.2.2.2.2.1, SV.int .i64 v.2.2.2.2.2.2.2.1] 0 3, Blk.cells [SV.nils, SV.int .i64 v.2.2.2.2.2.2.2.2.1, SV.int .i64 v.2.2.2.2.2.2.2.2.2] 0 3])
def zft (fuel : Nat) (g0 : zcD → zbo) (v : zcD) : zbo :=
 cond (decide (v.1 < v.2.1))
 (tst (decide (0 ≤ v.1)) <|
 tst (decide (v.1 < (zz (List.length v.2.2.1)))) <|
 cond (decide ((List.getD v.2.2.1 (Int.toNat v.1) (0, (0, ()))).2.1 > v.2.2.2.1))
 (tst (decide (List.length v.2.2.2.2.1 + 1 < LIM)) <|
 g0 (w64 (v.1 + (1 : Int)), v.2.1, v.2.2.1, v.2.2.2.1, v.2.2.2.2.1 ++ [((List.getD v.2.2.1 (Int.toNat v.1) (0, (0, ()))).1, w64 ((List.getD v.2.2.1 (Int.toNat v.1) (0, (0, ()))).2.1 - v.2.2.2.1), ())], v.2.2.2.2.2.1, v.2.2.2.2.2.2.1, v.2.2.2.2.2.2.2.1, v.2.2.2.2.2.2.2.2.1, v.2.2.2.2.2.2.2.2.2))
 (g0 (w64 (v.1 + (1 : Int)), v.2.1, v.2.2.1, v.2.2.2.1, v.2.2.2.2.1, v.2.2.2.2.2.1, v.2.2.2.2.2.2.1, v.2.2.2.2.2.2.2.1, v.2.2.2.2.2.2.2.2.1, v.2.2.2.2.2.2.2.2.2)))
 (some (((v.2.2.2.2.1, w64 (v.2.2.2.2.2.2.1 + v.2.2.2.1), v.2.2.2.2.2.2.2.1, ()), ())))
def zcE (fuel : Nat) (g0 : zcD → zbo) : zcD → zbo := zft fuel g0
theorem zGP (fuel : Nat) (G) : zfr.lp (zfp fuel) 0 fuel G (endF zfs zfq) 0 zuM = iter (zcE fuel) fuel := C.lp_iter fun g v => by kernel_rfl
def zaO (fuel : Nat) (X0 : zcD → zbo) (x0 : LP) (x1 : Int) (x2 : Int) : zbo :=
 cond (decide ((zz (List.length x0)) ≤ (4 : Int)))
 (some (((x0, x1, x2, ()), ())))
 (Option.bind (zcq fuel ((x0, ()), ())) fun y_2 =>
 Option.bind (zcB fuel (y_2.1.1, (), ())) fun y_3 =>
 tst (decide ((4 : Int) < (zz (List.length y_3.1)))) <|
 tst (decide (Int.toNat (4 : Int) < List.length y_3.1)) <|
 X0 ((0 : Int), (zz (List.length x0)), x0, (List.getD y_3.1 (Int.toNat (4 : Int)) (0, (0, ()))).2.1, List.replicate (Int.toNat (0 : Int)) (0, (0, ())), x0, x1, x2, (0 : Int), (0 : Int)))
def zcF (fuel : Nat) (x : ((LP × (Int × (Int × Unit))) × Unit)) : zbo := zaO fuel (iter (zcE fuel) fuel) x.1.1 x.1.2.1 x.1.2.2.1
theorem zGQ (fuel : Nat) (x : PsT zju) : run (zfp fuel) 0 fuel zfr (env0 (svPs zju x) 0) [] (endF zfs zfq) = zcF fuel x :=
  (show run (zfp fuel) 0 fuel zfr (env0 (svPs zju x) 0) [] (endF zfs zfq) = zaO fuel (zfr.lp (zfp fuel) 0 fuel (fun _ _ _ => none) (endF zfs zfq) 0 zuM) x.1.1 x.1.2.1 x.1.2.2.1 by kernel_rfl).trans (by rw [zGP]; rfl)
def znM (fuel : Nat) : TF := ⟨zju, zfq, false, zcF fuel⟩
theorem zGR (fuel : Nat) : FnSpec Tryz.prog 136 (znM fuel) :=
  fn_spec (T := zfp fuel) (c := bodyOf Tryz.f136) (fn := Tryz.f136) (TabOK.of (entCons (znl fuel) (entCons (zjs fuel) (entCons (zjt fuel) entNil))) (methNil)) mixed (by kernel_rfl) (by kernel_rfl) zGO (by kernel_rfl) (Nat.le_of_ble_eq_true (by kernel_rfl)) (rv := zfs) (by kernel_rfl) (zGQ fuel)
theorem zGS (fuel : Nat) : EntryOK Tryz.prog 136 (znM fuel).te := EntryOK.tf rfl (zGR fuel) (isFn (fn := Tryz.f136) (by kernel_rfl) (by kernel_rfl) (by kernel_rfl))
def zuN (fuel : Nat) : Tab := Tab.of [] []
abbrev znN : Sh := (.nls (.cell I6 0 .nil))
abbrev zuO : Sh := (.cell (Kd.list KP) 1 .nil)
def zuP : List Norm := []
noncomputable def zuQ : C := irOf Tryz.prog Tryz.f196 [] zuP []
theorem zGT : lightC Tryz.prog [] Tryz.f196.ntmps zuP [] 0 (bodyOf Tryz.f196) = some (zuQ, 0) := by kernel_rfl
def zuR : List (Nat × Option (Nat × Bool)) := [(4, none)]
def znO (fuel : Nat) (x0 : Int) : Option (LP × Unit) :=
 cond (decide (x0 < (0 : Int)))
 (none)
 (cond (decide (w64 (x0 - w64 (0 - (zz 0))) > (0 : Int)))
 (tst (decide (0 ≤ w64 (x0 - w64 (0 - (zz 0))))) <|
 tst (decide (Int.toNat (w64 (x0 - w64 (0 - (zz 0)))) < LIM)) <|
 tst (decide ((zz 0) ≤ (zz (List.length (List.replicate (Int.toNat (w64 (x0 - w64 (0 - (zz 0))))) (Kd.dflt KP)))))) <|
 some ((List.take (Int.toNat (zz 0) - 0) (List.drop 0 (List.replicate (Int.toNat (w64 (x0 - w64 (0 - (zz 0))))) (0, (0, ())))), ())))
 (some (([], ()))))
def zjv (fuel : Nat) (x : (Int × Unit)) : Option (LP × Unit) := znO fuel x.1
theorem zGU (fuel : Nat) (x : Sh.T znN) : run (zuN fuel) 0 fuel zuQ (env0 (svS znN x) 0) [] (endG zuR zuO) = zjv fuel x := by kernel_rfl
def znP (fuel : Nat) : TG := ⟨znN, zuO, true, zjv fuel⟩
theorem zGV (fuel : Nat) : FnSpecG Tryz.prog 196 (znP fuel) :=
  ze (T := zuN fuel) (c := bodyOf Tryz.f196) (fn := Tryz.f196) (TabOK.of (entNil) (methNil)) mixed (by kernel_rfl) (by kernel_rfl) zGT (by kernel_rfl) (Nat.le_of_ble_eq_true (by kernel_rfl)) (rv := zuR) (by kernel_rfl) (fun x y h => (zGU fuel x).trans h)
theorem zGW (fuel : Nat) : EntryOK Tryz.prog 196 (znP fuel).te := EntryOK.tg rfl (zGV fuel) (isFn (fn := Tryz.f196) (by kernel_rfl) (by kernel_rfl) (by kernel_rfl))
abbrev zE := Option ((LP × Unit) × Unit)
def zaq (fuel : Nat) : Tab := Tab.of [(196, (znP fuel).te)] []
abbrev zjw : List Pm := [{ cs := [(Kd.list (Kd.list KP), false)], ag := false }]
abbrev zaP : List Pm := [{ cs := [(Kd.list KP, true)], ag := false }]
def zuS : List Norm := [{ live := [11, 10, 9, 3, 0], fix := [] }, { live := [27, 26, 25, 6], fix := [] }]
noncomputable def z5 : C := irOf Tryz.prog Tryz.f184 [] zuS []
theorem zGX : lightC Tryz.prog [] Tryz.f184.ntmps zuS [] 0 (bodyOf Tryz.f184) = some (z5, 2) := by kernel_rfl
def zaQ : List (Nat × Option (Nat × Bool)) := [(2, none)]
abbrev zbp := (Int) × (Int) × (List LP) × (Int) × (List LP)
abbrev zbq := (Int) × (Int) × (List LP) × LP
def zcG (v : zbp) : Env × Heap := ([(11, SV.int .i64 v.1), (10, SV.int .i64 v.2.1), (9, SV.es (Kd.list KP) v.2.2.1), (3, SV.int .i64 v.2.2.2.1), (0, SV.es (Kd.list KP) v.2.2.2.2)], [])
def zuT (v : zbq) : Env × Heap := ([(27, SV.int .i64 v.1), (26, SV.int .i64 v.2.1), (25, SV.es (Kd.list KP) v.2.2.1), (6, SV.own 0)], [Blk.arr KP v.2.2.2 0])
def zfu (fuel : Nat) (g1 : zbq → zE) (v : zbq) : zE :=
 cond (decide (v.1 < v.2.1))
 (tst (decide (0 ≤ v.1)) <|
 tst (decide (v.1 < (zz (List.length v.2.2.1)))) <|
 tst (decide (List.length v.2.2.2 + List.length (List.getD v.2.2.1 (Int.toNat v.1) []) < LIM)) <|
 g1 (w64 (v.1 + (1 : Int)), v.2.1, v.2.2.1, v.2.2.2 ++ List.getD v.2.2.1 (Int.toNat v.1) []))
 (some (((v.2.2.2, ()), ())))
def zbr (fuel : Nat) (g1 : zbq → zE) : zbq → zE := zfu fuel g1
theorem zGY (fuel : Nat) (G) : z5.lp (zaq fuel) 0 fuel G (endF zaQ zaP) 1 zuT = iter (zbr fuel) fuel := C.lp_iter fun g v => by kernel_rfl
def zcH (fuel : Nat) (X1 : zbq → zE) (g0 : zbp → zE) (v : zbp) : zE :=
 cond (decide (v.1 < v.2.1))
 (tst (decide (0 ≤ v.1)) <|
 tst (decide (v.1 < (zz (List.length v.2.2.1)))) <|
 cond (decide (w64 (v.2.2.2.1 + (zz (List.length (List.getD v.2.2.1 (Int.toNat v.1) [])))) < (0 : Int)))
 (none)
 (g0 (w64 (v.1 + (1 : Int)), v.2.1, v.2.2.1, w64 (v.2.2.2.1 + (zz (List.length (List.getD v.2.2.1 (Int.toNat v.1) [])))), v.2.2.2.2)))
 (Option.bind (zjv fuel (v.2.2.2.1, ())) fun y_2 =>
 X1 ((0 : Int), (zz (List.length v.2.2.2.2)), v.2.2.2.2, y_2.1))
def zfv (fuel : Nat) (g0 : zbp → zE) : zbp → zE := zcH fuel (iter (zbr fuel) fuel) g0
theorem zGZ (fuel : Nat) (G) : z5.lp (zaq fuel) 0 fuel G (endF zaQ zaP) 0 zcG = iter (zfv fuel) fuel := C.lp_iter fun g v =>
  (show run (zaq fuel) 0 fuel (z5.bdAt 0) (zcG v).1 (zcG v).2 (loopK 0 (z5.nmAt 0) g (z5.contAt (zaq fuel) 0 fuel G 0 0 (endF zaQ zaP))) = zcH fuel (z5.lp (zaq fuel) 0 fuel (fun m => bif Nat.beq m 0 then g else G m) (endF zaQ zaP) 1 zuT) (fun v => g (zcG v).1 (zcG v).2) v by kernel_rfl).trans (by rw [zGY]; rfl)
def zjx (fuel : Nat) (X0 : zbp → zE) (x0 : List LP) : zE :=
 X0 ((0 : Int), (zz (List.length x0)), x0, (0 : Int), x0)
def zjy (fuel : Nat) (x : (((List LP) × Unit) × Unit)) : zE := zjx fuel (iter (zfv fuel) fuel) x.1.1
theorem zG0 (fuel : Nat) (x : PsT zjw) : run (zaq fuel) 0 fuel z5 (env0 (svPs zjw x) 0) [] (endF zaQ zaP) = zjy fuel x :=
  (show run (zaq fuel) 0 fuel z5 (env0 (svPs zjw x) 0) [] (endF zaQ zaP) = zjx fuel (z5.lp (zaq fuel) 0 fuel (fun _ _ _ => none) (endF zaQ zaP) 0 zcG) x.1.1 by kernel_rfl).trans (by rw [zGZ]; rfl)
def znQ (fuel : Nat) : TF := ⟨zjw, zaP, true, zjy fuel⟩
theorem zG1 (fuel : Nat) : FnSpec Tryz.prog 184 (znQ fuel) :=
  fn_spec (T := zaq fuel) (c := bodyOf Tryz.f184) (fn := Tryz.f184) (TabOK.of (entCons (zGW fuel) entNil) (methNil)) mixed (by kernel_rfl) (by kernel_rfl) zGX (by kernel_rfl) (Nat.le_of_ble_eq_true (by kernel_rfl)) (rv := zaQ) (by kernel_rfl) (zG0 fuel)
theorem zG2 (fuel : Nat) : EntryOK Tryz.prog 184 (znQ fuel).te := EntryOK.tf rfl (zG1 fuel) (isFn (fn := Tryz.f184) (by kernel_rfl) (by kernel_rfl) (by kernel_rfl))
abbrev zbs := Option ((LP × Unit) × Unit)
def zfw (fuel : Nat) : Tab := Tab.of [(183, (zcA fuel).te), (183, (zcC fuel).te), (184, (znQ fuel).te)] []
abbrev zjz : List Pm := [{ cs := [(Kd.list KP, false)], ag := false }, { cs := [(Kd.list KP, false)], ag := false }]
abbrev zfx : List Pm := [{ cs := [(Kd.list KP, true)], ag := false }]
def zuU : List Norm := [{ live := [21, 20, 19, 6], fix := [] }]
noncomputable def zfy : C := irOf Tryz.prog Tryz.f137 [] zuU []
theorem zG3 : lightC Tryz.prog [] Tryz.f137.ntmps zuU [] 0 (bodyOf Tryz.f137) = some (zfy, 1) := by kernel_rfl
def zfz : List (Nat × Option (Nat × Bool)) := [(4, none)]
abbrev zcI := (Int) × (Int) × LP × LP
def zuV (v : zcI) : Env × Heap := ([(21, SV.int .i64 v.1), (20, SV.int .i64 v.2.1), (19, SV.own 0), (6, SV.own 1)], [Blk.arr KP v.2.2.1 0, Blk.arr KP v.2.2.2 0])
def zfA (fuel : Nat) (g0 : zcI → zbs) (v : zcI) : zbs :=
 cond (decide (v.1 < v.2.1))
 (tst (decide (0 ≤ v.1)) <|
 tst (decide (v.1 < (zz (List.length v.2.2.1)))) <|
 tst (decide (Int.toNat v.1 < List.length v.2.2.1)) <|
 cond (decide (w64 ((zz (List.length v.2.2.2)) - (1 : Int)) ≥ (0 : Int)))
 (tst (decide (0 ≤ w64 ((zz (List.length v.2.2.2)) - (1 : Int)))) <|
 tst (decide (w64 ((zz (List.length v.2.2.2)) - (1 : Int)) < (zz (List.length v.2.2.2)))) <|
 tst (decide (Int.toNat (w64 ((zz (List.length v.2.2.2)) - (1 : Int))) < List.length v.2.2.2)) <|
 cond ((List.getD v.2.2.2 (Int.toNat (w64 ((zz (List.length v.2.2.2)) - (1 : Int)))) (0, (0, ()))).1 == (List.getD v.2.2.1 (Int.toNat v.1) (0, (0, ()))).1)
 (tst (decide (0 ≤ w64 ((zz (List.length v.2.2.2)) - (1 : Int)))) <|
 tst (decide (w64 ((zz (List.length v.2.2.2)) - (1 : Int)) < (zz (List.length v.2.2.2)))) <|
 tst (decide (Int.toNat (w64 ((zz (List.length v.2.2.2)) - (1 : Int))) < List.length v.2.2.2)) <|
 tst (decide (0 ≤ w64 ((zz (List.length v.2.2.2)) - (1 : Int)))) <|
 tst (decide (w64 ((zz (List.length v.2.2.2)) - (1 : Int)) < (zz (List.length v.2.2.2)))) <|
 tst (decide (Int.toNat (w64 ((zz (List.length v.2.2.2)) - (1 : Int))) < List.length v.2.2.2)) <|
 g0 (w64 (v.1 + (1 : Int)), v.2.1, v.2.2.1, List.set v.2.2.2 (Int.toNat (w64 ((zz (List.length v.2.2.2)) - (1 : Int)))) ((List.getD v.2.2.2 (Int.toNat (w64 ((zz (List.length v.2.2.2)) - (1 : Int)))) (0, (0, ()))).1, w64 ((List.getD v.2.2.2 (Int.toNat (w64 ((zz (List.length v.2.2.2)) - (1 : Int)))) (0, (0, ()))).2.1 + (List.getD v.2.2.1 (Int.toNat v.1) (0, (0, ()))).2.1), ())))
 (tst (decide (List.length v.2.2.2 + 1 < LIM)) <|
 g0 (w64 (v.1 + (1 : Int)), v.2.1, v.2.2.1, v.2.2.2 ++ [((List.getD v.2.2.1 (Int.toNat v.1) (0, (0, ()))).1, (List.getD v.2.2.1 (Int.toNat v.1) (0, (0, ()))).2.1, ())])))
 (tst (decide (List.length v.2.2.2 + 1 < LIM)) <|
 g0 (w64 (v.1 + (1 : Int)), v.2.1, v.2.2.1, v.2.2.2 ++ [((List.getD v.2.2.1 (Int.toNat v.1) (0, (0, ()))).1, (List.getD v.2.2.1 (Int.toNat v.1) (0, (0, ()))).2.1, ())])))
 (some (((v.2.2.2, ()), ())))
def zjA (fuel : Nat) (g0 : zcI → zbs) : zcI → zbs := zfA fuel g0
theorem zG4 (fuel : Nat) (G) : zfy.lp (zfw fuel) 0 fuel G (endF zfz zfx) 0 zuV = iter (zjA fuel) fuel := C.lp_iter fun g v => by kernel_rfl
def zjB (fuel : Nat) (X0 : zcI → zbs) (x0 : LP) (x1 : LP) : zbs :=
 Option.bind (zjy fuel (([x0, x1], ()), ())) fun y_1 =>
 Option.bind (zjr fuel (y_1.1.1, (), ())) fun y_2 =>
 tst (decide ((0 : Int) ≤ (zz (List.length y_2.1)))) <|
 tst (decide (Int.toNat (zz (List.length y_2.1)) < LIM)) <|
 X0 ((0 : Int), (zz (List.length y_2.1)), y_2.1, List.replicate (Int.toNat (0 : Int)) (0, (0, ())))
def zfB (fuel : Nat) (x : ((LP × Unit) × ((LP × Unit) × Unit))) : zbs := zjB fuel (iter (zjA fuel) fuel) x.1.1 x.2.1.1
theorem zG5 (fuel : Nat) (x : PsT zjz) : run (zfw fuel) 0 fuel zfy (env0 (svPs zjz x) 0) [] (endF zfz zfx) = zfB fuel x :=
  (show run (zfw fuel) 0 fuel zfy (env0 (svPs zjz x) 0) [] (endF zfz zfx) = zjB fuel (zfy.lp (zfw fuel) 0 fuel (fun _ _ _ => none) (endF zfz zfx) 0 zuV) x.1.1 x.2.1.1 by kernel_rfl).trans (by rw [zG4]; rfl)
def zjC (fuel : Nat) : TF := ⟨zjz, zfx, true, zfB fuel⟩
theorem zG6 (fuel : Nat) : FnSpec Tryz.prog 137 (zjC fuel) :=
  fn_spec (T := zfw fuel) (c := bodyOf Tryz.f137) (fn := Tryz.f137) (TabOK.of (entCons (zjs fuel) (entCons (zjt fuel) (entCons (zG2 fuel) entNil))) (methNil)) mixed (by kernel_rfl) (by kernel_rfl) zG3 (by kernel_rfl) (Nat.le_of_ble_eq_true (by kernel_rfl)) (rv := zfz) (by kernel_rfl) (zG5 fuel)
theorem zuW (fuel : Nat) : EntryOK Tryz.prog 137 (zjC fuel).te := EntryOK.tf rfl (zG6 fuel) (isFn (fn := Tryz.f137) (by kernel_rfl) (by kernel_rfl) (by kernel_rfl))
def zuX (fuel : Nat) : Tab := Tab.of [(136, (znM fuel).te), (137, (zjC fuel).te)] []
abbrev znR : List Pm := [{ cs := [(Kd.list KP, false), (I6, false), (I6, false)], ag := true }, { cs := [(Kd.list KP, false), (I6, false), (I6, false)], ag := true }]
abbrev zuY : List Pm := [{ cs := [(Kd.list KP, false), (I6, false), (I6, false)], ag := true }]
def zuZ : List Norm := []
noncomputable def zu0 : C := irOf Tryz.prog Tryz.f90 [21] zuZ []
theorem zG7 : lightC Tryz.prog [21] Tryz.f90.ntmps zuZ [] 0 (bodyOf Tryz.f90) = some (zu0, 0) := by kernel_rfl
def zu1 : List (Nat × Option (Nat × Bool)) := [(4, some (3, true))]
def zfC (fuel : Nat) (x0 : LP) (x1 : Int) (x2 : Int) (x3 : LP) (x4 : Int) (x5 : Int) : Option ((LP × (Int × (Int × Unit))) × Unit) :=
 Option.bind (zfB fuel ((x0, ()), (x3, ()), ())) fun y_1 =>
 Option.bind (zcF fuel ((y_1.1.1, w64 (x1 + x4), w64 (x2 + x5), ()), ())) fun y_2 =>
 some (((y_2.1.1, y_2.1.2.1, y_2.1.2.2.1, ()), ()))
def zfD (fuel : Nat) (x : ((LP × (Int × (Int × Unit))) × ((LP × (Int × (Int × Unit))) × Unit))) : Option ((LP × (Int × (Int × Unit))) × Unit) := zfC fuel x.1.1 x.1.2.1 x.1.2.2.1 x.2.1.1 x.2.1.2.1 x.2.1.2.2.1
theorem zG8 (fuel : Nat) (x : PsT znR) : run (zuX fuel) 0 fuel zu0 (env0 (svPs znR x) 0) [] (endF zu1 zuY) = zfD fuel x := by kernel_rfl
def znS (fuel : Nat) : TF := ⟨znR, zuY, false, zfD fuel⟩
theorem zG9 (fuel : Nat) : FnSpec Tryz.prog 90 (znS fuel) :=
  fn_spec (T := zuX fuel) (c := bodyOf Tryz.f90) (fn := Tryz.f90) (TabOK.of (entCons (zGS fuel) (entCons (zuW fuel) entNil)) (methNil)) mixed (by kernel_rfl) (by kernel_rfl) zG7 (by kernel_rfl) (Nat.le_of_ble_eq_true (by kernel_rfl)) (rv := zu1) (by kernel_rfl) (zG8 fuel)
theorem zHa (fuel : Nat) : EntryOK Tryz.prog 90 (znS fuel).te := EntryOK.tf rfl (zG9 fuel) (isFn (fn := Tryz.f90) (by kernel_rfl) (by kernel_rfl) (by kernel_rfl))
def zfE (fuel : Nat) : Tab := Tab.of [] []
abbrev zjD : List Pm := [{ cs := [(Kd.list KP, false)], ag := false }]
abbrev zfF : List Pm := []
abbrev zaR : Rf := Rf.arr I6 165
def zu2 : List Norm := [{ live := [8, 7, 6, 0], fix := [] }]
noncomputable def zfG : C := irOf Tryz.prog Tryz.f155 [] zu2 []
theorem zHb : lightC Tryz.prog [] Tryz.f155.ntmps zu2 [] 0 (bodyOf Tryz.f155) = some (zfG, 1) := by kernel_rfl
def zfH : List (Nat × Option (Nat × Bool)) := []
abbrev zcJ := (Int) × (Int) × LP × (List Int)
def zu3 (v : zcJ) : Env × Heap := ([(8, SV.int .i64 v.1), (7, SV.int .i64 v.2.1), (6, SV.es KP v.2.2.1), (0, SV.ptr 0 0)], [Blk.arr I6 v.2.2.2 0])
def zfI (fuel : Nat) (g0 : zcJ → Option ((List Int) × Unit)) (v : zcJ) : Option ((List Int) × Unit) :=
 cond (decide (v.1 < v.2.1))
 (tst (decide (0 ≤ v.1)) <|
 tst (decide (v.1 < (zz (List.length v.2.2.1)))) <|
 tst (decide (0 ≤ (List.getD v.2.2.1 (Int.toNat v.1) (0, (0, ()))).1)) <|
 tst (decide ((List.getD v.2.2.1 (Int.toNat v.1) (0, (0, ()))).1 < (zz 128))) <|
 tst (decide (Int.toNat (List.getD v.2.2.1 (Int.toNat v.1) (0, (0, ()))).1 < List.length v.2.2.2)) <|
 tst (decide (0 ≤ (List.getD v.2.2.1 (Int.toNat v.1) (0, (0, ()))).1)) <|
 tst (decide ((List.getD v.2.2.1 (Int.toNat v.1) (0, (0, ()))).1 < (zz 128))) <|
 tst (decide (Int.toNat (List.getD v.2.2.1 (Int.toNat v.1) (0, (0, ()))).1 < List.length v.2.2.2)) <|
 g0 (w64 (v.1 + (1 : Int)), v.2.1, v.2.2.1, List.set v.2.2.2 (Int.toNat (List.getD v.2.2.1 (Int.toNat v.1) (0, (0, ()))).1) (w64 (List.getD v.2.2.2 (Int.toNat (List.getD v.2.2.1 (Int.toNat v.1) (0, (0, ()))).1) 0 + (List.getD v.2.2.1 (Int.toNat v.1) (0, (0, ()))).2.1))))
 (some ((v.2.2.2, ())))
def zjE (fuel : Nat) (g0 : zcJ → Option ((List Int) × Unit)) : zcJ → Option ((List Int) × Unit) := zfI fuel g0
theorem zHc (fuel : Nat) (G) : zfG.lp (zfE fuel) 1 fuel G (endU zfH zaR zfF) 0 zu3 = iter (zjE fuel) fuel := C.lp_iter fun g v => by kernel_rfl
def znT (fuel : Nat) (X0 : zcJ → Option ((List Int) × Unit)) (d0 : List Int) (x0 : LP) : Option ((List Int) × Unit) :=
 X0 ((0 : Int), (zz (List.length x0)), x0, d0)
def zcK (fuel : Nat) (z : (List Int) × ((LP × Unit) × Unit)) : Option ((List Int) × Unit) := znT fuel (iter (zjE fuel) fuel) z.1 z.2.1.1
theorem zHd (fuel : Nat) (c : Rf.T zaR) (x : PsT zjD) : run (zfE fuel) 1 fuel zfG ((0, .ptr 0 0) :: env0 (svPs zjD x) 1) [zaR.blk c] (endU zfH zaR zfF) = zcK fuel (c, x) :=
  (show run (zfE fuel) 1 fuel zfG ((0, .ptr 0 0) :: env0 (svPs zjD x) 1) [zaR.blk c] (endU zfH zaR zfF) = znT fuel (zfG.lp (zfE fuel) 1 fuel (fun _ _ _ => none) (endU zfH zaR zfF) 0 zu3) c x.1.1 by kernel_rfl).trans (by rw [zHc]; rfl)
def znU (fuel : Nat) : TFU := ⟨zaR, zjD, zfF, zcK fuel⟩
theorem zHe (fuel : Nat) : FnSpecU Tryz.prog 155 (znU fuel) :=
  zCh (T := zfE fuel) (c := bodyOf Tryz.f155) (fn := Tryz.f155) (TabOK.of (entNil) (methNil)) mixed (by kernel_rfl) (by kernel_rfl) zHb (by kernel_rfl) (Nat.le_of_ble_eq_true (by kernel_rfl)) (rv := zfH) (by kernel_rfl) (zHd fuel)
theorem zHf (fuel : Nat) : EntryOK Tryz.prog 155 (znU fuel).te := EntryOK.tfu (zHe fuel) (isFn (fn := Tryz.f155) (by kernel_rfl) (by kernel_rfl) (by kernel_rfl))
def zar (fuel : Nat) : Tab := Tab.of [] []
abbrev zjF : List Pm := [{ cs := [(I6, false)], ag := false }]
abbrev zaS : List Pm := []
abbrev zO : Rf := Rf.arr I6 165
def zu4 : List Norm := [{ live := [5, 4, 0, 1], fix := [] }, { live := [4, 0, 1], fix := [(4, none, I6, true)] }]
noncomputable def z6 : C := irOf Tryz.prog Tryz.f156 [] zu4 []
theorem zHg : lightC Tryz.prog [] Tryz.f156.ntmps zu4 [] 0 (bodyOf Tryz.f156) = some (z6, 2) := by kernel_rfl
def zaT : List (Nat × Option (Nat × Bool)) := []
abbrev zcL := (Int) × (Int) × (List Int) × (List Int)
abbrev zcM := (Int) × (List Int) × (List Int)
def zcN (v : zcL) : Env × Heap := ([(5, SV.int .i64 v.1), (4, SV.own 1), (0, SV.ptr 0 0), (1, SV.int .i64 v.2.1)], [Blk.arr I6 v.2.2.1 0, Blk.arr I6 v.2.2.2 0])
def zu5 (v : zcM) : Env × Heap := ([(4, SV.own 1), (0, SV.ptr 0 0), (1, SV.int .i64 v.1)], [Blk.arr I6 v.2.1 0, Blk.arr I6 v.2.2 0])
def zfJ (fuel : Nat) (g1 : zcM → Option ((List Int) × Unit)) (v : zcM) : Option ((List Int) × Unit) :=
 cond (decide ((zz (List.length v.2.2)) > (0 : Int)))
 (tst (decide ((0 : Int) < (zz (List.length v.2.2)))) <|
 tst (decide (Int.toNat (0 : Int) < List.length v.2.2)) <|
 tst (decide ((1 : Int) ≤ (zz (List.length v.2.2)))) <|
 tst (decide (0 ≤ w64 (List.getD v.2.2 (Int.toNat (0 : Int)) 0 * 2 ^ min (Int.toNat (1 : Int)) (IntKind.bits IntKind.i64)))) <|
 tst (decide (w64 (List.getD v.2.2 (Int.toNat (0 : Int)) 0 * 2 ^ min (Int.toNat (1 : Int)) (IntKind.bits IntKind.i64)) < (zz 128))) <|
 tst (decide (Int.toNat (w64 (List.getD v.2.2 (Int.toNat (0 : Int)) 0 * 2 ^ min (Int.toNat (1 : Int)) (IntKind.bits IntKind.i64))) < List.length v.2.1)) <|
 tst (decide (0 ≤ w64 (zz (BitVec.toNat (BitVec.ofInt (IntKind.bits IntKind.i64) (w64 (List.getD v.2.2 (Int.toNat (0 : Int)) 0 * 2 ^ min (Int.toNat (1 : Int)) (IntKind.bits IntKind.i64))) ||| BitVec.ofInt (IntKind.bits IntKind.i64) (1 : Int)))))) <|
 tst (decide (w64 (zz (BitVec.toNat (BitVec.ofInt (IntKind.bits IntKind.i64) (w64 (List.getD v.2.2 (Int.toNat (0 : Int)) 0 * 2 ^ min (Int.toNat (1 : Int)) (IntKind.bits IntKind.i64))) ||| BitVec.ofInt (IntKind.bits IntKind.i64) (1 : Int)))) < (zz 128))) <|
 tst (decide (Int.toNat (w64 (zz (BitVec.toNat (BitVec.ofInt (IntKind.bits IntKind.i64) (w64 (List.getD v.2.2 (Int.toNat (0 : Int)) 0 * 2 ^ min (Int.toNat (1 : Int)) (IntKind.bits IntKind.i64))) ||| BitVec.ofInt (IntKind.bits IntKind.i64) (1 : Int))))) < List.length v.2.1)) <|
 cond (decide (w64 (List.getD v.2.1 (Int.toNat (w64 (List.getD v.2.2 (Int.toNat (0 : Int)) 0 * 2 ^ min (Int.toNat (1 : Int)) (IntKind.bits IntKind.i64)))) 0 + List.getD v.2.1 (Int.toNat (w64 (zz (BitVec.toNat (BitVec.ofInt (IntKind.bits IntKind.i64) (w64 (List.getD v.2.2 (Int.toNat (0 : Int)) 0 * 2 ^ min (Int.toNat (1 : Int)) (IntKind.bits IntKind.i64))) ||| BitVec.ofInt (IntKind.bits IntKind.i64) (1 : Int)))))) 0) > (0 : Int)))
 (tst (decide (0 ≤ List.getD v.2.2 (Int.toNat (0 : Int)) 0)) <|
 tst (decide (List.getD v.2.2 (Int.toNat (0 : Int)) 0 < (zz 128))) <|
 tst (decide (Int.toNat (List.getD v.2.2 (Int.toNat (0 : Int)) 0) < List.length v.2.1)) <|
 cond (decide (w64 (w64 (List.getD v.2.1 (Int.toNat (w64 (List.getD v.2.2 (Int.toNat (0 : Int)) 0 * 2 ^ min (Int.toNat (1 : Int)) (IntKind.bits IntKind.i64)))) 0 + List.getD v.2.1 (Int.toNat (w64 (zz (BitVec.toNat (BitVec.ofInt (IntKind.bits IntKind.i64) (w64 (List.getD v.2.2 (Int.toNat (0 : Int)) 0 * 2 ^ min (Int.toNat (1 : Int)) (IntKind.bits IntKind.i64))) ||| BitVec.ofInt (IntKind.bits IntKind.i64) (1 : Int)))))) 0) + List.getD v.2.1 (Int.toNat (List.getD v.2.2 (Int.toNat (0 : Int)) 0)) 0) ≤ w64 (Int.tdiv v.1 (8 : Int))))
 (tst (decide (0 ≤ List.getD v.2.2 (Int.toNat (0 : Int)) 0)) <|
 tst (decide (List.getD v.2.2 (Int.toNat (0 : Int)) 0 < (zz 128))) <|
 tst (decide (Int.toNat (List.getD v.2.2 (Int.toNat (0 : Int)) 0) < List.length v.2.1)) <|
 tst (decide (0 ≤ List.getD v.2.2 (Int.toNat (0 : Int)) 0)) <|
 tst (decide (List.getD v.2.2 (Int.toNat (0 : Int)) 0 < (zz 128))) <|
 tst (decide (Int.toNat (List.getD v.2.2 (Int.toNat (0 : Int)) 0) < List.length v.2.1)) <|
 tst (decide (0 ≤ w64 (List.getD v.2.2 (Int.toNat (0 : Int)) 0 * 2 ^ min (Int.toNat (1 : Int)) (IntKind.bits IntKind.i64)))) <|
 tst (decide (w64 (List.getD v.2.2 (Int.toNat (0 : Int)) 0 * 2 ^ min (Int.toNat (1 : Int)) (IntKind.bits IntKind.i64)) < (zz 128))) <|
 tst (decide (Int.toNat (w64 (List.getD v.2.2 (Int.toNat (0 : Int)) 0 * 2 ^ min (Int.toNat (1 : Int)) (IntKind.bits IntKind.i64))) < List.length (List.set v.2.1 (Int.toNat (List.getD v.2.2 (Int.toNat (0 : Int)) 0)) (w64 (List.getD v.2.1 (Int.toNat (List.getD v.2.2 (Int.toNat (0 : Int)) 0)) 0 + w64 (List.getD v.2.1 (Int.toNat (w64 (List.getD v.2.2 (Int.toNat (0 : Int)) 0 * 2 ^ min (Int.toNat (1 : Int)) (IntKind.bits IntKind.i64)))) 0 + List.getD v.2.1 (Int.toNat (w64 (zz (BitVec.toNat (BitVec.ofInt (IntKind.bits IntKind.i64) (w64 (List.getD v.2.2 (Int.toNat (0 : Int)) 0 * 2 ^ min (Int.toNat (1 : Int)) (IntKind.bits IntKind.i64))) ||| BitVec.ofInt (IntKind.bits IntKind.i64) (1 : Int)))))) 0)))))) <|
 tst (decide (0 ≤ w64 (zz (BitVec.toNat (BitVec.ofInt (IntKind.bits IntKind.i64) (w64 (List.getD v.2.2 (Int.toNat (0 : Int)) 0 * 2 ^ min (Int.toNat (1 : Int)) (IntKind.bits IntKind.i64))) ||| BitVec.ofInt (IntKind.bits IntKind.i64) (1 : Int)))))) <|
 tst (decide (w64 (zz (BitVec.toNat (BitVec.ofInt (IntKind.bits IntKind.i64) (w64 (List.getD v.2.2 (Int.toNat (0 : Int)) 0 * 2 ^ min (Int.toNat (1 : Int)) (IntKind.bits IntKind.i64))) ||| BitVec.ofInt (IntKind.bits IntKind.i64) (1 : Int)))) < (zz 128))) <|
 tst (decide (Int.toNat (w64 (zz (BitVec.toNat (BitVec.ofInt (IntKind.bits IntKind.i64) (w64 (List.getD v.2.2 (Int.toNat (0 : Int)) 0 * 2 ^ min (Int.toNat (1 : Int)) (IntKind.bits IntKind.i64))) ||| BitVec.ofInt (IntKind.bits IntKind.i64) (1 : Int))))) < List.length (List.set (List.set v.2.1 (Int.toNat (List.getD v.2.2 (Int.toNat (0 : Int)) 0)) (w64 (List.getD v.2.1 (Int.toNat (List.getD v.2.2 (Int.toNat (0 : Int)) 0)) 0 + w64 (List.getD v.2.1 (Int.toNat (w64 (List.getD v.2.2 (Int.toNat (0 : Int)) 0 * 2 ^ min (Int.toNat (1 : Int)) (IntKind.bits IntKind.i64)))) 0 + List.getD v.2.1 (Int.toNat (w64 (zz (BitVec.toNat (BitVec.ofInt (IntKind.bits IntKind.i64) (w64 (List.getD v.2.2 (Int.toNat (0 : Int)) 0 * 2 ^ min (Int.toNat (1 : Int)) (IntKind.bits IntKind.i64))) ||| BitVec.ofInt (IntKind.bits IntKind.i64) (1 : Int)))))) 0)))) (Int.toNat (w64 (List.getD v.2.2 (Int.toNat (0 : Int)) 0 * 2 ^ min (Int.toNat (1 : Int)) (IntKind.bits IntKind.i64)))) (0 : Int)))) <|
 cond (w64 (zz (BitVec.toNat (BitVec.ofInt (IntKind.bits IntKind.i64) (List.getD v.2.2 (Int.toNat (0 : Int)) 0) &&& BitVec.ofInt (IntKind.bits IntKind.i64) (1 : Int)))) == (0 : Int))
 (tst (decide (List.length (List.take (List.length v.2.2 - Int.toNat (1 : Int)) (List.drop (Int.toNat (1 : Int)) v.2.2)) + 1 < LIM)) <|
 g1 (v.1, List.set (List.set (List.set v.2.1 (Int.toNat (List.getD v.2.2 (Int.toNat (0 : Int)) 0)) (w64 (List.getD v.2.1 (Int.toNat (List.getD v.2.2 (Int.toNat (0 : Int)) 0)) 0 + w64 (List.getD v.2.1 (Int.toNat (w64 (List.getD v.2.2 (Int.toNat (0 : Int)) 0 * 2 ^ min (Int.toNat (1 : Int)) (IntKind.bits IntKind.i64)))) 0 + List.getD v.2.1 (Int.toNat (w64 (zz (BitVec.toNat (BitVec.ofInt (IntKind.bits IntKind.i64) (w64 (List.getD v.2.2 (Int.toNat (0 : Int)) 0 * 2 ^ min (Int.toNat (1 : Int)) (IntKind.bits IntKind.i64))) ||| BitVec.ofInt (IntKind.bits IntKind.i64) (1 : Int)))))) 0)))) (Int.toNat (w64 (List.getD v.2.2 (Int.toNat (0 : Int)) 0 * 2 ^ min (Int.toNat (1 : Int)) (IntKind.bits IntKind.i64)))) (0 : Int)) (Int.toNat (w64 (zz (BitVec.toNat (BitVec.ofInt (IntKind.bits IntKind.i64) (w64 (List.getD v.2.2 (Int.toNat (0 : Int)) 0 * 2 ^ min (Int.toNat (1 : Int)) (IntKind.bits IntKind.i64))) ||| BitVec.ofInt (IntKind.bits IntKind.i64) (1 : Int)))))) (0 : Int), List.take (List.length v.2.2 - Int.toNat (1 : Int)) (List.drop (Int.toNat (1 : Int)) v.2.2) ++ [Int.fdiv (List.getD v.2.2 (Int.toNat (0 : Int)) 0) (2 ^ min (Int.toNat (1 : Int)) (IntKind.bits IntKind.i64))]))
 (g1 (v.1, List.set (List.set (List.set v.2.1 (Int.toNat (List.getD v.2.2 (Int.toNat (0 : Int)) 0)) (w64 (List.getD v.2.1 (Int.toNat (List.getD v.2.2 (Int.toNat (0 : Int)) 0)) 0 + w64 (List.getD v.2.1 (Int.toNat (w64 (List.getD v.2.2 (Int.toNat (0 : Int)) 0 * 2 ^ min (Int.toNat (1 : Int)) (IntKind.bits IntKind.i64)))) 0 + List.getD v.2.1 (Int.toNat (w64 (zz (BitVec.toNat (BitVec.ofInt (IntKind.bits IntKind.i64) (w64 (List.getD v.2.2 (Int.toNat (0 : Int)) 0 * 2 ^ min (Int.toNat (1 : Int)) (IntKind.bits IntKind.i64))) ||| BitVec.ofInt (IntKind.bits IntKind.i64) (1 : Int)))))) 0)))) (Int.toNat (w64 (List.getD v.2.2 (Int.toNat (0 : Int)) 0 * 2 ^ min (Int.toNat (1 : Int)) (IntKind.bits IntKind.i64)))) (0 : Int)) (Int.toNat (w64 (zz (BitVec.toNat (BitVec.ofInt (IntKind.bits IntKind.i64) (w64 (List.getD v.2.2 (Int.toNat (0 : Int)) 0 * 2 ^ min (Int.toNat (1 : Int)) (IntKind.bits IntKind.i64))) ||| BitVec.ofInt (IntKind.bits IntKind.i64) (1 : Int)))))) (0 : Int), List.take (List.length v.2.2 - Int.toNat (1 : Int)) (List.drop (Int.toNat (1 : Int)) v.2.2))))
 (cond (w64 (zz (BitVec.toNat (BitVec.ofInt (IntKind.bits IntKind.i64) (List.getD v.2.2 (Int.toNat (0 : Int)) 0) &&& BitVec.ofInt (IntKind.bits IntKind.i64) (1 : Int)))) == (0 : Int))
 (tst (decide (List.length (List.take (List.length v.2.2 - Int.toNat (1 : Int)) (List.drop (Int.toNat (1 : Int)) v.2.2)) + 1 < LIM)) <|
 g1 (v.1, v.2.1, List.take (List.length v.2.2 - Int.toNat (1 : Int)) (List.drop (Int.toNat (1 : Int)) v.2.2) ++ [Int.fdiv (List.getD v.2.2 (Int.toNat (0 : Int)) 0) (2 ^ min (Int.toNat (1 : Int)) (IntKind.bits IntKind.i64))]))
 (g1 (v.1, v.2.1, List.take (List.length v.2.2 - Int.toNat (1 : Int)) (List.drop (Int.toNat (1 : Int)) v.2.2)))))
 (cond (w64 (zz (BitVec.toNat (BitVec.ofInt (IntKind.bits IntKind.i64) (List.getD v.2.2 (Int.toNat (0 : Int)) 0) &&& BitVec.ofInt (IntKind.bits IntKind.i64) (1 : Int)))) == (0 : Int))
 (tst (decide (List.length (List.take (List.length v.2.2 - Int.toNat (1 : Int)) (List.drop (Int.toNat (1 : Int)) v.2.2)) + 1 < LIM)) <|
 g1 (v.1, v.2.1, List.take (List.length v.2.2 - Int.toNat (1 : Int)) (List.drop (Int.toNat (1 : Int)) v.2.2) ++ [Int.fdiv (List.getD v.2.2 (Int.toNat (0 : Int)) 0) (2 ^ min (Int.toNat (1 : Int)) (IntKind.bits IntKind.i64))]))
 (g1 (v.1, v.2.1, List.take (List.length v.2.2 - Int.toNat (1 : Int)) (List.drop (Int.toNat (1 : Int)) v.2.2)))))
 (some ((v.2.1, ())))
def zbt (fuel : Nat) (g1 : zcM → Option ((List Int) × Unit)) : zcM → Option ((List Int) × Unit) := zfJ fuel g1
theorem zHh (fuel : Nat) (G) : z6.lp (zar fuel) 1 fuel G (endU zaT zO zaS) 1 zu5 = iter (zbt fuel) fuel := C.lp_iter fun g v => by kernel_rfl
def zcO (fuel : Nat) (X1 : zcM → Option ((List Int) × Unit)) (g0 : zcL → Option ((List Int) × Unit)) (v : zcL) : Option ((List Int) × Unit) :=
 cond (decide (v.1 ≥ (32 : Int)))
 (tst (decide (List.length v.2.2.2 + 1 < LIM)) <|
 g0 (w64 (v.1 - (1 : Int)), v.2.1, v.2.2.1, v.2.2.2 ++ [v.1]))
 (X1 (v.2.1, v.2.2.1, v.2.2.2))
def znV (fuel : Nat) (g0 : zcL → Option ((List Int) × Unit)) : zcL → Option ((List Int) × Unit) := zcO fuel (iter (zbt fuel) fuel) g0
theorem zHi (fuel : Nat) (G) : z6.lp (zar fuel) 1 fuel G (endU zaT zO zaS) 0 zcN = iter (znV fuel) fuel := C.lp_iter fun g v =>
  (show run (zar fuel) 1 fuel (z6.bdAt 0) (zcN v).1 (zcN v).2 (loopK 1 (z6.nmAt 0) g (z6.contAt (zar fuel) 1 fuel G 0 0 (endU zaT zO zaS))) = zcO fuel (z6.lp (zar fuel) 1 fuel (fun m => bif Nat.beq m 0 then g else G m) (endU zaT zO zaS) 1 zu5) (fun v => g (zcN v).1 (zcN v).2) v by kernel_rfl).trans (by rw [zHh]; rfl)
def znW (fuel : Nat) (X0 : zcL → Option ((List Int) × Unit)) (d0 : List Int) (x0 : Int) : Option ((List Int) × Unit) :=
 X0 ((63 : Int), x0, d0, List.replicate (Int.toNat (0 : Int)) 0)
def zfK (fuel : Nat) (z : (List Int) × ((Int × Unit) × Unit)) : Option ((List Int) × Unit) := znW fuel (iter (znV fuel) fuel) z.1 z.2.1.1
theorem zHj (fuel : Nat) (c : Rf.T zO) (x : PsT zjF) : run (zar fuel) 1 fuel z6 ((0, .ptr 0 0) :: env0 (svPs zjF x) 1) [zO.blk c] (endU zaT zO zaS) = zfK fuel (c, x) :=
  (show run (zar fuel) 1 fuel z6 ((0, .ptr 0 0) :: env0 (svPs zjF x) 1) [zO.blk c] (endU zaT zO zaS) = znW fuel (z6.lp (zar fuel) 1 fuel (fun _ _ _ => none) (endU zaT zO zaS) 0 zcN) c x.1.1 by kernel_rfl).trans (by rw [zHi]; rfl)
def znX (fuel : Nat) : TFU := ⟨zO, zjF, zaS, zfK fuel⟩
theorem zHk (fuel : Nat) : FnSpecU Tryz.prog 156 (znX fuel) :=
  zCh (T := zar fuel) (c := bodyOf Tryz.f156) (fn := Tryz.f156) (TabOK.of (entNil) (methNil)) mixed (by kernel_rfl) (by kernel_rfl) zHg (by kernel_rfl) (Nat.le_of_ble_eq_true (by kernel_rfl)) (rv := zaT) (by kernel_rfl) (zHj fuel)
theorem zHl (fuel : Nat) : EntryOK Tryz.prog 156 (znX fuel).te := EntryOK.tfu (zHk fuel) (isFn (fn := Tryz.f156) (by kernel_rfl) (by kernel_rfl) (by kernel_rfl))
abbrev zbu := Option ((LP × (Int × Unit)) × Unit)
def zfL (fuel : Nat) : Tab := Tab.of [(155, (znU fuel).te), (156, (znX fuel).te)] []
abbrev zjG : List Pm := [{ cs := [(Kd.list KP, false), (I6, false)], ag := true }, { cs := [(Kd.list KP, false), (I6, false)], ag := true }]
abbrev zfM : List Pm := [{ cs := [(Kd.list KP, true), (I6, false)], ag := true }]
def zu6 : List Norm := [{ live := [24, 23, 7, 6, 4], fix := [(7, none, KP, true)] }]
noncomputable def zfN : C := irOf Tryz.prog Tryz.f105 [] zu6 []
theorem zHm : lightC Tryz.prog [] Tryz.f105.ntmps zu6 [] 0 (bodyOf Tryz.f105) = some (zfN, 1) := by kernel_rfl
def zfO : List (Nat × Option (Nat × Bool)) := [(4, some (2, true))]
abbrev zcP := (Int) × (List Int) × (Int) × LP × (Int)
def zu7 (v : zcP) : Env × Heap := ([(24, SV.int .i64 v.1), (23, SV.arrv I6 v.2.1), (7, SV.own 0), (6, SV.int .i64 v.2.2.1), (4, SV.ptr 1 0)], [Blk.arr KP v.2.2.2.1 0, Blk.cells [SV.nils, SV.int .i64 v.2.2.2.2] 0 2])
def zfP (fuel : Nat) (g0 : zcP → zbu) (v : zcP) : zbu :=
 cond (decide (v.1 < (128 : Int)))
 (tst (decide (0 ≤ v.1)) <|
 tst (decide (v.1 < (zz 128))) <|
 tst (decide (v.1 < (zz (List.length v.2.1)))) <|
 cond (decide (List.getD v.2.1 (Int.toNat v.1) 0 > (0 : Int)))
 (tst (decide (List.length v.2.2.2.1 + 1 < LIM)) <|
 g0 (w64 (v.1 + (1 : Int)), v.2.1, v.2.2.1, v.2.2.2.1 ++ [(v.1, List.getD v.2.1 (Int.toNat v.1) 0, ())], v.2.2.2.2))
 (g0 (w64 (v.1 + (1 : Int)), v.2.1, v.2.2.1, v.2.2.2.1, v.2.2.2.2)))
 (some (((v.2.2.2.1, v.2.2.1, ()), ())))
def zfQ (fuel : Nat) (g0 : zcP → zbu) : zcP → zbu := zfP fuel g0
theorem zHn (fuel : Nat) (G) : zfN.lp (zfL fuel) 0 fuel G (endF zfO zfM) 0 zu7 = iter (zfQ fuel) fuel := C.lp_iter fun g v => by kernel_rfl
def zjH (fuel : Nat) (X0 : zcP → zbu) (x0 : LP) (x1 : Int) (x2 : LP) (x3 : Int) : zbu :=
 Option.bind (zcK fuel (List.replicate 128 0, (x0, ()), ())) fun y_1 =>
 Option.bind (zcK fuel (y_1.1, (x2, ()), ())) fun y_2 =>
 Option.bind (zfK fuel (y_2.1, (w64 (x1 + x3), ()), ())) fun y_3 =>
 tst (Nat.beq (List.length y_3.1 * Kd.sz I6) 128) <|
 X0 ((0 : Int), y_3.1, w64 (x1 + x3), [], (0 : Int))
def zjI (fuel : Nat) (x : ((LP × (Int × Unit)) × ((LP × (Int × Unit)) × Unit))) : zbu := zjH fuel (iter (zfQ fuel) fuel) x.1.1 x.1.2.1 x.2.1.1 x.2.1.2.1
theorem zHo (fuel : Nat) (x : PsT zjG) : run (zfL fuel) 0 fuel zfN (env0 (svPs zjG x) 0) [] (endF zfO zfM) = zjI fuel x :=
  (show run (zfL fuel) 0 fuel zfN (env0 (svPs zjG x) 0) [] (endF zfO zfM) = zjH fuel (zfN.lp (zfL fuel) 0 fuel (fun _ _ _ => none) (endF zfO zfM) 0 zu7) x.1.1 x.1.2.1 x.2.1.1 x.2.1.2.1 by kernel_rfl).trans (by rw [zHn]; rfl)
def znY (fuel : Nat) : TF := ⟨zjG, zfM, true, zjI fuel⟩
theorem zHp (fuel : Nat) : FnSpec Tryz.prog 105 (znY fuel) :=
  fn_spec (T := zfL fuel) (c := bodyOf Tryz.f105) (fn := Tryz.f105) (TabOK.of (entCons (zHf fuel) (entCons (zHl fuel) entNil)) (methNil)) mixed (by kernel_rfl) (by kernel_rfl) zHm (by kernel_rfl) (Nat.le_of_ble_eq_true (by kernel_rfl)) (rv := zfO) (by kernel_rfl) (zHo fuel)
theorem zHq (fuel : Nat) : EntryOK Tryz.prog 105 (znY fuel).te := EntryOK.tf rfl (zHp fuel) (isFn (fn := Tryz.f105) (by kernel_rfl) (by kernel_rfl) (by kernel_rfl))
end Go.Proofs.YtdgdoeknpakmlaaGreat.Den
