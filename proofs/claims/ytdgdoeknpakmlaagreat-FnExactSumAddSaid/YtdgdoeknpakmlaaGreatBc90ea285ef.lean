/- Part 11 of the texts behind the row. -/
import Derived.Test.YtdgdoeknpakmlaaGreatB1e4ad0de19
set_option linter.unusedVariables false
set_option linter.unusedSimpArgs false
namespace Go.Proofs.YtdgdoeknpakmlaaGreat.Den
open Go Go.RowKit
def zru (fuel : Nat) : Tab := Tab.of [] []
abbrev zlP : List Pm := [{ cs := [(I6, false)], ag := false }, { cs := [(I6, false)], ag := false }, { cs := [(I6, false)], ag := false }]
abbrev zrv : List Pm := [{ cs := [(Kd.bool, false)], ag := false }]
def zrw : List Norm := []
noncomputable def zrx : C := irOf Tryz.prog Tryz.f107 [] zrw []
theorem zEG : lightC Tryz.prog [] Tryz.f107.ntmps zrw [] 0 (bodyOf Tryz.f107) = some (zrx, 0) := by kernel_rfl
def zry : List (Nat × Option (Nat × Bool)) := [(6, none)]
def zrz (fuel : Nat) (x0 : Int) (x1 : Int) (x2 : Int) : Option ((Bool × Unit) × Unit) :=
 cond (decide (x0 ≥ x1))
 (some (((decide (x0 ≤ x2), ()), ())))
 (some (((false, ()), ())))
def zf (fuel : Nat) (x : ((Int × Unit) × ((Int × Unit) × ((Int × Unit) × Unit)))) : Option ((Bool × Unit) × Unit) := zrz fuel x.1.1 x.2.1.1 x.2.2.1.1
theorem zEH (fuel : Nat) (x : PsT zlP) : run (zru fuel) 0 fuel zrx (env0 (svPs zlP x) 0) [] (endF zry zrv) = zf fuel x := by kernel_rfl
def zy (fuel : Nat) : TF := ⟨zlP, zrv, true, zf fuel⟩
theorem zEI (fuel : Nat) : FnSpec Tryz.prog 107 (zy fuel) :=
  fn_spec (T := zru fuel) (c := bodyOf Tryz.f107) (fn := Tryz.f107) (TabOK.of (entNil) (methNil)) mixed (by kernel_rfl) (by kernel_rfl) zEG (by kernel_rfl) (Nat.le_of_ble_eq_true (by kernel_rfl)) (rv := zry) (by kernel_rfl) (zEH fuel)
theorem zP (fuel : Nat) : EntryOK Tryz.prog 107 (zy fuel).te := EntryOK.tf rfl (zEI fuel) (isFn (fn := Tryz.f107) (by kernel_rfl) (by kernel_rfl) (by kernel_rfl))
def zc6 (fuel : Nat) : Tab := Tab.of [(107, (zy fuel).te)] []
abbrev zhB : List Pm := [{ cs := [(Kd.list KP, false), (I6, false)], ag := true }]
abbrev zc7 : List Pm := [{ cs := [(Kd.bool, false)], ag := false }]
def zrA : List Norm := [{ live := [4, 1, 3], fix := [] }]
noncomputable def zc8 : C := irOf Tryz.prog Tryz.f144 [] zrA []
theorem zEJ : lightC Tryz.prog [] Tryz.f144.ntmps zrA [] 0 (bodyOf Tryz.f144) = some (zc8, 1) := by kernel_rfl
def zc9 : List (Nat × Option (Nat × Bool)) := [(2, none)]
abbrev zbk := (Int) × (Int) × LP × (Int)
def zrB (v : zbk) : Env × Heap := ([(4, SV.int .i64 v.1), (1, SV.ptr 0 0), (3, SV.int .i64 v.2.1)], [Blk.cells [SV.es KP v.2.2.1, SV.int .i64 v.2.2.2] 0 2])
def zda (fuel : Nat) (g0 : zbk → Option ((Bool × Unit) × Unit)) (v : zbk) : Option ((Bool × Unit) × Unit) :=
 cond (decide (v.1 < (zz (List.length v.2.2.1))))
 (tst (decide (0 ≤ v.1)) <|
 tst (decide (v.1 < (zz (List.length v.2.2.1)))) <|
 Option.bind (zf fuel (((List.getD v.2.2.1 (Int.toNat v.1) (0, (0, ()))).1, ()), ((1 : Int), ()), ((127 : Int), ()), ())) fun y_2 =>
 cond (!y_2.1.1)
 (some (((false, ()), ())))
 (Option.bind (zf fuel (((List.getD v.2.2.1 (Int.toNat v.1) (0, (0, ()))).2.1, ()), ((1 : Int), ()), ((2000 : Int), ()), ())) fun y_4 =>
 cond (!y_4.1.1)
 (some (((false, ()), ())))
 (cond (decide (v.1 > (0 : Int)))
 (tst (decide (0 ≤ w64 (v.1 - (1 : Int)))) <|
 tst (decide (w64 (v.1 - (1 : Int)) < (zz (List.length v.2.2.1)))) <|
 cond (decide ((List.getD v.2.2.1 (Int.toNat (w64 (v.1 - (1 : Int)))) (0, (0, ()))).1 ≥ (List.getD v.2.2.1 (Int.toNat v.1) (0, (0, ()))).1))
 (some (((false, ()), ())))
 (cond (decide ((List.getD v.2.2.1 (Int.toNat v.1) (0, (0, ()))).1 < (64 : Int)))
 (cond (decide ((List.getD v.2.2.1 (Int.toNat v.1) (0, (0, ()))).2.1 > w64 (Int.tdiv v.2.2.2 (8 : Int))))
 (some (((false, ()), ())))
 (g0 (w64 (v.1 + (1 : Int)), w64 (v.2.1 + (List.getD v.2.2.1 (Int.toNat v.1) (0, (0, ()))).2.1), v.2.2.1, v.2.2.2)))
 (g0 (w64 (v.1 + (1 : Int)), w64 (v.2.1 + (List.getD v.2.2.1 (Int.toNat v.1) (0, (0, ()))).2.1), v.2.2.1, v.2.2.2))))
 (cond (decide ((List.getD v.2.2.1 (Int.toNat v.1) (0, (0, ()))).1 < (64 : Int)))
 (cond (decide ((List.getD v.2.2.1 (Int.toNat v.1) (0, (0, ()))).2.1 > w64 (Int.tdiv v.2.2.2 (8 : Int))))
 (some (((false, ()), ())))
 (g0 (w64 (v.1 + (1 : Int)), w64 (v.2.1 + (List.getD v.2.2.1 (Int.toNat v.1) (0, (0, ()))).2.1), v.2.2.1, v.2.2.2)))
 (g0 (w64 (v.1 + (1 : Int)), w64 (v.2.1 + (List.getD v.2.2.1 (Int.toNat v.1) (0, (0, ()))).2.1), v.2.2.1, v.2.2.2))))))
 (some (((v.2.1 == v.2.2.2, ()), ())))
def zhC (fuel : Nat) (g0 : zbk → Option ((Bool × Unit) × Unit)) : zbk → Option ((Bool × Unit) × Unit) := zda fuel g0
theorem zEK (fuel : Nat) (G) : zc8.lp (zc6 fuel) 0 fuel G (endF zc9 zc7) 0 zrB = iter (zhC fuel) fuel := C.lp_iter fun g v => by kernel_rfl
def zlQ (fuel : Nat) (X0 : zbk → Option ((Bool × Unit) × Unit)) (x0 : LP) (x1 : Int) : Option ((Bool × Unit) × Unit) :=
 Option.bind (zf fuel ((x1, ()), ((0 : Int), ()), ((2000 : Int), ()), ())) fun y_1 =>
 cond (!y_1.1.1)
 (some (((false, ()), ())))
 (X0 ((0 : Int), (0 : Int), x0, x1))
def zbl (fuel : Nat) (x : ((LP × (Int × Unit)) × Unit)) : Option ((Bool × Unit) × Unit) := zlQ fuel (iter (zhC fuel) fuel) x.1.1 x.1.2.1
theorem zEL (fuel : Nat) (x : PsT zhB) : run (zc6 fuel) 0 fuel zc8 (env0 (svPs zhB x) 0) [] (endF zc9 zc7) = zbl fuel x :=
  (show run (zc6 fuel) 0 fuel zc8 (env0 (svPs zhB x) 0) [] (endF zc9 zc7) = zlQ fuel (zc8.lp (zc6 fuel) 0 fuel (fun _ _ _ => none) (endF zc9 zc7) 0 zrB) x.1.1 x.1.2.1 by kernel_rfl).trans (by rw [zEK]; rfl)
def zhD (fuel : Nat) : TF := ⟨zhB, zc7, true, zbl fuel⟩
theorem zEM (fuel : Nat) : FnSpec Tryz.prog 144 (zhD fuel) :=
  fn_spec (T := zc6 fuel) (c := bodyOf Tryz.f144) (fn := Tryz.f144) (TabOK.of (entCons (zP fuel) entNil) (methNil)) mixed (by kernel_rfl) (by kernel_rfl) zEJ (by kernel_rfl) (Nat.le_of_ble_eq_true (by kernel_rfl)) (rv := zc9) (by kernel_rfl) (zEL fuel)
theorem zrC (fuel : Nat) : EntryOK Tryz.prog 144 (zhD fuel).te := EntryOK.tf rfl (zEM fuel) (isFn (fn := Tryz.f144) (by kernel_rfl) (by kernel_rfl) (by kernel_rfl))
def zdb (fuel : Nat) : Tab := Tab.of [] []
abbrev zhE : List Pm := [{ cs := [(Kd.list KP, false), (I6, false)], ag := true }]
abbrev zdc : List Pm := [{ cs := [(Kd.bool, false)], ag := false }]
def zrD : List Norm := [{ live := [18, 17, 16, 3, 1, 4], fix := [] }]
noncomputable def zdd : C := irOf Tryz.prog Tryz.f94 [] zrD []
theorem zEN : lightC Tryz.prog [] Tryz.f94.ntmps zrD [] 0 (bodyOf Tryz.f94) = some (zdd, 1) := by kernel_rfl
def zde : List (Nat × Option (Nat × Bool)) := [(2, none)]
abbrev zbm := (Int) × (Int) × LP × (Int) × (Int) × LP × (Int)
def zrE (v : zbm) : Env × Heap := ([(18, SV.int .i64 v.1), (17, SV.int .i64 v.2.1), (16, SV.es KP v.2.2.1), (3, SV.int .i64 v.2.2.2.1), (1, SV.ptr 0 0), (4, SV.int .i64 v.2.2.2.2.1)], [Blk.cells [SV.es KP v.2.2.2.2.2.1, SV.int .i64 v.2.2.2.2.2.2] 0 2])
def zdf (fuel : Nat) (g0 : zbm → Option ((Bool × Unit) × Unit)) (v : zbm) : Option ((Bool × Unit) × Unit) :=
 cond (decide (v.1 < v.2.1))
 (tst (decide (0 ≤ v.1)) <|
 tst (decide (v.1 < (zz (List.length v.2.2.1)))) <|
 cond (decide ((List.getD v.2.2.1 (Int.toNat v.1) (0, (0, ()))).1 ≤ v.2.2.2.1))
 (some (((false, ()), ())))
 (cond (decide ((List.getD v.2.2.1 (Int.toNat v.1) (0, (0, ()))).1 ≥ (128 : Int)))
 (some (((false, ()), ())))
 (cond (decide ((List.getD v.2.2.1 (Int.toNat v.1) (0, (0, ()))).2.1 < (1 : Int)))
 (some (((false, ()), ())))
 (cond (decide ((List.getD v.2.2.1 (Int.toNat v.1) (0, (0, ()))).2.1 > (2000 : Int)))
 (some (((false, ()), ())))
 (cond (decide ((List.getD v.2.2.1 (Int.toNat v.1) (0, (0, ()))).1 < (64 : Int)))
 (cond (decide ((List.getD v.2.2.1 (Int.toNat v.1) (0, (0, ()))).2.1 > w64 (Int.tdiv v.2.2.2.2.2.2 (8 : Int))))
 (some (((false, ()), ())))
 (g0 (w64 (v.1 + (1 : Int)), v.2.1, v.2.2.1, (List.getD v.2.2.1 (Int.toNat v.1) (0, (0, ()))).1, w64 (v.2.2.2.2.1 + (List.getD v.2.2.1 (Int.toNat v.1) (0, (0, ()))).2.1), v.2.2.2.2.2.1, v.2.2.2.2.2.2)))
 (g0 (w64 (v.1 + (1 : Int)), v.2.1, v.2.2.1, (List.getD v.2.2.1 (Int.toNat v.1) (0, (0, ()))).1, w64 (v.2.2.2.2.1 + (List.getD v.2.2.1 (Int.toNat v.1) (0, (0, ()))).2.1), v.2.2.2.2.2.1, v.2.2.2.2.2.2)))))))
 (some (((v.2.2.2.2.1 == v.2.2.2.2.2.2, ()), ())))
def zhF (fuel : Nat) (g0 : zbm → Option ((Bool × Unit) × Unit)) : zbm → Option ((Bool × Unit) × Unit) := zdf fuel g0
theorem zEO (fuel : Nat) (G) : zdd.lp (zdb fuel) 0 fuel G (endF zde zdc) 0 zrE = iter (zhF fuel) fuel := C.lp_iter fun g v => by kernel_rfl
def zlR (fuel : Nat) (X0 : zbm → Option ((Bool × Unit) × Unit)) (x0 : LP) (x1 : Int) : Option ((Bool × Unit) × Unit) :=
 cond (decide (x1 < (0 : Int)))
 (some (((false, ()), ())))
 (cond (decide (x1 > (2000 : Int)))
 (some (((false, ()), ())))
 (X0 ((0 : Int), (zz (List.length x0)), x0, (0 : Int), (0 : Int), x0, x1)))
def zbn (fuel : Nat) (x : ((LP × (Int × Unit)) × Unit)) : Option ((Bool × Unit) × Unit) := zlR fuel (iter (zhF fuel) fuel) x.1.1 x.1.2.1
theorem zEP (fuel : Nat) (x : PsT zhE) : run (zdb fuel) 0 fuel zdd (env0 (svPs zhE x) 0) [] (endF zde zdc) = zbn fuel x :=
  (show run (zdb fuel) 0 fuel zdd (env0 (svPs zhE x) 0) [] (endF zde zdc) = zlR fuel (zdd.lp (zdb fuel) 0 fuel (fun _ _ _ => none) (endF zde zdc) 0 zrE) x.1.1 x.1.2.1 by kernel_rfl).trans (by rw [zEO]; rfl)
def zhG (fuel : Nat) : TF := ⟨zhE, zdc, true, zbn fuel⟩
theorem zEQ (fuel : Nat) : FnSpec Tryz.prog 94 (zhG fuel) :=
  fn_spec (T := zdb fuel) (c := bodyOf Tryz.f94) (fn := Tryz.f94) (TabOK.of (entNil) (methNil)) mixed (by kernel_rfl) (by kernel_rfl) zEN (by kernel_rfl) (Nat.le_of_ble_eq_true (by kernel_rfl)) (rv := zde) (by kernel_rfl) (zEP fuel)
theorem zrF (fuel : Nat) : EntryOK Tryz.prog 94 (zhG fuel).te := EntryOK.tf rfl (zEQ fuel) (isFn (fn := Tryz.f94) (by kernel_rfl) (by kernel_rfl) (by kernel_rfl))
def zrG (fuel : Nat) : Tab := Tab.of [] []
abbrev zlS : List Pm := [{ cs := [(I6, false)], ag := false }]
abbrev zrH : List Pm := [{ cs := [(Kd.bool, false)], ag := false }]
def zrI : List Norm := []
noncomputable def zrJ : C := irOf Tryz.prog Tryz.f86 [] zrI []
theorem zER : lightC Tryz.prog [] Tryz.f86.ntmps zrI [] 0 (bodyOf Tryz.f86) = some (zrJ, 0) := by kernel_rfl
def zrK : List (Nat × Option (Nat × Bool)) := [(2, none)]
def zrL (fuel : Nat) (x0 : Int) : Option ((Bool × Unit) × Unit) :=
 cond (decide (x0 ≥ (0 : Int)))
 (some (((decide (x0 < (64 : Int)), ()), ())))
 (some (((false, ()), ())))
def zo (fuel : Nat) (x : ((Int × Unit) × Unit)) : Option ((Bool × Unit) × Unit) := zrL fuel x.1.1
theorem zES (fuel : Nat) (x : PsT zlS) : run (zrG fuel) 0 fuel zrJ (env0 (svPs zlS x) 0) [] (endF zrK zrH) = zo fuel x := by kernel_rfl
def zQ (fuel : Nat) : TF := ⟨zlS, zrH, true, zo fuel⟩
theorem zET (fuel : Nat) : FnSpec Tryz.prog 86 (zQ fuel) :=
  fn_spec (T := zrG fuel) (c := bodyOf Tryz.f86) (fn := Tryz.f86) (TabOK.of (entNil) (methNil)) mixed (by kernel_rfl) (by kernel_rfl) zER (by kernel_rfl) (Nat.le_of_ble_eq_true (by kernel_rfl)) (rv := zrK) (by kernel_rfl) (zES fuel)
theorem zat (fuel : Nat) : EntryOK Tryz.prog 86 (zQ fuel).te := EntryOK.tf rfl (zET fuel) (isFn (fn := Tryz.f86) (by kernel_rfl) (by kernel_rfl) (by kernel_rfl))
def zdg (fuel : Nat) : Tab := Tab.of [] []
abbrev zhH : List Pm := [{ cs := [(Kd.list I6, false)], ag := false }]
abbrev zdh : List Pm := [{ cs := [(I6, false)], ag := false }]
def zrM : List Norm := [{ live := [4, 0, 3], fix := [] }]
noncomputable def zdi : C := irOf Tryz.prog Tryz.f135 [] zrM []
theorem zEU : lightC Tryz.prog [] Tryz.f135.ntmps zrM [] 0 (bodyOf Tryz.f135) = some (zdi, 1) := by kernel_rfl
def zdj : List (Nat × Option (Nat × Bool)) := [(2, none)]
abbrev zbo := (Int) × (List Int) × (Int)
def zrN (v : zbo) : Env × Heap := ([(4, SV.int .i64 v.1), (0, SV.es I6 v.2.1), (3, SV.int .i64 v.2.2)], [])
def zdk (fuel : Nat) (g0 : zbo → Option ((Int × Unit) × Unit)) (v : zbo) : Option ((Int × Unit) × Unit) :=
 cond (decide (v.1 < (zz (List.length v.2.1))))
 (tst (decide (0 ≤ v.1)) <|
 tst (decide (v.1 < (zz (List.length v.2.1)))) <|
 g0 (w64 (v.1 + (1 : Int)), v.2.1, w64 (v.2.2 + List.getD v.2.1 (Int.toNat v.1) 0)))
 (some (((v.2.2, ()), ())))
def zhI (fuel : Nat) (g0 : zbo → Option ((Int × Unit) × Unit)) : zbo → Option ((Int × Unit) × Unit) := zdk fuel g0
theorem zEV (fuel : Nat) (G) : zdi.lp (zdg fuel) 0 fuel G (endF zdj zdh) 0 zrN = iter (zhI fuel) fuel := C.lp_iter fun g v => by kernel_rfl
def zrO (fuel : Nat) (X0 : zbo → Option ((Int × Unit) × Unit)) (x0 : List Int) : Option ((Int × Unit) × Unit) :=
 X0 ((0 : Int), x0, (0 : Int))
def zR (fuel : Nat) (x : (((List Int) × Unit) × Unit)) : Option ((Int × Unit) × Unit) := zrO fuel (iter (zhI fuel) fuel) x.1.1
theorem zEW (fuel : Nat) (x : PsT zhH) : run (zdg fuel) 0 fuel zdi (env0 (svPs zhH x) 0) [] (endF zdj zdh) = zR fuel x :=
  (show run (zdg fuel) 0 fuel zdi (env0 (svPs zhH x) 0) [] (endF zdj zdh) = zrO fuel (zdi.lp (zdg fuel) 0 fuel (fun _ _ _ => none) (endF zdj zdh) 0 zrN) x.1.1 by kernel_rfl).trans (by rw [zEV]; rfl)
def zdl (fuel : Nat) : TF := ⟨zhH, zdh, true, zR fuel⟩
theorem zEX (fuel : Nat) : FnSpec Tryz.prog 135 (zdl fuel) :=
  fn_spec (T := zdg fuel) (c := bodyOf Tryz.f135) (fn := Tryz.f135) (TabOK.of (entNil) (methNil)) mixed (by kernel_rfl) (by kernel_rfl) zEU (by kernel_rfl) (Nat.le_of_ble_eq_true (by kernel_rfl)) (rv := zdj) (by kernel_rfl) (zEW fuel)
theorem zlT (fuel : Nat) : EntryOK Tryz.prog 135 (zdl fuel).te := EntryOK.tf rfl (zEX fuel) (isFn (fn := Tryz.f135) (by kernel_rfl) (by kernel_rfl) (by kernel_rfl))
def zE (fuel : Nat) : Tab := Tab.of [(107, (zy fuel).te), (135, (zdl fuel).te)] []
abbrev zhJ : List Pm := [{ cs := [(Kd.list (Kd.list I6), false)], ag := true }]
abbrev z6 : List Pm := [{ cs := [(Kd.bool, false)], ag := false }]
def zrP : List Norm := [{ live := [3, 1], fix := [] }, { live := [4, 1, 3], fix := [] }]
noncomputable def zp : C := irOf Tryz.prog Tryz.f141 [] zrP []
theorem zEY : lightC Tryz.prog [] Tryz.f141.ntmps zrP [] 0 (bodyOf Tryz.f141) = some (zp, 2) := by kernel_rfl
def z7 : List (Nat × Option (Nat × Bool)) := [(2, none)]
abbrev zau := (Int) × (List (List Int))
abbrev zbp := (Int) × (Int) × (List (List Int))
def zS (v : zau) : Env × Heap := ([(3, SV.int .i64 v.1), (1, SV.ptr 0 0)], [Blk.cells [SV.es (Kd.list I6) v.2] 0 1])
def zbq (v : zbp) : Env × Heap := ([(4, SV.int .i64 v.1), (1, SV.ptr 0 0), (3, SV.int .i64 v.2.1)], [Blk.cells [SV.es (Kd.list I6) v.2.2] 0 1])
def zbr (fuel : Nat) (g0 : zau → Option ((Bool × Unit) × Unit)) (g1 : zbp → Option ((Bool × Unit) × Unit)) (v : zbp) : Option ((Bool × Unit) × Unit) :=
 cond (decide (v.1 < (8 : Int)))
 (tst (decide (0 ≤ v.2.1)) <|
 tst (decide (v.2.1 < (zz (List.length v.2.2)))) <|
 tst (decide (0 ≤ v.1)) <|
 tst (decide (v.1 < (zz (List.length (List.getD v.2.2 (Int.toNat v.2.1) []))))) <|
 Option.bind (zf fuel ((List.getD (List.getD v.2.2 (Int.toNat v.2.1) []) (Int.toNat v.1) 0, ()), ((0 : Int), ()), ((2000 : Int), ()), ())) fun y_2 =>
 cond (!y_2.1.1)
 (some (((false, ()), ())))
 (g1 (w64 (v.1 + (1 : Int)), v.2.1, v.2.2)))
 (tst (decide (0 ≤ v.2.1)) <|
 tst (decide (v.2.1 < (zz (List.length v.2.2)))) <|
 Option.bind (zR fuel ((List.getD v.2.2 (Int.toNat v.2.1) [], ()), ())) fun y_2 =>
 tst (decide ((0 : Int) < (zz (List.length v.2.2)))) <|
 Option.bind (zR fuel ((List.getD v.2.2 (Int.toNat (0 : Int)) [], ()), ())) fun y_3 =>
 cond (y_2.1.1 != y_3.1.1)
 (some (((false, ()), ())))
 (tst (decide (0 ≤ v.2.1)) <|
 tst (decide (v.2.1 < (zz (List.length v.2.2)))) <|
 Option.bind (zR fuel ((List.getD v.2.2 (Int.toNat v.2.1) [], ()), ())) fun y_5 =>
 cond (decide (y_5.1.1 > (2000 : Int)))
 (some (((false, ()), ())))
 (g0 (w64 (v.2.1 + (1 : Int)), v.2.2))))
def zlU (fuel : Nat) (g0 : zau → Option ((Bool × Unit) × Unit)) (g1 : zbp → Option ((Bool × Unit) × Unit)) : zbp → Option ((Bool × Unit) × Unit) := zbr fuel g0 g1
theorem zEZ (fuel : Nat) (G) : zp.lp (zE fuel) 0 fuel G (endF z7 z6) 1 zbq = iter (zlU fuel (fun v => G 0 (zS v).1 (zS v).2)) fuel := C.lp_iter fun g v =>
  (show run (zE fuel) 0 fuel (zp.bdAt 1) (zbq v).1 (zbq v).2 (loopK 0 (zp.nmAt 1) g (zp.contAt (zE fuel) 0 fuel G 0 1 (endF z7 z6))) = zbr fuel (fun v => G 0 (zS v).1 (zS v).2) (fun v => g (zbq v).1 (zbq v).2) v by kernel_rfl)
def zbs (fuel : Nat) (X1 : zbp → Option ((Bool × Unit) × Unit)) (g0 : zau → Option ((Bool × Unit) × Unit)) (v : zau) : Option ((Bool × Unit) × Unit) :=
 cond (decide (v.1 < (3 : Int)))
 (tst (decide (0 ≤ v.1)) <|
 tst (decide (v.1 < (zz (List.length v.2)))) <|
 cond ((zz (List.length (List.getD v.2 (Int.toNat v.1) []))) != (8 : Int))
 (some (((false, ()), ())))
 (X1 ((0 : Int), v.1, v.2)))
 (some (((true, ()), ())))
def zhK (fuel : Nat) (g0 : zau → Option ((Bool × Unit) × Unit)) : zau → Option ((Bool × Unit) × Unit) := zbs fuel (iter (zlU fuel g0) fuel) g0
theorem zE0 (fuel : Nat) (G) : zp.lp (zE fuel) 0 fuel G (endF z7 z6) 0 zS = iter (zhK fuel) fuel := C.lp_iter fun g v =>
  (show run (zE fuel) 0 fuel (zp.bdAt 0) (zS v).1 (zS v).2 (loopK 0 (zp.nmAt 0) g (zp.contAt (zE fuel) 0 fuel G 0 0 (endF z7 z6))) = zbs fuel (zp.lp (zE fuel) 0 fuel (fun m => bif Nat.beq m 0 then g else G m) (endF z7 z6) 1 zbq) (fun v => g (zS v).1 (zS v).2) v by kernel_rfl).trans (by rw [zEZ]; rfl)
def zhL (fuel : Nat) (X0 : zau → Option ((Bool × Unit) × Unit)) (x0 : List (List Int)) : Option ((Bool × Unit) × Unit) :=
 cond ((zz (List.length x0)) != (3 : Int))
 (some (((false, ()), ())))
 (X0 ((0 : Int), x0))
def zbt (fuel : Nat) (x : (((List (List Int)) × Unit) × Unit)) : Option ((Bool × Unit) × Unit) := zhL fuel (iter (zhK fuel) fuel) x.1.1
theorem zE1 (fuel : Nat) (x : PsT zhJ) : run (zE fuel) 0 fuel zp (env0 (svPs zhJ x) 0) [] (endF z7 z6) = zbt fuel x :=
  (show run (zE fuel) 0 fuel zp (env0 (svPs zhJ x) 0) [] (endF z7 z6) = zhL fuel (zp.lp (zE fuel) 0 fuel (fun _ _ _ => none) (endF z7 z6) 0 zS) x.1.1 by kernel_rfl).trans (by rw [zE0]; rfl)
def zdm (fuel : Nat) : TF := ⟨zhJ, z6, true, zbt fuel⟩
theorem zE2 (fuel : Nat) : FnSpec Tryz.prog 141 (zdm fuel) :=
  fn_spec (T := zE fuel) (c := bodyOf Tryz.f141) (fn := Tryz.f141) (TabOK.of (entCons (zP fuel) (entCons (zlT fuel) entNil)) (methNil)) mixed (by kernel_rfl) (by kernel_rfl) zEY (by kernel_rfl) (Nat.le_of_ble_eq_true (by kernel_rfl)) (rv := z7) (by kernel_rfl) (zE1 fuel)
theorem zlV (fuel : Nat) : EntryOK Tryz.prog 141 (zdm fuel).te := EntryOK.tf rfl (zE2 fuel) (isFn (fn := Tryz.f141) (by kernel_rfl) (by kernel_rfl) (by kernel_rfl))
def zdn (fuel : Nat) : Tab := Tab.of [(107, (zy fuel).te)] []
abbrev zhM : List Pm := [{ cs := [(Kd.list I6, false)], ag := true }]
abbrev zdo : List Pm := [{ cs := [(Kd.bool, false)], ag := false }]
def zrQ : List Norm := [{ live := [3, 1], fix := [] }]
noncomputable def zdp : C := irOf Tryz.prog Tryz.f142 [] zrQ []
theorem zE3 : lightC Tryz.prog [] Tryz.f142.ntmps zrQ [] 0 (bodyOf Tryz.f142) = some (zdp, 1) := by kernel_rfl
def zdq : List (Nat × Option (Nat × Bool)) := [(2, none)]
abbrev zbu := (Int) × (List Int)
def zrR (v : zbu) : Env × Heap := ([(3, SV.int .i64 v.1), (1, SV.ptr 0 0)], [Blk.cells [SV.es I6 v.2] 0 1])
def zdr (fuel : Nat) (g0 : zbu → Option ((Bool × Unit) × Unit)) (v : zbu) : Option ((Bool × Unit) × Unit) :=
 cond (decide (v.1 < (zz (List.length v.2))))
 (tst (decide (0 ≤ v.1)) <|
 tst (decide (v.1 < (zz (List.length v.2)))) <|
 Option.bind (zf fuel ((List.getD v.2 (Int.toNat v.1) 0, ()), ((0 : Int), ()), ((63 : Int), ()), ())) fun y_2 =>
 cond (!y_2.1.1)
 (some (((false, ()), ())))
 (cond (decide (v.1 > (0 : Int)))
 (tst (decide (0 ≤ w64 (v.1 - (1 : Int)))) <|
 tst (decide (w64 (v.1 - (1 : Int)) < (zz (List.length v.2)))) <|
 tst (decide (0 ≤ v.1)) <|
 tst (decide (v.1 < (zz (List.length v.2)))) <|
 cond (decide (List.getD v.2 (Int.toNat (w64 (v.1 - (1 : Int)))) 0 ≥ List.getD v.2 (Int.toNat v.1) 0))
 (some (((false, ()), ())))
 (g0 (w64 (v.1 + (1 : Int)), v.2)))
 (g0 (w64 (v.1 + (1 : Int)), v.2))))
 (some (((decide ((zz (List.length v.2)) ≤ (6 : Int)), ()), ())))
def zhN (fuel : Nat) (g0 : zbu → Option ((Bool × Unit) × Unit)) : zbu → Option ((Bool × Unit) × Unit) := zdr fuel g0
theorem zE4 (fuel : Nat) (G) : zdp.lp (zdn fuel) 0 fuel G (endF zdq zdo) 0 zrR = iter (zhN fuel) fuel := C.lp_iter fun g v => by kernel_rfl
def zrS (fuel : Nat) (X0 : zbu → Option ((Bool × Unit) × Unit)) (x0 : List Int) : Option ((Bool × Unit) × Unit) :=
 X0 ((0 : Int), x0)
def zds (fuel : Nat) (x : (((List Int) × Unit) × Unit)) : Option ((Bool × Unit) × Unit) := zrS fuel (iter (zhN fuel) fuel) x.1.1
theorem zE5 (fuel : Nat) (x : PsT zhM) : run (zdn fuel) 0 fuel zdp (env0 (svPs zhM x) 0) [] (endF zdq zdo) = zds fuel x :=
  (show run (zdn fuel) 0 fuel zdp (env0 (svPs zhM x) 0) [] (endF zdq zdo) = zrS fuel (zdp.lp (zdn fuel) 0 fuel (fun _ _ _ => none) (endF zdq zdo) 0 zrR) x.1.1 by kernel_rfl).trans (by rw [zE4]; rfl)
def zhO (fuel : Nat) : TF := ⟨zhM, zdo, true, zds fuel⟩
theorem zE6 (fuel : Nat) : FnSpec Tryz.prog 142 (zhO fuel) :=
  fn_spec (T := zdn fuel) (c := bodyOf Tryz.f142) (fn := Tryz.f142) (TabOK.of (entCons (zP fuel) entNil) (methNil)) mixed (by kernel_rfl) (by kernel_rfl) zE3 (by kernel_rfl) (Nat.le_of_ble_eq_true (by kernel_rfl)) (rv := zdq) (by kernel_rfl) (zE5 fuel)
theorem zrT (fuel : Nat) : EntryOK Tryz.prog 142 (zhO fuel).te := EntryOK.tf rfl (zE6 fuel) (isFn (fn := Tryz.f142) (by kernel_rfl) (by kernel_rfl) (by kernel_rfl))
def zdt (fuel : Nat) : Tab := Tab.of [] []
abbrev zhP : List Pm := [{ cs := [(Kd.list KP, false)], ag := false }]
abbrev zdu : List Pm := [{ cs := [(I6, false)], ag := false }]
def zrU : List Norm := [{ live := [4, 0, 3], fix := [] }]
noncomputable def zdv : C := irOf Tryz.prog Tryz.f185 [] zrU []
theorem zE7 : lightC Tryz.prog [] Tryz.f185.ntmps zrU [] 0 (bodyOf Tryz.f185) = some (zdv, 1) := by kernel_rfl
def zdw : List (Nat × Option (Nat × Bool)) := [(2, none)]
abbrev zbv := (Int) × LP × (Int)
def zrV (v : zbv) : Env × Heap := ([(4, SV.int .i64 v.1), (0, SV.es KP v.2.1), (3, SV.int .i64 v.2.2)], [])
def zdx (fuel : Nat) (g0 : zbv → Option ((Int × Unit) × Unit)) (v : zbv) : Option ((Int × Unit) × Unit) :=
 cond (decide (v.1 < (zz (List.length v.2.1))))
 (tst (decide (0 ≤ v.1)) <|
 tst (decide (v.1 < (zz (List.length v.2.1)))) <|
 g0 (w64 (v.1 + (1 : Int)), v.2.1, w64 (v.2.2 + (List.getD v.2.1 (Int.toNat v.1) (0, (0, ()))).2.1)))
 (some (((v.2.2, ()), ())))
def zhQ (fuel : Nat) (g0 : zbv → Option ((Int × Unit) × Unit)) : zbv → Option ((Int × Unit) × Unit) := zdx fuel g0
theorem zE8 (fuel : Nat) (G) : zdv.lp (zdt fuel) 0 fuel G (endF zdw zdu) 0 zrV = iter (zhQ fuel) fuel := C.lp_iter fun g v => by kernel_rfl
def zrW (fuel : Nat) (X0 : zbv → Option ((Int × Unit) × Unit)) (x0 : LP) : Option ((Int × Unit) × Unit) :=
 X0 ((0 : Int), x0, (0 : Int))
def zhR (fuel : Nat) (x : ((LP × Unit) × Unit)) : Option ((Int × Unit) × Unit) := zrW fuel (iter (zhQ fuel) fuel) x.1.1
theorem zE9 (fuel : Nat) (x : PsT zhP) : run (zdt fuel) 0 fuel zdv (env0 (svPs zhP x) 0) [] (endF zdw zdu) = zhR fuel x :=
  (show run (zdt fuel) 0 fuel zdv (env0 (svPs zhP x) 0) [] (endF zdw zdu) = zrW fuel (zdv.lp (zdt fuel) 0 fuel (fun _ _ _ => none) (endF zdw zdu) 0 zrV) x.1.1 by kernel_rfl).trans (by rw [zE8]; rfl)
def zlW (fuel : Nat) : TF := ⟨zhP, zdu, true, zhR fuel⟩
theorem zFa (fuel : Nat) : FnSpec Tryz.prog 185 (zlW fuel) :=
  fn_spec (T := zdt fuel) (c := bodyOf Tryz.f185) (fn := Tryz.f185) (TabOK.of (entNil) (methNil)) mixed (by kernel_rfl) (by kernel_rfl) zE7 (by kernel_rfl) (Nat.le_of_ble_eq_true (by kernel_rfl)) (rv := zdw) (by kernel_rfl) (zE9 fuel)
theorem zFb (fuel : Nat) : EntryOK Tryz.prog 185 (zlW fuel).te := EntryOK.tf rfl (zFa fuel) (isFn (fn := Tryz.f185) (by kernel_rfl) (by kernel_rfl) (by kernel_rfl))
def zdy (fuel : Nat) : Tab := Tab.of [(107, (zy fuel).te), (185, (zlW fuel).te)] []
abbrev zhS : List Pm := [{ cs := [(Kd.list KP, false), (I6, false), (I6, false)], ag := true }]
abbrev zdz : List Pm := [{ cs := [(Kd.bool, false)], ag := false }]
def zrX : List Norm := [{ live := [3, 1], fix := [] }]
noncomputable def zdA : C := irOf Tryz.prog Tryz.f143 [] zrX []
theorem zFc : lightC Tryz.prog [] Tryz.f143.ntmps zrX [] 0 (bodyOf Tryz.f143) = some (zdA, 1) := by kernel_rfl
def zdB : List (Nat × Option (Nat × Bool)) := [(2, none)]
abbrev zbw := (Int) × LP × (Int) × (Int)
def zrY (v : zbw) : Env × Heap := ([(3, SV.int .i64 v.1), (1, SV.ptr 0 0)], [Blk.cells [SV.es KP v.2.1, SV.int .i64 v.2.2.1, SV.int .i64 v.2.2.2] 0 3])
def zdC (fuel : Nat) (g0 : zbw → Option ((Bool × Unit) × Unit)) (v : zbw) : Option ((Bool × Unit) × Unit) :=
 cond (decide (v.1 < (zz (List.length v.2.1))))
 (tst (decide (0 ≤ v.1)) <|
 tst (decide (v.1 < (zz (List.length v.2.1)))) <|
 Option.bind (zf fuel (((List.getD v.2.1 (Int.toNat v.1) (0, (0, ()))).1, ()), ((0 : Int), ()), ((63 : Int), ()), ())) fun y_2 =>
 cond (!y_2.1.1)
 (some (((false, ()), ())))
 (tst (decide (0 ≤ v.1)) <|
 tst (decide (v.1 < (zz (List.length v.2.1)))) <|
 Option.bind (zf fuel (((List.getD v.2.1 (Int.toNat v.1) (0, (0, ()))).2.1, ()), ((1 : Int), ()), ((2000 : Int), ()), ())) fun y_4 =>
 cond (!y_4.1.1)
 (some (((false, ()), ())))
 (cond (decide (v.1 > (0 : Int)))
 (tst (decide (0 ≤ w64 (v.1 - (1 : Int)))) <|
 tst (decide (w64 (v.1 - (1 : Int)) < (zz (List.length v.2.1)))) <|
 tst (decide (0 ≤ v.1)) <|
 tst (decide (v.1 < (zz (List.length v.2.1)))) <|
 cond (decide ((List.getD v.2.1 (Int.toNat (w64 (v.1 - (1 : Int)))) (0, (0, ()))).1 ≥ (List.getD v.2.1 (Int.toNat v.1) (0, (0, ()))).1))
 (some (((false, ()), ())))
 (g0 (w64 (v.1 + (1 : Int)), v.2.1, v.2.2.1, v.2.2.2)))
 (g0 (w64 (v.1 + (1 : Int)), v.2.1, v.2.2.1, v.2.2.2)))))
 (cond (decide ((zz (List.length v.2.1)) ≤ (4 : Int)))
 (Option.bind (zf fuel ((v.2.2.2, ()), ((0 : Int), ()), ((2000 : Int), ()), ())) fun y_3 =>
 cond (y_3.1.1)
 (Option.bind (zf fuel ((v.2.2.1, ()), ((0 : Int), ()), ((2000 : Int), ()), ())) fun y_5 =>
 cond (y_5.1.1)
 (Option.bind (zhR fuel ((v.2.1, ()), ())) fun y_7 =>
 some (((decide (w64 (y_7.1.1 + w64 ((5 : Int) * v.2.2.1)) ≤ v.2.2.2), ()), ())))
 (some (((false, ()), ()))))
 (some (((false, ()), ()))))
 (some (((false, ()), ()))))
def zhT (fuel : Nat) (g0 : zbw → Option ((Bool × Unit) × Unit)) : zbw → Option ((Bool × Unit) × Unit) := zdC fuel g0
theorem zFd (fuel : Nat) (G) : zdA.lp (zdy fuel) 0 fuel G (endF zdB zdz) 0 zrY = iter (zhT fuel) fuel := C.lp_iter fun g v => by kernel_rfl
def zrZ (fuel : Nat) (X0 : zbw → Option ((Bool × Unit) × Unit)) (x0 : LP) (x1 : Int) (x2 : Int) : Option ((Bool × Unit) × Unit) :=
 X0 ((0 : Int), x0, x1, x2)
def zdD (fuel : Nat) (x : ((LP × (Int × (Int × Unit))) × Unit)) : Option ((Bool × Unit) × Unit) := zrZ fuel (iter (zhT fuel) fuel) x.1.1 x.1.2.1 x.1.2.2.1
theorem zFe (fuel : Nat) (x : PsT zhS) : run (zdy fuel) 0 fuel zdA (env0 (svPs zhS x) 0) [] (endF zdB zdz) = zdD fuel x :=
  (show run (zdy fuel) 0 fuel zdA (env0 (svPs zhS x) 0) [] (endF zdB zdz) = zrZ fuel (zdA.lp (zdy fuel) 0 fuel (fun _ _ _ => none) (endF zdB zdz) 0 zrY) x.1.1 x.1.2.1 x.1.2.2.1 by kernel_rfl).trans (by rw [zFd]; rfl)
def zhU (fuel : Nat) : TF := ⟨zhS, zdz, true, zdD fuel⟩
theorem zFf (fuel : Nat) : FnSpec Tryz.prog 143 (zhU fuel) :=
  fn_spec (T := zdy fuel) (c := bodyOf Tryz.f143) (fn := Tryz.f143) (TabOK.of (entCons (zP fuel) (entCons (zFb fuel) entNil)) (methNil)) mixed (by kernel_rfl) (by kernel_rfl) zFc (by kernel_rfl) (Nat.le_of_ble_eq_true (by kernel_rfl)) (rv := zdB) (by kernel_rfl) (zFe fuel)
theorem zr0 (fuel : Nat) : EntryOK Tryz.prog 143 (zhU fuel).te := EntryOK.tf rfl (zFf fuel) (isFn (fn := Tryz.f143) (by kernel_rfl) (by kernel_rfl) (by kernel_rfl))
end Go.Proofs.YtdgdoeknpakmlaaGreat.Den
namespace Go.Proofs.YtdgdoeknpakmlaaGreat.Den
open Go Go.RowKit
def zr1 (fuel : Nat) : Tab := Tab.of [(135, (zdl fuel).te), (141, (zdm fuel).te)] []
abbrev zlX : List Pm := [{ cs := [(Kd.list (Kd.list I6), false)], ag := true }]
abbrev zr2 : List Pm := [{ cs := [(I6, false)], ag := false }]
def zr3 : List Norm := []
noncomputable def zr4 : C := irOf Tryz.prog Tryz.f145 [] zr3 []
theorem zFg : lightC Tryz.prog [] Tryz.f145.ntmps zr3 [] 0 (bodyOf Tryz.f145) = some (zr4, 0) := by kernel_rfl
def zr5 : List (Nat × Option (Nat × Bool)) := [(2, none)]
def zlY (fuel : Nat) (x0 : List (List Int)) : Option ((Int × Unit) × Unit) :=
 Option.bind (zbt fuel ((x0, ()), ())) fun y_1 =>
 cond (!y_1.1.1)
 (some ((((-1 : Int), ()), ())))
 (tst (decide ((0 : Int) < (zz (List.length x0)))) <|
 Option.bind (zR fuel ((List.getD x0 (Int.toNat (0 : Int)) [], ()), ())) fun y_3 =>
 some (((y_3.1.1, ()), ())))
def zhV (fuel : Nat) (x : (((List (List Int)) × Unit) × Unit)) : Option ((Int × Unit) × Unit) := zlY fuel x.1.1
theorem zFh (fuel : Nat) (x : PsT zlX) : run (zr1 fuel) 0 fuel zr4 (env0 (svPs zlX x) 0) [] (endF zr5 zr2) = zhV fuel x := by kernel_rfl
def zlZ (fuel : Nat) : TF := ⟨zlX, zr2, true, zhV fuel⟩
theorem zFi (fuel : Nat) : FnSpec Tryz.prog 145 (zlZ fuel) :=
  fn_spec (T := zr1 fuel) (c := bodyOf Tryz.f145) (fn := Tryz.f145) (TabOK.of (entCons (zlT fuel) (entCons (zlV fuel) entNil)) (methNil)) mixed (by kernel_rfl) (by kernel_rfl) zFg (by kernel_rfl) (Nat.le_of_ble_eq_true (by kernel_rfl)) (rv := zr5) (by kernel_rfl) (zFh fuel)
theorem zFj (fuel : Nat) : EntryOK Tryz.prog 145 (zlZ fuel).te := EntryOK.tf rfl (zFi fuel) (isFn (fn := Tryz.f145) (by kernel_rfl) (by kernel_rfl) (by kernel_rfl))
def zr6 (fuel : Nat) : Tab := Tab.of [(141, (zdm fuel).te), (142, (zhO fuel).te), (143, (zhU fuel).te), (144, (zhD fuel).te), (145, (zlZ fuel).te)] []
abbrev zl0 : List Pm := [{ cs := [(Kd.list (Kd.list I6), false), (Kd.list I6, false), (Kd.list KP, false), (I6, false), (I6, false), (Kd.list KP, false), (I6, false)], ag := true }]
abbrev zr7 : List Pm := [{ cs := [(Kd.bool, false)], ag := false }]
def zr8 : List Norm := []
noncomputable def zr9 : C := irOf Tryz.prog Tryz.f98 [] zr8 []
theorem zFk : lightC Tryz.prog [] Tryz.f98.ntmps zr8 [] 0 (bodyOf Tryz.f98) = some (zr9, 0) := by kernel_rfl
def zsa : List (Nat × Option (Nat × Bool)) := [(2, none)]
def zl1 (fuel : Nat) (x0 : List (List Int)) (x1 : List Int) (x2 : LP) (x3 : Int) (x4 : Int) (x5 : LP) (x6 : Int) : Option ((Bool × Unit) × Unit) :=
 Option.bind (zbt fuel ((x0, ()), ())) fun y_1 =>
 cond (y_1.1.1)
 (Option.bind (zds fuel ((x1, ()), ())) fun y_3 =>
 cond (y_3.1.1)
 (Option.bind (zdD fuel ((x2, x3, x4, ()), ())) fun y_5 =>
 cond (y_5.1.1)
 (Option.bind (zbl fuel ((x5, x6, ()), ())) fun y_7 =>
 cond (y_7.1.1)
 (Option.bind (zhV fuel ((x0, ()), ())) fun y_9 =>
 cond (y_9.1.1 == x4)
 (cond (x4 == x6)
 (some (((decide ((zz (List.length x1)) > (0 : Int)) == decide (x4 > (0 : Int)), ()), ())))
 (some (((false, ()), ()))))
 (some (((false, ()), ()))))
 (some (((false, ()), ()))))
 (some (((false, ()), ()))))
 (some (((false, ()), ()))))
 (some (((false, ()), ())))
def zdE (fuel : Nat) (x : (SumY × Unit)) : Option ((Bool × Unit) × Unit) := zl1 fuel x.1.1 x.1.2.1 x.1.2.2.1 x.1.2.2.2.1 x.1.2.2.2.2.1 x.1.2.2.2.2.2.1 x.1.2.2.2.2.2.2.1
theorem zFl (fuel : Nat) (x : PsT zl0) : run (zr6 fuel) 0 fuel zr9 (env0 (svPs zl0 x) 0) [] (endF zsa zr7) = zdE fuel x := by kernel_rfl
def zl2 (fuel : Nat) : TF := ⟨zl0, zr7, true, zdE fuel⟩
theorem zFm (fuel : Nat) : FnSpec Tryz.prog 98 (zl2 fuel) :=
  fn_spec (T := zr6 fuel) (c := bodyOf Tryz.f98) (fn := Tryz.f98) (TabOK.of (entCons (zlV fuel) (entCons (zrT fuel) (entCons (zr0 fuel) (entCons (zrC fuel) (entCons (zFj fuel) entNil))))) (methNil)) mixed (by kernel_rfl) (by kernel_rfl) zFk (by kernel_rfl) (Nat.le_of_ble_eq_true (by kernel_rfl)) (rv := zsa) (by kernel_rfl) (zFl fuel)
theorem zFn (fuel : Nat) : EntryOK Tryz.prog 98 (zl2 fuel).te := EntryOK.tf rfl (zFm fuel) (isFn (fn := Tryz.f98) (by kernel_rfl) (by kernel_rfl) (by kernel_rfl))
def zsb (fuel : Nat) : Tab := Tab.of [] []
abbrev zsc : Sh := (.agg (.cell (Kd.list (Kd.list I6)) 5 .nil) .nil)
abbrev zsd : Sh := (.agg (.cell (Kd.list (Kd.list I6)) 5 .nil) .nil)
def zse : List Norm := [{ live := [4, 1, 3, 2], fix := [] }]
noncomputable def zsf : C := irOf Tryz.prog Tryz.f146 [21] zse []
theorem zFo : lightC Tryz.prog [21] Tryz.f146.ntmps zse [] 0 (bodyOf Tryz.f146) = some (zsf, 1) := by kernel_rfl
def zsg : List (Nat × Option (Nat × Bool)) := [(2, some (1, true))]
def zdF (fuel : Nat) (x0 : List Int) (x1 : List Int) (x2 : List Int) : Option (((List (List Int)) × Unit) × Unit) :=
 tst (decide (0 + List.length x0 < LIM)) <|
 tst (decide (0 + List.length x1 < LIM)) <|
 tst (decide (0 + List.length x2 < LIM)) <|
 some ((([[] ++ x0, [] ++ x1, [] ++ x2], ()), ()))
def zl3 (fuel : Nat) (x : (((List (List Int)) × Unit) × Unit)) : Option (((List (List Int)) × Unit) × Unit) := lit3 x.1.1 fun x0 x1 x2 => zdF fuel x0 x1 x2
theorem zFp (fuel : Nat) (x0 : List Int) (x1 : List Int) (x2 : List Int) : run (zsb fuel) 0 (fuel + 6) zsf (env0 (svS zsc (([x0, x1, x2], ()), ())) 0) [] (endG zsg zsd) = zdF fuel x0 x1 x2 := by kernel_rfl
def zl4 (fuel : Nat) : TG := ⟨zsc, zsd, true, zl3 fuel⟩
theorem zFq (fuel : Nat) : FnSpecG Tryz.prog 146 (zl4 fuel) :=
  zd (T := zsb fuel) (c := bodyOf Tryz.f146) (fn := Tryz.f146) (TabOK.of (entNil) (methNil)) mixed (by kernel_rfl) (by kernel_rfl) zFo (by kernel_rfl) (Nat.le_of_ble_eq_true (by kernel_rfl)) (rv := zsg) (by kernel_rfl) (fun x y h => by
    obtain ⟨⟨l0, ⟨⟩⟩, ⟨⟩⟩ := x
    obtain ⟨x0, x1, x2, rfl, h⟩ := zqU (show lit3 l0 (fun x0 x1 x2 => zdF fuel x0 x1 x2) = some y from h)
    exact (zFp fuel x0 x1 x2).trans h)
theorem zFr (fuel : Nat) : EntryOK Tryz.prog 146 (zl4 fuel).te := EntryOK.tg rfl (zFq fuel) (isFn (fn := Tryz.f146) (by kernel_rfl) (by kernel_rfl) (by kernel_rfl))
def zsh (fuel : Nat) : Tab := Tab.of [] []
abbrev zl5 : List Pm := [{ cs := [(I6, false)], ag := false }, { cs := [(I6, false)], ag := false }]
abbrev zsi : List Pm := [{ cs := [(I6, false)], ag := false }]
def zsj : List Norm := []
noncomputable def zsk : C := irOf Tryz.prog Tryz.f158 [] zsj []
theorem zFs : lightC Tryz.prog [] Tryz.f158.ntmps zsj [] 0 (bodyOf Tryz.f158) = some (zsk, 0) := by kernel_rfl
def zsl : List (Nat × Option (Nat × Bool)) := [(4, none)]
def zl6 (fuel : Nat) (x0 : Int) (x1 : Int) : Option ((Int × Unit) × Unit) :=
 tst (decide (0 ≤ x0)) <|
 tst (decide (x0 < (zz 3))) <|
 tst (decide (Int.toNat x0 < 3)) <|
 tst (decide (0 ≤ x0)) <|
 tst (decide (x0 < (zz 3))) <|
 tst (decide (Int.toNat x0 < 3)) <|
 tst (!decide (List.getD [(8 : Int), (16 : Int), (4 : Int)] (Int.toNat x0) 0 = 0)) <|
 some (((Int.tmod (w64 (w64 (w64 (x1 * List.getD [(3 : Int), (5 : Int), (1 : Int)] (Int.toNat x0) 0) + w64 (Int.tdiv x1 (List.getD [(8 : Int), (16 : Int), (4 : Int)] (Int.toNat x0) 0))) + x0)) (8 : Int), ()), ()))
def z8 (fuel : Nat) (x : ((Int × Unit) × ((Int × Unit) × Unit))) : Option ((Int × Unit) × Unit) := zl6 fuel x.1.1 x.2.1.1
theorem zFt (fuel : Nat) (x : PsT zl5) : run (zsh fuel) 0 fuel zsk (env0 (svPs zl5 x) 0) [] (endF zsl zsi) = z8 fuel x := by kernel_rfl
def zl7 (fuel : Nat) : TF := ⟨zl5, zsi, true, z8 fuel⟩
theorem zFu (fuel : Nat) : FnSpec Tryz.prog 158 (zl7 fuel) :=
  fn_spec (T := zsh fuel) (c := bodyOf Tryz.f158) (fn := Tryz.f158) (TabOK.of (entNil) (methNil)) mixed (by kernel_rfl) (by kernel_rfl) zFs (by kernel_rfl) (Nat.le_of_ble_eq_true (by kernel_rfl)) (rv := zsl) (by kernel_rfl) (zFt fuel)
theorem zFv (fuel : Nat) : EntryOK Tryz.prog 158 (zl7 fuel).te := EntryOK.tf rfl (zFu fuel) (isFn (fn := Tryz.f158) (by kernel_rfl) (by kernel_rfl) (by kernel_rfl))
def zsm (fuel : Nat) : Tab := Tab.of [(107, (zy fuel).te), (135, (zdl fuel).te), (141, (zdm fuel).te), (146, (zl4 fuel).te), (158, (zl7 fuel).te)] []
abbrev zl8 : List Pm := [{ cs := [(Kd.list (Kd.list I6), false)], ag := true }, { cs := [(I6, false)], ag := false }, { cs := [(I6, false)], ag := false }]
abbrev zsn : List Pm := [{ cs := [(Kd.list (Kd.list I6), false)], ag := true }, { cs := [(Kd.bool, false)], ag := false }]
def zso : List Norm := [{ live := [9, 8, 1, 2, 6], fix := [] }]
noncomputable def zsp : C := irOf Tryz.prog Tryz.f108 [] zso []
theorem zFw : lightC Tryz.prog [] Tryz.f108.ntmps zso [] 0 (bodyOf Tryz.f108) = some (zsp, 1) := by kernel_rfl
def zsq : List (Nat × Option (Nat × Bool)) := [(6, some (1, true)), (7, none)]
def zl9 (fuel : Nat) (x0 : List (List Int)) (x1 : Int) (x2 : Int) : Option (((List (List Int)) × Unit) × ((Bool × Unit) × Unit)) :=
 Option.bind (zbt fuel ((x0, ()), ())) fun y_1 =>
 cond (!y_1.1.1)
 (some ((([], ()), (false, ()), ())))
 (Option.bind (zf fuel ((x1, ()), ((0 : Int), ()), ((63 : Int), ()), ())) fun y_3 =>
 cond (!y_3.1.1)
 (some ((([], ()), (false, ()), ())))
 (tst (decide ((0 : Int) < (zz (List.length x0)))) <|
 Option.bind (zR fuel ((List.getD x0 (Int.toNat (0 : Int)) [], ()), ())) fun y_5 =>
 Option.bind (zf fuel ((x2, ()), ((0 : Int), ()), (w64 ((2000 : Int) - y_5.1.1), ()), ())) fun y_6 =>
 cond (!y_6.1.1)
 (some ((([], ()), (false, ()), ())))
 (Option.bind (zl3 fuel ((x0, ()), ())) fun y_8 =>
 Option.bind (z8 fuel (((0 : Int), ()), (x1, ()), ())) fun y_9 =>
 Option.bind (z8 fuel (((0 : Int), ()), (x1, ()), ())) fun y_10 =>
 tst (decide (0 ≤ y_10.1.1)) <|
 tst (decide (y_10.1.1 < (zz (List.length (List.getD y_8.1.1 0 []))))) <|
 tst (decide (Int.toNat y_10.1.1 < List.length (List.getD y_8.1.1 0 []))) <|
 tst (decide (0 ≤ y_9.1.1)) <|
 tst (decide (y_9.1.1 < (zz (List.length (List.getD y_8.1.1 0 []))))) <|
 tst (decide (Int.toNat y_9.1.1 < List.length (List.getD y_8.1.1 0 []))) <|
 let z1_3 := List.set (List.getD y_8.1.1 0 []) (Int.toNat y_9.1.1) (w64 (List.getD (List.getD y_8.1.1 0 []) (Int.toNat y_10.1.1) 0 + x2))
 Option.bind (z8 fuel (((1 : Int), ()), (x1, ()), ())) fun y_11 =>
 Option.bind (z8 fuel (((1 : Int), ()), (x1, ()), ())) fun y_12 =>
 tst (decide (0 ≤ y_12.1.1)) <|
 tst (decide (y_12.1.1 < (zz (List.length (List.getD y_8.1.1 1 []))))) <|
 tst (decide (Int.toNat y_12.1.1 < List.length (List.getD y_8.1.1 1 []))) <|
 tst (decide (0 ≤ y_11.1.1)) <|
 tst (decide (y_11.1.1 < (zz (List.length (List.getD y_8.1.1 1 []))))) <|
 tst (decide (Int.toNat y_11.1.1 < List.length (List.getD y_8.1.1 1 []))) <|
 let z2_4 := List.set (List.getD y_8.1.1 1 []) (Int.toNat y_11.1.1) (w64 (List.getD (List.getD y_8.1.1 1 []) (Int.toNat y_12.1.1) 0 + x2))
 Option.bind (z8 fuel (((2 : Int), ()), (x1, ()), ())) fun y_13 =>
 Option.bind (z8 fuel (((2 : Int), ()), (x1, ()), ())) fun y_14 =>
 tst (decide (0 ≤ y_14.1.1)) <|
 tst (decide (y_14.1.1 < (zz (List.length (List.getD y_8.1.1 2 []))))) <|
 tst (decide (Int.toNat y_14.1.1 < List.length (List.getD y_8.1.1 2 []))) <|
 tst (decide (0 ≤ y_13.1.1)) <|
 tst (decide (y_13.1.1 < (zz (List.length (List.getD y_8.1.1 2 []))))) <|
 tst (decide (Int.toNat y_13.1.1 < List.length (List.getD y_8.1.1 2 []))) <|
 let z3_5 := List.set (List.getD y_8.1.1 2 []) (Int.toNat y_13.1.1) (w64 (List.getD (List.getD y_8.1.1 2 []) (Int.toNat y_14.1.1) 0 + x2))
 some ((([z1_3, z2_4, z3_5], ()), (true, ()), ())))))
def zhW (fuel : Nat) (x : (((List (List Int)) × Unit) × ((Int × Unit) × ((Int × Unit) × Unit)))) : Option (((List (List Int)) × Unit) × ((Bool × Unit) × Unit)) := zl9 fuel x.1.1 x.2.1.1 x.2.2.1.1
theorem zFx (fuel : Nat) (x : PsT zl8) : run (zsm fuel) 0 (fuel + 6) zsp (env0 (svPs zl8 x) 0) [] (endF zsq zsn) = zhW fuel x := by kernel_rfl
def zma (fuel : Nat) : TF := ⟨zl8, zsn, false, zhW fuel⟩
theorem zFy (fuel : Nat) : FnSpec Tryz.prog 108 (zma fuel) :=
  fn_spec (T := zsm fuel) (c := bodyOf Tryz.f108) (fn := Tryz.f108) (TabOK.of (entCons (zP fuel) (entCons (zlT fuel) (entCons (zlV fuel) (entCons (zFr fuel) (entCons (zFv fuel) entNil))))) (methNil)) mixed (by kernel_rfl) (by kernel_rfl) zFw (by kernel_rfl) (Nat.le_of_ble_eq_true (by kernel_rfl)) (rv := zsq) (by kernel_rfl) (zFx fuel)
theorem zFz (fuel : Nat) : EntryOK Tryz.prog 108 (zma fuel).te := EntryOK.tf rfl (zFy fuel) (isFn (fn := Tryz.f108) (by kernel_rfl) (by kernel_rfl) (by kernel_rfl))
abbrev zaQ := Option (((List Int) × Unit) × Unit)
def zdG (fuel : Nat) : Tab := Tab.of [] []
abbrev zhX : List Pm := [{ cs := [(Kd.list I6, false)], ag := false }, { cs := [(I6, false)], ag := false }]
abbrev zdH : List Pm := [{ cs := [(Kd.list I6, true)], ag := false }]
def zsr : List Norm := [{ live := [7, 0, 6, 1, 5], fix := [(5, none, I6, true)] }]
noncomputable def zdI : C := irOf Tryz.prog Tryz.f147 [] zsr []
theorem zFA : lightC Tryz.prog [] Tryz.f147.ntmps zsr [] 0 (bodyOf Tryz.f147) = some (zdI, 1) := by kernel_rfl
def zdJ : List (Nat × Option (Nat × Bool)) := [(4, none)]
abbrev zbx := (Int) × (List Int) × (Bool) × (Int) × (List Int)
def zss (v : zbx) : Env × Heap := ([(7, SV.int .i64 v.1), (0, SV.es I6 v.2.1), (6, SV.bool v.2.2.1), (1, SV.int .i64 v.2.2.2.1), (5, SV.own 0)], [Blk.arr I6 v.2.2.2.2 0])
def zdK (fuel : Nat) (g0 : zbx → zaQ) (v : zbx) : zaQ :=
 cond (decide (v.1 < (zz (List.length v.2.1))))
 (cond (!v.2.2.1)
 (tst (decide (0 ≤ v.1)) <|
 tst (decide (v.1 < (zz (List.length v.2.1)))) <|
 cond (decide (List.getD v.2.1 (Int.toNat v.1) 0 ≥ v.2.2.2.1))
 (tst (decide (List.length v.2.2.2.2 + 1 < LIM)) <|
 tst (decide (0 ≤ v.1)) <|
 tst (decide (v.1 < (zz (List.length v.2.1)))) <|
 cond (List.getD v.2.1 (Int.toNat v.1) 0 != v.2.2.2.1)
 (tst (decide (0 ≤ v.1)) <|
 tst (decide (v.1 < (zz (List.length v.2.1)))) <|
 tst (decide (List.length (v.2.2.2.2 ++ [v.2.2.2.1]) + 1 < LIM)) <|
 g0 (w64 (v.1 + (1 : Int)), v.2.1, true, v.2.2.2.1, v.2.2.2.2 ++ [v.2.2.2.1] ++ [List.getD v.2.1 (Int.toNat v.1) 0]))
 (g0 (w64 (v.1 + (1 : Int)), v.2.1, true, v.2.2.2.1, v.2.2.2.2 ++ [v.2.2.2.1])))
 (tst (decide (0 ≤ v.1)) <|
 tst (decide (v.1 < (zz (List.length v.2.1)))) <|
 cond (List.getD v.2.1 (Int.toNat v.1) 0 != v.2.2.2.1)
 (tst (decide (0 ≤ v.1)) <|
 tst (decide (v.1 < (zz (List.length v.2.1)))) <|
 tst (decide (List.length v.2.2.2.2 + 1 < LIM)) <|
 g0 (w64 (v.1 + (1 : Int)), v.2.1, v.2.2.1, v.2.2.2.1, v.2.2.2.2 ++ [List.getD v.2.1 (Int.toNat v.1) 0]))
 (g0 (w64 (v.1 + (1 : Int)), v.2.1, v.2.2.1, v.2.2.2.1, v.2.2.2.2))))
 (tst (decide (0 ≤ v.1)) <|
 tst (decide (v.1 < (zz (List.length v.2.1)))) <|
 cond (List.getD v.2.1 (Int.toNat v.1) 0 != v.2.2.2.1)
 (tst (decide (0 ≤ v.1)) <|
 tst (decide (v.1 < (zz (List.length v.2.1)))) <|
 tst (decide (List.length v.2.2.2.2 + 1 < LIM)) <|
 g0 (w64 (v.1 + (1 : Int)), v.2.1, v.2.2.1, v.2.2.2.1, v.2.2.2.2 ++ [List.getD v.2.1 (Int.toNat v.1) 0]))
 (g0 (w64 (v.1 + (1 : Int)), v.2.1, v.2.2.1, v.2.2.2.1, v.2.2.2.2))))
 (cond (!v.2.2.1)
 (tst (decide (List.length v.2.2.2.2 + 1 < LIM)) <|
 tst (decide (0 ≤ if (6 : Int) < (zz (List.length (v.2.2.2.2 ++ [v.2.2.2.1]))) then (6 : Int) else (zz (List.length (v.2.2.2.2 ++ [v.2.2.2.1]))))) <|
 tst (decide ((if (6 : Int) < (zz (List.length (v.2.2.2.2 ++ [v.2.2.2.1]))) then (6 : Int) else (zz (List.length (v.2.2.2.2 ++ [v.2.2.2.1])))) ≤ (zz (List.length (v.2.2.2.2 ++ [v.2.2.2.1]))))) <|
 some (((List.take (Int.toNat (if (6 : Int) < (zz (List.length (v.2.2.2.2 ++ [v.2.2.2.1]))) then (6 : Int) else (zz (List.length (v.2.2.2.2 ++ [v.2.2.2.1])))) - 0) (List.drop 0 (v.2.2.2.2 ++ [v.2.2.2.1])), ()), ())))
 (tst (decide (0 ≤ if (6 : Int) < (zz (List.length v.2.2.2.2)) then (6 : Int) else (zz (List.length v.2.2.2.2)))) <|
 tst (decide ((if (6 : Int) < (zz (List.length v.2.2.2.2)) then (6 : Int) else (zz (List.length v.2.2.2.2))) ≤ (zz (List.length v.2.2.2.2)))) <|
 some (((List.take (Int.toNat (if (6 : Int) < (zz (List.length v.2.2.2.2)) then (6 : Int) else (zz (List.length v.2.2.2.2))) - 0) (List.drop 0 v.2.2.2.2), ()), ()))))
def zdL (fuel : Nat) (g0 : zbx → zaQ) : zbx → zaQ := zdK fuel g0
theorem zFB (fuel : Nat) (G) : zdI.lp (zdG fuel) 0 fuel G (endF zdJ zdH) 0 zss = iter (zdL fuel) fuel := C.lp_iter fun g v => by kernel_rfl
def zst (fuel : Nat) (X0 : zbx → zaQ) (x0 : List Int) (x1 : Int) : zaQ :=
 X0 ((0 : Int), x0, false, x1, [])
def zhY (fuel : Nat) (x : (((List Int) × Unit) × ((Int × Unit) × Unit))) : zaQ := zst fuel (iter (zdL fuel) fuel) x.1.1 x.2.1.1
theorem zFC (fuel : Nat) (x : PsT zhX) : run (zdG fuel) 0 fuel zdI (env0 (svPs zhX x) 0) [] (endF zdJ zdH) = zhY fuel x :=
  (show run (zdG fuel) 0 fuel zdI (env0 (svPs zhX x) 0) [] (endF zdJ zdH) = zst fuel (zdI.lp (zdG fuel) 0 fuel (fun _ _ _ => none) (endF zdJ zdH) 0 zss) x.1.1 x.2.1.1 by kernel_rfl).trans (by rw [zFB]; rfl)
def zmb (fuel : Nat) : TF := ⟨zhX, zdH, true, zhY fuel⟩
theorem zFD (fuel : Nat) : FnSpec Tryz.prog 147 (zmb fuel) :=
  fn_spec (T := zdG fuel) (c := bodyOf Tryz.f147) (fn := Tryz.f147) (TabOK.of (entNil) (methNil)) mixed (by kernel_rfl) (by kernel_rfl) zFA (by kernel_rfl) (Nat.le_of_ble_eq_true (by kernel_rfl)) (rv := zdJ) (by kernel_rfl) (zFC fuel)
theorem zFE (fuel : Nat) : EntryOK Tryz.prog 147 (zmb fuel).te := EntryOK.tf rfl (zFD fuel) (isFn (fn := Tryz.f147) (by kernel_rfl) (by kernel_rfl) (by kernel_rfl))
def zsu (fuel : Nat) : Tab := Tab.of [(107, (zy fuel).te)] []
abbrev zmc : List Pm := [{ cs := [(I6, false)], ag := false }]
abbrev zsv : List Pm := [{ cs := [(I6, false)], ag := false }]
def zsw : List Norm := []
noncomputable def zsx : C := irOf Tryz.prog Tryz.f159 [] zsw []
theorem zFF : lightC Tryz.prog [] Tryz.f159.ntmps zsw [] 0 (bodyOf Tryz.f159) = some (zsx, 0) := by kernel_rfl
def zsy : List (Nat × Option (Nat × Bool)) := [(2, none)]
def zmd (fuel : Nat) (x0 : Int) : Option ((Int × Unit) × Unit) :=
 Option.bind (zf fuel ((x0, ()), ((0 : Int), ()), ((63 : Int), ()), ())) fun y_1 =>
 cond (!y_1.1.1)
 (some ((((-1 : Int), ()), ())))
 (some (((Int.tmod (w64 (w64 (x0 * (37 : Int)) + (11 : Int))) (64 : Int), ()), ())))
def zhZ (fuel : Nat) (x : ((Int × Unit) × Unit)) : Option ((Int × Unit) × Unit) := zmd fuel x.1.1
theorem zFG (fuel : Nat) (x : PsT zmc) : run (zsu fuel) 0 fuel zsx (env0 (svPs zmc x) 0) [] (endF zsy zsv) = zhZ fuel x := by kernel_rfl
def zme (fuel : Nat) : TF := ⟨zmc, zsv, true, zhZ fuel⟩
theorem zFH (fuel : Nat) : FnSpec Tryz.prog 159 (zme fuel) :=
  fn_spec (T := zsu fuel) (c := bodyOf Tryz.f159) (fn := Tryz.f159) (TabOK.of (entCons (zP fuel) entNil) (methNil)) mixed (by kernel_rfl) (by kernel_rfl) zFF (by kernel_rfl) (Nat.le_of_ble_eq_true (by kernel_rfl)) (rv := zsy) (by kernel_rfl) (zFG fuel)
theorem zFI (fuel : Nat) : EntryOK Tryz.prog 159 (zme fuel).te := EntryOK.tf rfl (zFH fuel) (isFn (fn := Tryz.f159) (by kernel_rfl) (by kernel_rfl) (by kernel_rfl))
def zsz (fuel : Nat) : Tab := Tab.of [(107, (zy fuel).te), (142, (zhO fuel).te), (147, (zmb fuel).te), (159, (zme fuel).te)] []
abbrev zmf : List Pm := [{ cs := [(Kd.list I6, false)], ag := true }, { cs := [(I6, false)], ag := false }]
abbrev zsA : List Pm := [{ cs := [(Kd.list I6, true)], ag := true }, { cs := [(Kd.bool, false)], ag := false }]
def zsB : List Norm := []
noncomputable def zsC : C := irOf Tryz.prog Tryz.f109 [] zsB []
theorem zFJ : lightC Tryz.prog [] Tryz.f109.ntmps zsB [] 0 (bodyOf Tryz.f109) = some (zsC, 0) := by kernel_rfl
def zsD : List (Nat × Option (Nat × Bool)) := [(4, some (1, true)), (5, none)]
def zmg (fuel : Nat) (x0 : List Int) (x1 : Int) : Option (((List Int) × Unit) × ((Bool × Unit) × Unit)) :=
 Option.bind (zds fuel ((x0, ()), ())) fun y_1 =>
 cond (!y_1.1.1)
 (some ((([], ()), (false, ()), ())))
 (Option.bind (zf fuel ((x1, ()), ((0 : Int), ()), ((63 : Int), ()), ())) fun y_3 =>
 cond (!y_3.1.1)
 (some ((([], ()), (false, ()), ())))
 (Option.bind (zhZ fuel ((x1, ()), ())) fun y_5 =>
 Option.bind (zhY fuel ((x0, ()), (y_5.1.1, ()), ())) fun y_6 =>
 some (((y_6.1.1, ()), (true, ()), ()))))
def zh0 (fuel : Nat) (x : (((List Int) × Unit) × ((Int × Unit) × Unit))) : Option (((List Int) × Unit) × ((Bool × Unit) × Unit)) := zmg fuel x.1.1 x.2.1.1
theorem zFK (fuel : Nat) (x : PsT zmf) : run (zsz fuel) 0 fuel zsC (env0 (svPs zmf x) 0) [] (endF zsD zsA) = zh0 fuel x := by kernel_rfl
def zmh (fuel : Nat) : TF := ⟨zmf, zsA, true, zh0 fuel⟩
theorem zFL (fuel : Nat) : FnSpec Tryz.prog 109 (zmh fuel) :=
  fn_spec (T := zsz fuel) (c := bodyOf Tryz.f109) (fn := Tryz.f109) (TabOK.of (entCons (zP fuel) (entCons (zrT fuel) (entCons (zFE fuel) (entCons (zFI fuel) entNil)))) (methNil)) mixed (by kernel_rfl) (by kernel_rfl) zFJ (by kernel_rfl) (Nat.le_of_ble_eq_true (by kernel_rfl)) (rv := zsD) (by kernel_rfl) (zFK fuel)
theorem zFM (fuel : Nat) : EntryOK Tryz.prog 109 (zmh fuel).te := EntryOK.tf rfl (zFL fuel) (isFn (fn := Tryz.f109) (by kernel_rfl) (by kernel_rfl) (by kernel_rfl))
abbrev zaR := Option ((LP × Unit) × Unit)
def zdM (fuel : Nat) : Tab := Tab.of [] []
abbrev zh1 : List Pm := [{ cs := [(Kd.list KP, false)], ag := false }, { cs := [(I6, false), (I6, false)], ag := true }]
abbrev zdN : List Pm := [{ cs := [(Kd.list KP, true)], ag := false }]
def zsE : List Norm := [{ live := [7, 0, 6, 3, 5], fix := [(5, none, KP, true)] }]
noncomputable def zdO : C := irOf Tryz.prog Tryz.f148 [] zsE []
theorem zFN : lightC Tryz.prog [] Tryz.f148.ntmps zsE [] 0 (bodyOf Tryz.f148) = some (zdO, 1) := by kernel_rfl
def zdP : List (Nat × Option (Nat × Bool)) := [(4, none)]
abbrev zby := (Int) × LP × (Bool) × (Int) × (Int) × LP
def zsF (v : zby) : Env × Heap := ([(7, SV.int .i64 v.1), (0, SV.es KP v.2.1), (6, SV.bool v.2.2.1), (3, SV.ptr 0 0), (5, SV.own 1)], [Blk.cells [SV.int .i64 v.2.2.2.1, SV.int .i64 v.2.2.2.2.1] 0 2, Blk.arr KP v.2.2.2.2.2 0])
def zdQ (fuel : Nat) (g0 : zby → zaR) (v : zby) : zaR :=
 cond (decide (v.1 < (zz (List.length v.2.1))))
 (cond (!v.2.2.1)
 (tst (decide (0 ≤ v.1)) <|
 tst (decide (v.1 < (zz (List.length v.2.1)))) <|
 cond (decide ((List.getD v.2.1 (Int.toNat v.1) (0, (0, ()))).1 ≥ v.2.2.2.1))
 (tst (decide (0 ≤ v.1)) <|
 tst (decide (v.1 < (zz (List.length v.2.1)))) <|
 cond ((List.getD v.2.1 (Int.toNat v.1) (0, (0, ()))).1 == v.2.2.2.1)
 (tst (decide (0 ≤ v.1)) <|
 tst (decide (v.1 < (zz (List.length v.2.1)))) <|
 tst (decide (List.length v.2.2.2.2.2 + 1 < LIM)) <|
 g0 (w64 (v.1 + (1 : Int)), v.2.1, true, v.2.2.2.1, v.2.2.2.2.1, v.2.2.2.2.2 ++ [(v.2.2.2.1, w64 (v.2.2.2.2.1 + (List.getD v.2.1 (Int.toNat v.1) (0, (0, ()))).2.1), ())]))
 (tst (decide (List.length v.2.2.2.2.2 + 1 < LIM)) <|
 tst (decide (0 ≤ v.1)) <|
 tst (decide (v.1 < (zz (List.length v.2.1)))) <|
 tst (decide (List.length (v.2.2.2.2.2 ++ [(v.2.2.2.1, v.2.2.2.2.1, ())]) + 1 < LIM)) <|
 g0 (w64 (v.1 + (1 : Int)), v.2.1, true, v.2.2.2.1, v.2.2.2.2.1, v.2.2.2.2.2 ++ [(v.2.2.2.1, v.2.2.2.2.1, ())] ++ [((List.getD v.2.1 (Int.toNat v.1) (0, (0, ()))).1, (List.getD v.2.1 (Int.toNat v.1) (0, (0, ()))).2.1, ())])))
 (tst (decide (0 ≤ v.1)) <|
 tst (decide (v.1 < (zz (List.length v.2.1)))) <|
 tst (decide (List.length v.2.2.2.2.2 + 1 < LIM)) <|
 g0 (w64 (v.1 + (1 : Int)), v.2.1, v.2.2.1, v.2.2.2.1, v.2.2.2.2.1, v.2.2.2.2.2 ++ [((List.getD v.2.1 (Int.toNat v.1) (0, (0, ()))).1, (List.getD v.2.1 (Int.toNat v.1) (0, (0, ()))).2.1, ())])))
 (tst (decide (0 ≤ v.1)) <|
 tst (decide (v.1 < (zz (List.length v.2.1)))) <|
 tst (decide (List.length v.2.2.2.2.2 + 1 < LIM)) <|
 g0 (w64 (v.1 + (1 : Int)), v.2.1, v.2.2.1, v.2.2.2.1, v.2.2.2.2.1, v.2.2.2.2.2 ++ [((List.getD v.2.1 (Int.toNat v.1) (0, (0, ()))).1, (List.getD v.2.1 (Int.toNat v.1) (0, (0, ()))).2.1, ())])))
 (cond (!v.2.2.1)
 (tst (decide (List.length v.2.2.2.2.2 + 1 < LIM)) <|
 some (((v.2.2.2.2.2 ++ [(v.2.2.2.1, v.2.2.2.2.1, ())], ()), ())))
 (some (((v.2.2.2.2.2, ()), ()))))
def zdR (fuel : Nat) (g0 : zby → zaR) : zby → zaR := zdQ fuel g0
theorem zFO (fuel : Nat) (G) : zdO.lp (zdM fuel) 0 fuel G (endF zdP zdN) 0 zsF = iter (zdR fuel) fuel := C.lp_iter fun g v => by kernel_rfl
def zsG (fuel : Nat) (X0 : zby → zaR) (x0 : LP) (x1 : Int) (x2 : Int) : zaR :=
 X0 ((0 : Int), x0, false, x1, x2, [])
def zh2 (fuel : Nat) (x : ((LP × Unit) × ((Int × (Int × Unit)) × Unit))) : zaR := zsG fuel (iter (zdR fuel) fuel) x.1.1 x.2.1.1 x.2.1.2.1
theorem zFP (fuel : Nat) (x : PsT zh1) : run (zdM fuel) 0 fuel zdO (env0 (svPs zh1 x) 0) [] (endF zdP zdN) = zh2 fuel x :=
  (show run (zdM fuel) 0 fuel zdO (env0 (svPs zh1 x) 0) [] (endF zdP zdN) = zsG fuel (zdO.lp (zdM fuel) 0 fuel (fun _ _ _ => none) (endF zdP zdN) 0 zsF) x.1.1 x.2.1.1 x.2.1.2.1 by kernel_rfl).trans (by rw [zFO]; rfl)
def zmi (fuel : Nat) : TF := ⟨zh1, zdN, true, zh2 fuel⟩
theorem zFQ (fuel : Nat) : FnSpec Tryz.prog 148 (zmi fuel) :=
  fn_spec (T := zdM fuel) (c := bodyOf Tryz.f148) (fn := Tryz.f148) (TabOK.of (entNil) (methNil)) mixed (by kernel_rfl) (by kernel_rfl) zFN (by kernel_rfl) (Nat.le_of_ble_eq_true (by kernel_rfl)) (rv := zdP) (by kernel_rfl) (zFP fuel)
theorem zFR (fuel : Nat) : EntryOK Tryz.prog 148 (zmi fuel).te := EntryOK.tf rfl (zFQ fuel) (isFn (fn := Tryz.f148) (by kernel_rfl) (by kernel_rfl) (by kernel_rfl))
def zF (fuel : Nat) : Tab := Tab.of [] []
abbrev zh3 : List Pm := [{ cs := [(Kd.list KP, false)], ag := false }]
abbrev z9 : List Pm := [{ cs := [(I6, false)], ag := false }]
def zsH : List Norm := [{ live := [4, 0, 3], fix := [] }, { live := [6, 0, 4, 5, 3], fix := [] }]
noncomputable def zq : C := irOf Tryz.prog Tryz.f186 [] zsH []
theorem zFS : lightC Tryz.prog [] Tryz.f186.ntmps zsH [] 0 (bodyOf Tryz.f186) = some (zq, 2) := by kernel_rfl
def zaa : List (Nat × Option (Nat × Bool)) := [(2, none)]
abbrev zav := (Int) × LP × (Int)
abbrev zbz := (Int) × LP × (Int) × (Int) × (Int)
def zT (v : zav) : Env × Heap := ([(4, SV.int .i64 v.1), (0, SV.es KP v.2.1), (3, SV.int .i64 v.2.2)], [])
def zbA (v : zbz) : Env × Heap := ([(6, SV.int .i64 v.1), (0, SV.es KP v.2.1), (4, SV.int .i64 v.2.2.1), (5, SV.int .i64 v.2.2.2.1), (3, SV.int .i64 v.2.2.2.2)], [])
def zbB (fuel : Nat) (g0 : zav → Option ((Int × Unit) × Unit)) (g1 : zbz → Option ((Int × Unit) × Unit)) (v : zbz) : Option ((Int × Unit) × Unit) :=
 cond (decide (v.1 < (zz (List.length v.2.1))))
 (tst (decide (0 ≤ v.1)) <|
 tst (decide (v.1 < (zz (List.length v.2.1)))) <|
 tst (decide (0 ≤ v.2.2.1)) <|
 tst (decide (v.2.2.1 < (zz (List.length v.2.1)))) <|
 cond (decide ((List.getD v.2.1 (Int.toNat v.1) (0, (0, ()))).2.1 ≥ (List.getD v.2.1 (Int.toNat v.2.2.1) (0, (0, ()))).2.1))
 (g1 (w64 (v.1 + (1 : Int)), v.2.1, v.2.2.1, w64 (v.2.2.2.1 + (1 : Int)), v.2.2.2.2))
 (g1 (w64 (v.1 + (1 : Int)), v.2.1, v.2.2.1, v.2.2.2.1, v.2.2.2.2)))
 (cond (decide (v.2.2.2.1 > (4 : Int)))
 (tst (decide (0 ≤ v.2.2.1)) <|
 tst (decide (v.2.2.1 < (zz (List.length v.2.1)))) <|
 g0 (w64 (v.2.2.1 + (1 : Int)), v.2.1, if (List.getD v.2.1 (Int.toNat v.2.2.1) (0, (0, ()))).2.1 > v.2.2.2.2 then (List.getD v.2.1 (Int.toNat v.2.2.1) (0, (0, ()))).2.1 else v.2.2.2.2))
 (g0 (w64 (v.2.2.1 + (1 : Int)), v.2.1, v.2.2.2.2)))
def zmj (fuel : Nat) (g0 : zav → Option ((Int × Unit) × Unit)) (g1 : zbz → Option ((Int × Unit) × Unit)) : zbz → Option ((Int × Unit) × Unit) := zbB fuel g0 g1
theorem zFT (fuel : Nat) (G) : zq.lp (zF fuel) 0 fuel G (endF zaa z9) 1 zbA = iter (zmj fuel (fun v => G 0 (zT v).1 (zT v).2)) fuel := C.lp_iter fun g v =>
  (show run (zF fuel) 0 fuel (zq.bdAt 1) (zbA v).1 (zbA v).2 (loopK 0 (zq.nmAt 1) g (zq.contAt (zF fuel) 0 fuel G 0 1 (endF zaa z9))) = zbB fuel (fun v => G 0 (zT v).1 (zT v).2) (fun v => g (zbA v).1 (zbA v).2) v by kernel_rfl)
def zbC (fuel : Nat) (X1 : zbz → Option ((Int × Unit) × Unit)) (g0 : zav → Option ((Int × Unit) × Unit)) (v : zav) : Option ((Int × Unit) × Unit) :=
 cond (decide (v.1 < (zz (List.length v.2.1))))
 (X1 ((0 : Int), v.2.1, v.1, (0 : Int), v.2.2))
 (some (((v.2.2, ()), ())))
def zh4 (fuel : Nat) (g0 : zav → Option ((Int × Unit) × Unit)) : zav → Option ((Int × Unit) × Unit) := zbC fuel (iter (zmj fuel g0) fuel) g0
theorem zFU (fuel : Nat) (G) : zq.lp (zF fuel) 0 fuel G (endF zaa z9) 0 zT = iter (zh4 fuel) fuel := C.lp_iter fun g v =>
  (show run (zF fuel) 0 fuel (zq.bdAt 0) (zT v).1 (zT v).2 (loopK 0 (zq.nmAt 0) g (zq.contAt (zF fuel) 0 fuel G 0 0 (endF zaa z9))) = zbC fuel (zq.lp (zF fuel) 0 fuel (fun m => bif Nat.beq m 0 then g else G m) (endF zaa z9) 1 zbA) (fun v => g (zT v).1 (zT v).2) v by kernel_rfl).trans (by rw [zFT]; rfl)
def zsI (fuel : Nat) (X0 : zav → Option ((Int × Unit) × Unit)) (x0 : LP) : Option ((Int × Unit) × Unit) :=
 X0 ((0 : Int), x0, (0 : Int))
def zh5 (fuel : Nat) (x : ((LP × Unit) × Unit)) : Option ((Int × Unit) × Unit) := zsI fuel (iter (zh4 fuel) fuel) x.1.1
theorem zFV (fuel : Nat) (x : PsT zh3) : run (zF fuel) 0 fuel zq (env0 (svPs zh3 x) 0) [] (endF zaa z9) = zh5 fuel x :=
  (show run (zF fuel) 0 fuel zq (env0 (svPs zh3 x) 0) [] (endF zaa z9) = zsI fuel (zq.lp (zF fuel) 0 fuel (fun _ _ _ => none) (endF zaa z9) 0 zT) x.1.1 by kernel_rfl).trans (by rw [zFU]; rfl)
def zmk (fuel : Nat) : TF := ⟨zh3, z9, true, zh5 fuel⟩
theorem zFW (fuel : Nat) : FnSpec Tryz.prog 186 (zmk fuel) :=
  fn_spec (T := zF fuel) (c := bodyOf Tryz.f186) (fn := Tryz.f186) (TabOK.of (entNil) (methNil)) mixed (by kernel_rfl) (by kernel_rfl) zFS (by kernel_rfl) (Nat.le_of_ble_eq_true (by kernel_rfl)) (rv := zaa) (by kernel_rfl) (zFV fuel)
theorem zFX (fuel : Nat) : EntryOK Tryz.prog 186 (zmk fuel).te := EntryOK.tf rfl (zFW fuel) (isFn (fn := Tryz.f186) (by kernel_rfl) (by kernel_rfl) (by kernel_rfl))
abbrev zaS := Option ((LP × Unit) × Unit)
def zdS (fuel : Nat) : Tab := Tab.of [] []
abbrev zh6 : List Pm := [{ cs := [(Kd.list KP, false)], ag := false }, { cs := [(I6, false)], ag := false }]
abbrev zdT : List Pm := [{ cs := [(Kd.list KP, true)], ag := false }]
def zsJ : List Norm := [{ live := [6, 0, 1, 5], fix := [(5, none, KP, true)] }]
noncomputable def zdU : C := irOf Tryz.prog Tryz.f187 [] zsJ []
theorem zFY : lightC Tryz.prog [] Tryz.f187.ntmps zsJ [] 0 (bodyOf Tryz.f187) = some (zdU, 1) := by kernel_rfl
def zdV : List (Nat × Option (Nat × Bool)) := [(4, none)]
abbrev zbD := (Int) × LP × (Int) × LP
def zsK (v : zbD) : Env × Heap := ([(6, SV.int .i64 v.1), (0, SV.es KP v.2.1), (1, SV.int .i64 v.2.2.1), (5, SV.own 0)], [Blk.arr KP v.2.2.2 0])
def zdW (fuel : Nat) (g0 : zbD → zaS) (v : zbD) : zaS :=
 cond (decide (v.1 < (zz (List.length v.2.1))))
 (tst (decide (0 ≤ v.1)) <|
 tst (decide (v.1 < (zz (List.length v.2.1)))) <|
 cond (decide ((List.getD v.2.1 (Int.toNat v.1) (0, (0, ()))).2.1 > v.2.2.1))
 (tst (decide (0 ≤ v.1)) <|
 tst (decide (v.1 < (zz (List.length v.2.1)))) <|
 tst (decide (0 ≤ v.1)) <|
 tst (decide (v.1 < (zz (List.length v.2.1)))) <|
 tst (decide (List.length v.2.2.2 + 1 < LIM)) <|
 g0 (w64 (v.1 + (1 : Int)), v.2.1, v.2.2.1, v.2.2.2 ++ [((List.getD v.2.1 (Int.toNat v.1) (0, (0, ()))).1, w64 ((List.getD v.2.1 (Int.toNat v.1) (0, (0, ()))).2.1 - v.2.2.1), ())]))
 (g0 (w64 (v.1 + (1 : Int)), v.2.1, v.2.2.1, v.2.2.2)))
 (some (((v.2.2.2, ()), ())))
def zdX (fuel : Nat) (g0 : zbD → zaS) : zbD → zaS := zdW fuel g0
theorem zFZ (fuel : Nat) (G) : zdU.lp (zdS fuel) 0 fuel G (endF zdV zdT) 0 zsK = iter (zdX fuel) fuel := C.lp_iter fun g v => by kernel_rfl
def zsL (fuel : Nat) (X0 : zbD → zaS) (x0 : LP) (x1 : Int) : zaS :=
 X0 ((0 : Int), x0, x1, [])
def zh7 (fuel : Nat) (x : ((LP × Unit) × ((Int × Unit) × Unit))) : zaS := zsL fuel (iter (zdX fuel) fuel) x.1.1 x.2.1.1
theorem zF0 (fuel : Nat) (x : PsT zh6) : run (zdS fuel) 0 fuel zdU (env0 (svPs zh6 x) 0) [] (endF zdV zdT) = zh7 fuel x :=
  (show run (zdS fuel) 0 fuel zdU (env0 (svPs zh6 x) 0) [] (endF zdV zdT) = zsL fuel (zdU.lp (zdS fuel) 0 fuel (fun _ _ _ => none) (endF zdV zdT) 0 zsK) x.1.1 x.2.1.1 by kernel_rfl).trans (by rw [zFZ]; rfl)
def zml (fuel : Nat) : TF := ⟨zh6, zdT, true, zh7 fuel⟩
theorem zF1 (fuel : Nat) : FnSpec Tryz.prog 187 (zml fuel) :=
  fn_spec (T := zdS fuel) (c := bodyOf Tryz.f187) (fn := Tryz.f187) (TabOK.of (entNil) (methNil)) mixed (by kernel_rfl) (by kernel_rfl) zFY (by kernel_rfl) (Nat.le_of_ble_eq_true (by kernel_rfl)) (rv := zdV) (by kernel_rfl) (zF0 fuel)
theorem zF2 (fuel : Nat) : EntryOK Tryz.prog 187 (zml fuel).te := EntryOK.tf rfl (zF1 fuel) (isFn (fn := Tryz.f187) (by kernel_rfl) (by kernel_rfl) (by kernel_rfl))
def zsM (fuel : Nat) : Tab := Tab.of [(186, (zmk fuel).te), (187, (zml fuel).te)] []
abbrev zmm : List Pm := [{ cs := [(Kd.list KP, false), (I6, false), (I6, false)], ag := true }]
abbrev zsN : List Pm := [{ cs := [(Kd.list KP, true), (I6, false), (I6, false)], ag := true }]
def zsO : List Norm := []
noncomputable def zsP : C := irOf Tryz.prog Tryz.f149 [] zsO []
theorem zF3 : lightC Tryz.prog [] Tryz.f149.ntmps zsO [] 0 (bodyOf Tryz.f149) = some (zsP, 0) := by kernel_rfl
def zsQ : List (Nat × Option (Nat × Bool)) := [(2, some (3, true))]
def zmn (fuel : Nat) (x0 : LP) (x1 : Int) (x2 : Int) : Option ((LP × (Int × (Int × Unit))) × Unit) :=
 Option.bind (zh5 fuel ((x0, ()), ())) fun y_1 =>
 Option.bind (zh7 fuel ((x0, ()), (y_1.1.1, ()), ())) fun y_2 =>
 some (((y_2.1.1, w64 (x1 + y_1.1.1), x2, ()), ()))
def zh8 (fuel : Nat) (x : ((LP × (Int × (Int × Unit))) × Unit)) : Option ((LP × (Int × (Int × Unit))) × Unit) := zmn fuel x.1.1 x.1.2.1 x.1.2.2.1
theorem zF4 (fuel : Nat) (x : PsT zmm) : run (zsM fuel) 0 fuel zsP (env0 (svPs zmm x) 0) [] (endF zsQ zsN) = zh8 fuel x := by kernel_rfl
def zmo (fuel : Nat) : TF := ⟨zmm, zsN, true, zh8 fuel⟩
theorem zF5 (fuel : Nat) : FnSpec Tryz.prog 149 (zmo fuel) :=
  fn_spec (T := zsM fuel) (c := bodyOf Tryz.f149) (fn := Tryz.f149) (TabOK.of (entCons (zFX fuel) (entCons (zF2 fuel) entNil)) (methNil)) mixed (by kernel_rfl) (by kernel_rfl) zF3 (by kernel_rfl) (Nat.le_of_ble_eq_true (by kernel_rfl)) (rv := zsQ) (by kernel_rfl) (zF4 fuel)
theorem zF6 (fuel : Nat) : EntryOK Tryz.prog 149 (zmo fuel).te := EntryOK.tf rfl (zF5 fuel) (isFn (fn := Tryz.f149) (by kernel_rfl) (by kernel_rfl) (by kernel_rfl))
def zsR (fuel : Nat) : Tab := Tab.of [(107, (zy fuel).te), (143, (zhU fuel).te), (148, (zmi fuel).te), (149, (zmo fuel).te)] []
abbrev zmp : List Pm := [{ cs := [(Kd.list KP, false), (I6, false), (I6, false)], ag := true }, { cs := [(I6, false)], ag := false }]
abbrev zsS : List Pm := [{ cs := [(Kd.list KP, true), (I6, false), (I6, false)], ag := true }, { cs := [(Kd.bool, false)], ag := false }]
def zsT : List Norm := []
noncomputable def zsU : C := irOf Tryz.prog Tryz.f110 [] zsT []
theorem zF7 : lightC Tryz.prog [] Tryz.f110.ntmps zsT [] 0 (bodyOf Tryz.f110) = some (zsU, 0) := by kernel_rfl
def zsV : List (Nat × Option (Nat × Bool)) := [(4, some (3, true)), (5, none)]
def zmq (fuel : Nat) (x0 : LP) (x1 : Int) (x2 : Int) (x3 : Int) : Option ((LP × (Int × (Int × Unit))) × ((Bool × Unit) × Unit)) :=
 Option.bind (zdD fuel ((x0, x1, x2, ()), ())) fun y_1 =>
 cond (!y_1.1.1)
 (some ((([], (0 : Int), (0 : Int), ()), (false, ()), ())))
 (Option.bind (zf fuel ((x3, ()), ((0 : Int), ()), ((63 : Int), ()), ())) fun y_3 =>
 cond (!y_3.1.1)
 (some ((([], (0 : Int), (0 : Int), ()), (false, ()), ())))
 (cond (decide (x2 ≥ (2000 : Int)))
 (some ((([], (0 : Int), (0 : Int), ()), (false, ()), ())))
 (Option.bind (zh2 fuel ((x0, ()), (x3, (1 : Int), ()), ())) fun y_6 =>
 Option.bind (zh8 fuel ((y_6.1.1, x1, w64 (x2 + (1 : Int)), ()), ())) fun y_7 =>
 some (((y_7.1.1, y_7.1.2.1, y_7.1.2.2.1, ()), (true, ()), ())))))
def zh9 (fuel : Nat) (x : ((LP × (Int × (Int × Unit))) × ((Int × Unit) × Unit))) : Option ((LP × (Int × (Int × Unit))) × ((Bool × Unit) × Unit)) := zmq fuel x.1.1 x.1.2.1 x.1.2.2.1 x.2.1.1
theorem zF8 (fuel : Nat) (x : PsT zmp) : run (zsR fuel) 0 fuel zsU (env0 (svPs zmp x) 0) [] (endF zsV zsS) = zh9 fuel x := by kernel_rfl
def zmr (fuel : Nat) : TF := ⟨zmp, zsS, true, zh9 fuel⟩
theorem zF9 (fuel : Nat) : FnSpec Tryz.prog 110 (zmr fuel) :=
  fn_spec (T := zsR fuel) (c := bodyOf Tryz.f110) (fn := Tryz.f110) (TabOK.of (entCons (zP fuel) (entCons (zr0 fuel) (entCons (zFR fuel) (entCons (zF6 fuel) entNil)))) (methNil)) mixed (by kernel_rfl) (by kernel_rfl) zF7 (by kernel_rfl) (Nat.le_of_ble_eq_true (by kernel_rfl)) (rv := zsV) (by kernel_rfl) (zF8 fuel)
theorem zGa (fuel : Nat) : EntryOK Tryz.prog 110 (zmr fuel).te := EntryOK.tf rfl (zF9 fuel) (isFn (fn := Tryz.f110) (by kernel_rfl) (by kernel_rfl) (by kernel_rfl))
abbrev zaT := Option (((List Int) × Unit) × Unit)
def zdY (fuel : Nat) : Tab := Tab.of [] []
abbrev zia : List Pm := [{ cs := [(Kd.list KP, false)], ag := false }]
abbrev zdZ : List Pm := [{ cs := [(Kd.list I6, true)], ag := false }]
def zsW : List Norm := [{ live := [4, 0, 3], fix := [] }]
noncomputable def zd0 : C := irOf Tryz.prog Tryz.f150 [] zsW []
theorem zGb : lightC Tryz.prog [] Tryz.f150.ntmps zsW [] 0 (bodyOf Tryz.f150) = some (zd0, 1) := by kernel_rfl
def zd1 : List (Nat × Option (Nat × Bool)) := [(2, none)]
abbrev zbE := (Int) × LP × (List Int)
def zsX (v : zbE) : Env × Heap := ([(4, SV.int .i64 v.1), (0, SV.es KP v.2.1), (3, SV.own 0)], [Blk.arr I6 v.2.2 0])
def zd2 (fuel : Nat) (g0 : zbE → zaT) (v : zbE) : zaT :=
 cond (decide (v.1 < (zz (List.length v.2.1))))
 (tst (decide (0 ≤ v.1)) <|
 tst (decide (v.1 < (zz (List.length v.2.1)))) <|
 tst (decide (0 ≤ v.1)) <|
 tst (decide (v.1 < (zz (List.length v.2.1)))) <|
 tst (decide (0 ≤ (List.getD v.2.1 (Int.toNat v.1) (0, (0, ()))).1)) <|
 tst (decide ((List.getD v.2.1 (Int.toNat v.1) (0, (0, ()))).1 < (zz (List.length v.2.2)))) <|
 tst (decide (Int.toNat (List.getD v.2.1 (Int.toNat v.1) (0, (0, ()))).1 < List.length v.2.2)) <|
 tst (decide (0 ≤ v.1)) <|
 tst (decide (v.1 < (zz (List.length v.2.1)))) <|
 tst (decide (0 ≤ (List.getD v.2.1 (Int.toNat v.1) (0, (0, ()))).1)) <|
 tst (decide ((List.getD v.2.1 (Int.toNat v.1) (0, (0, ()))).1 < (zz (List.length v.2.2)))) <|
 tst (decide (Int.toNat (List.getD v.2.1 (Int.toNat v.1) (0, (0, ()))).1 < List.length v.2.2)) <|
 g0 (w64 (v.1 + (1 : Int)), v.2.1, List.set v.2.2 (Int.toNat (List.getD v.2.1 (Int.toNat v.1) (0, (0, ()))).1) (w64 (List.getD v.2.2 (Int.toNat (List.getD v.2.1 (Int.toNat v.1) (0, (0, ()))).1) 0 + (List.getD v.2.1 (Int.toNat v.1) (0, (0, ()))).2.1))))
 (some (((v.2.2, ()), ())))
def zib (fuel : Nat) (g0 : zbE → zaT) : zbE → zaT := zd2 fuel g0
theorem zGc (fuel : Nat) (G) : zd0.lp (zdY fuel) 0 fuel G (endF zd1 zdZ) 0 zsX = iter (zib fuel) fuel := C.lp_iter fun g v => by kernel_rfl
def zms (fuel : Nat) (X0 : zbE → zaT) (x0 : LP) : zaT :=
 X0 ((0 : Int), x0, List.replicate (Int.toNat (128 : Int)) 0)
def zd3 (fuel : Nat) (x : ((LP × Unit) × Unit)) : zaT := zms fuel (iter (zib fuel) fuel) x.1.1
theorem zGd (fuel : Nat) (x : PsT zia) : run (zdY fuel) 0 fuel zd0 (env0 (svPs zia x) 0) [] (endF zd1 zdZ) = zd3 fuel x :=
  (show run (zdY fuel) 0 fuel zd0 (env0 (svPs zia x) 0) [] (endF zd1 zdZ) = zms fuel (zd0.lp (zdY fuel) 0 fuel (fun _ _ _ => none) (endF zd1 zdZ) 0 zsX) x.1.1 by kernel_rfl).trans (by rw [zGc]; rfl)
def zmt (fuel : Nat) : TF := ⟨zia, zdZ, true, zd3 fuel⟩
theorem zGe (fuel : Nat) : FnSpec Tryz.prog 150 (zmt fuel) :=
  fn_spec (T := zdY fuel) (c := bodyOf Tryz.f150) (fn := Tryz.f150) (TabOK.of (entNil) (methNil)) mixed (by kernel_rfl) (by kernel_rfl) zGb (by kernel_rfl) (Nat.le_of_ble_eq_true (by kernel_rfl)) (rv := zd1) (by kernel_rfl) (zGd fuel)
theorem zGf (fuel : Nat) : EntryOK Tryz.prog 150 (zmt fuel).te := EntryOK.tf rfl (zGe fuel) (isFn (fn := Tryz.f150) (by kernel_rfl) (by kernel_rfl) (by kernel_rfl))
end Go.Proofs.YtdgdoeknpakmlaaGreat.Den
namespace Go.Proofs.YtdgdoeknpakmlaaGreat.Den
open Go Go.RowKit
abbrev zaU := Option ((LP × Unit) × Unit)
def zd4 (fuel : Nat) : Tab := Tab.of [] []
abbrev zic : List Pm := [{ cs := [(Kd.list I6, false)], ag := false }]
abbrev zd5 : List Pm := [{ cs := [(Kd.list KP, true)], ag := false }]
def zsY : List Norm := [{ live := [4, 0, 3], fix := [(3, none, KP, true)] }]
noncomputable def zd6 : C := irOf Tryz.prog Tryz.f151 [] zsY []
theorem zGg : lightC Tryz.prog [] Tryz.f151.ntmps zsY [] 0 (bodyOf Tryz.f151) = some (zd6, 1) := by kernel_rfl
def zd7 : List (Nat × Option (Nat × Bool)) := [(2, none)]
abbrev zbF := (Int) × (List Int) × LP
def zsZ (v : zbF) : Env × Heap := ([(4, SV.int .i64 v.1), (0, SV.es I6 v.2.1), (3, SV.own 0)], [Blk.arr KP v.2.2 0])
def zd8 (fuel : Nat) (g0 : zbF → zaU) (v : zbF) : zaU :=
 cond (decide (v.1 < (zz (List.length v.2.1))))
 (tst (decide (0 ≤ v.1)) <|
 tst (decide (v.1 < (zz (List.length v.2.1)))) <|
 cond (decide (List.getD v.2.1 (Int.toNat v.1) 0 > (0 : Int)))
 (tst (decide (0 ≤ v.1)) <|
 tst (decide (v.1 < (zz (List.length v.2.1)))) <|
 tst (decide (List.length v.2.2 + 1 < LIM)) <|
 g0 (w64 (v.1 + (1 : Int)), v.2.1, v.2.2 ++ [(v.1, List.getD v.2.1 (Int.toNat v.1) 0, ())]))
 (g0 (w64 (v.1 + (1 : Int)), v.2.1, v.2.2)))
 (some (((v.2.2, ()), ())))
def zid (fuel : Nat) (g0 : zbF → zaU) : zbF → zaU := zd8 fuel g0
theorem zGh (fuel : Nat) (G) : zd6.lp (zd4 fuel) 0 fuel G (endF zd7 zd5) 0 zsZ = iter (zid fuel) fuel := C.lp_iter fun g v => by kernel_rfl
def zmu (fuel : Nat) (X0 : zbF → zaU) (x0 : List Int) : zaU :=
 X0 ((1 : Int), x0, [])
def zd9 (fuel : Nat) (x : (((List Int) × Unit) × Unit)) : zaU := zmu fuel (iter (zid fuel) fuel) x.1.1
theorem zGi (fuel : Nat) (x : PsT zic) : run (zd4 fuel) 0 fuel zd6 (env0 (svPs zic x) 0) [] (endF zd7 zd5) = zd9 fuel x :=
  (show run (zd4 fuel) 0 fuel zd6 (env0 (svPs zic x) 0) [] (endF zd7 zd5) = zmu fuel (zd6.lp (zd4 fuel) 0 fuel (fun _ _ _ => none) (endF zd7 zd5) 0 zsZ) x.1.1 by kernel_rfl).trans (by rw [zGh]; rfl)
def zmv (fuel : Nat) : TF := ⟨zic, zd5, true, zd9 fuel⟩
theorem zGj (fuel : Nat) : FnSpec Tryz.prog 151 (zmv fuel) :=
  fn_spec (T := zd4 fuel) (c := bodyOf Tryz.f151) (fn := Tryz.f151) (TabOK.of (entNil) (methNil)) mixed (by kernel_rfl) (by kernel_rfl) zGg (by kernel_rfl) (Nat.le_of_ble_eq_true (by kernel_rfl)) (rv := zd7) (by kernel_rfl) (zGi fuel)
theorem zGk (fuel : Nat) : EntryOK Tryz.prog 151 (zmv fuel).te := EntryOK.tf rfl (zGj fuel) (isFn (fn := Tryz.f151) (by kernel_rfl) (by kernel_rfl) (by kernel_rfl))
def zea (fuel : Nat) : Tab := Tab.of [] []
abbrev zie : List Pm := [{ cs := [(I6, false)], ag := false }]
abbrev zeb : List Pm := []
def zs0 : List Norm := [{ live := [5, 0, 1], fix := [] }]
noncomputable def zec : C := irOf Tryz.prog Tryz.f152 [] zs0 []
theorem zGl : lightC Tryz.prog [] Tryz.f152.ntmps zs0 [] 0 (bodyOf Tryz.f152) = some (zec, 1) := by kernel_rfl
def zed : List (Nat × Option (Nat × Bool)) := [(4, none)]
abbrev zbG := (Int) × (Int) × (List Int)
def zs1 (v : zbG) : Env × Heap := ([(5, SV.int .i64 v.1), (0, SV.own 0), (1, SV.int .i64 v.2.1)], [Blk.arr I6 v.2.2 0])
def zee (fuel : Nat) (g0 : zbG → Option ((List Int) × Unit)) (v : zbG) : Option ((List Int) × Unit) :=
 cond (decide (v.1 ≥ (2 : Int)))
 (tst (decide (0 ≤ v.1)) <|
 tst (decide (v.1 < (zz (List.length v.2.2)))) <|
 tst (decide (Int.toNat v.1 < List.length v.2.2)) <|
 tst (decide (0 ≤ w64 (v.1 + (1 : Int)))) <|
 tst (decide (w64 (v.1 + (1 : Int)) < (zz (List.length v.2.2)))) <|
 tst (decide (Int.toNat (w64 (v.1 + (1 : Int))) < List.length v.2.2)) <|
 cond (decide (w64 (List.getD v.2.2 (Int.toNat v.1) 0 + List.getD v.2.2 (Int.toNat (w64 (v.1 + (1 : Int)))) 0) > (0 : Int)))
 (tst (decide (0 ≤ w64 (Int.tdiv v.1 (2 : Int)))) <|
 tst (decide (w64 (Int.tdiv v.1 (2 : Int)) < (zz (List.length v.2.2)))) <|
 tst (decide (Int.toNat (w64 (Int.tdiv v.1 (2 : Int))) < List.length v.2.2)) <|
 cond (decide (w64 (w64 (List.getD v.2.2 (Int.toNat v.1) 0 + List.getD v.2.2 (Int.toNat (w64 (v.1 + (1 : Int)))) 0) + List.getD v.2.2 (Int.toNat (w64 (Int.tdiv v.1 (2 : Int)))) 0) ≤ w64 (Int.tdiv v.2.1 (8 : Int))))
 (tst (decide (0 ≤ w64 (Int.tdiv v.1 (2 : Int)))) <|
 tst (decide (w64 (Int.tdiv v.1 (2 : Int)) < (zz (List.length v.2.2)))) <|
 tst (decide (Int.toNat (w64 (Int.tdiv v.1 (2 : Int))) < List.length v.2.2)) <|
 tst (decide (0 ≤ w64 (Int.tdiv v.1 (2 : Int)))) <|
 tst (decide (w64 (Int.tdiv v.1 (2 : Int)) < (zz (List.length v.2.2)))) <|
 tst (decide (Int.toNat (w64 (Int.tdiv v.1 (2 : Int))) < List.length v.2.2)) <|
 tst (decide (0 ≤ v.1)) <|
 tst (decide (v.1 < (zz (List.length (List.set v.2.2 (Int.toNat (w64 (Int.tdiv v.1 (2 : Int)))) (w64 (List.getD v.2.2 (Int.toNat (w64 (Int.tdiv v.1 (2 : Int)))) 0 + w64 (List.getD v.2.2 (Int.toNat v.1) 0 + List.getD v.2.2 (Int.toNat (w64 (v.1 + (1 : Int)))) 0)))))))) <|
 tst (decide (Int.toNat v.1 < List.length (List.set v.2.2 (Int.toNat (w64 (Int.tdiv v.1 (2 : Int)))) (w64 (List.getD v.2.2 (Int.toNat (w64 (Int.tdiv v.1 (2 : Int)))) 0 + w64 (List.getD v.2.2 (Int.toNat v.1) 0 + List.getD v.2.2 (Int.toNat (w64 (v.1 + (1 : Int)))) 0)))))) <|
 tst (decide (0 ≤ w64 (v.1 + (1 : Int)))) <|
 tst (decide (w64 (v.1 + (1 : Int)) < (zz (List.length (List.set (List.set v.2.2 (Int.toNat (w64 (Int.tdiv v.1 (2 : Int)))) (w64 (List.getD v.2.2 (Int.toNat (w64 (Int.tdiv v.1 (2 : Int)))) 0 + w64 (List.getD v.2.2 (Int.toNat v.1) 0 + List.getD v.2.2 (Int.toNat (w64 (v.1 + (1 : Int)))) 0)))) (Int.toNat v.1) (0 : Int)))))) <|
 tst (decide (Int.toNat (w64 (v.1 + (1 : Int))) < List.length (List.set (List.set v.2.2 (Int.toNat (w64 (Int.tdiv v.1 (2 : Int)))) (w64 (List.getD v.2.2 (Int.toNat (w64 (Int.tdiv v.1 (2 : Int)))) 0 + w64 (List.getD v.2.2 (Int.toNat v.1) 0 + List.getD v.2.2 (Int.toNat (w64 (v.1 + (1 : Int)))) 0)))) (Int.toNat v.1) (0 : Int)))) <|
 g0 (w64 (v.1 - (2 : Int)), v.2.1, List.set (List.set (List.set v.2.2 (Int.toNat (w64 (Int.tdiv v.1 (2 : Int)))) (w64 (List.getD v.2.2 (Int.toNat (w64 (Int.tdiv v.1 (2 : Int)))) 0 + w64 (List.getD v.2.2 (Int.toNat v.1) 0 + List.getD v.2.2 (Int.toNat (w64 (v.1 + (1 : Int)))) 0)))) (Int.toNat v.1) (0 : Int)) (Int.toNat (w64 (v.1 + (1 : Int)))) (0 : Int)))
 (g0 (w64 (v.1 - (2 : Int)), v.2.1, v.2.2)))
 (g0 (w64 (v.1 - (2 : Int)), v.2.1, v.2.2)))
 (some ((v.2.2, ())))
def zif (fuel : Nat) (g0 : zbG → Option ((List Int) × Unit)) : zbG → Option ((List Int) × Unit) := zee fuel g0
theorem zGm (fuel : Nat) (G) : zec.lp (zea fuel) 1 fuel G (endS zed I6 true zeb) 0 zs1 = iter (zif fuel) fuel := C.lp_iter fun g v => by kernel_rfl
def zmw (fuel : Nat) (X0 : zbG → Option ((List Int) × Unit)) (d0 : List Int) (x0 : Int) : Option ((List Int) × Unit) :=
 X0 (w64 ((zz (List.length d0)) - (2 : Int)), x0, d0)
def zef (fuel : Nat) (z : (List Int) × Unit × ((Int × Unit) × Unit)) : Option ((List Int) × Unit) := zmw fuel (iter (zif fuel) fuel) z.1 z.2.2.1.1
theorem zGn (fuel : Nat) (c : List (Kd.T I6)) (d : CsT []) (x : PsT zie) : run (zea fuel) 1 fuel zec ((0, firstV false 0 (svCs [] d)) :: env0 (svPs zie x) 1) [.arr I6 c 0] (endS zed I6 true zeb) = zef fuel (c, d, x) :=
  (show run (zea fuel) 1 fuel zec ((0, firstV false 0 (svCs [] d)) :: env0 (svPs zie x) 1) [.arr I6 c 0] (endS zed I6 true zeb) = zmw fuel (zec.lp (zea fuel) 1 fuel (fun _ _ _ => none) (endS zed I6 true zeb) 0 zs1) c x.1.1 by kernel_rfl).trans (by rw [zGm]; rfl)
def zmx (fuel : Nat) : TFS := ⟨I6, false, [], zie, zeb, true, zef fuel⟩
theorem zGo (fuel : Nat) : FnSpecS Tryz.prog 152 (zmx fuel) :=
  zlA (T := zea fuel) (c := bodyOf Tryz.f152) (fn := Tryz.f152) (TabOK.of (entNil) (methNil)) mixed (by kernel_rfl) (by kernel_rfl) zGl (by kernel_rfl) (Nat.le_of_ble_eq_true (by kernel_rfl)) (rv := zed) (by kernel_rfl) (zGn fuel)
theorem zGp (fuel : Nat) : EntryOK Tryz.prog 152 (zmx fuel).te := EntryOK.tfs (zGo fuel) (isFn (fn := Tryz.f152) (by kernel_rfl) (by kernel_rfl) (by kernel_rfl))
def zs2 (fuel : Nat) : Tab := Tab.of [(107, (zy fuel).te), (144, (zhD fuel).te), (150, (zmt fuel).te), (151, (zmv fuel).te), (152, (zmx fuel).te)] []
abbrev zmy : List Pm := [{ cs := [(Kd.list KP, false), (I6, false)], ag := true }, { cs := [(I6, false)], ag := false }]
abbrev zs3 : List Pm := [{ cs := [(Kd.list KP, true), (I6, false)], ag := true }, { cs := [(Kd.bool, false)], ag := false }]
def zs4 : List Norm := []
noncomputable def zs5 : C := irOf Tryz.prog Tryz.f111 [41] zs4 []
theorem zGq : lightC Tryz.prog [41] Tryz.f111.ntmps zs4 [] 0 (bodyOf Tryz.f111) = some (zs5, 0) := by kernel_rfl
def zs6 : List (Nat × Option (Nat × Bool)) := [(4, some (2, true)), (5, none)]
def zs7 (fuel : Nat) (x0 : LP) (x1 : Int) (x2 : Int) : Option ((LP × (Int × Unit)) × ((Bool × Unit) × Unit)) :=
 Option.bind (zbl fuel ((x0, x1, ()), ())) fun y_1 =>
 cond (!y_1.1.1)
 (some ((([], (0 : Int), ()), (false, ()), ())))
 (Option.bind (zf fuel ((x2, ()), ((0 : Int), ()), ((63 : Int), ()), ())) fun y_3 =>
 cond (!y_3.1.1)
 (some ((([], (0 : Int), ()), (false, ()), ())))
 (cond (decide (x1 ≥ (2000 : Int)))
 (some ((([], (0 : Int), ()), (false, ()), ())))
 (Option.bind (zd3 fuel ((x0, ()), ())) fun y_6 =>
 tst (decide (0 ≤ w64 ((64 : Int) + x2))) <|
 tst (decide (w64 ((64 : Int) + x2) < (zz (List.length y_6.1.1)))) <|
 tst (decide (Int.toNat (w64 ((64 : Int) + x2)) < List.length y_6.1.1)) <|
 tst (decide (0 ≤ w64 ((64 : Int) + x2))) <|
 tst (decide (w64 ((64 : Int) + x2) < (zz (List.length y_6.1.1)))) <|
 tst (decide (Int.toNat (w64 ((64 : Int) + x2)) < List.length y_6.1.1)) <|
 Option.bind (zef fuel (List.set y_6.1.1 (Int.toNat (w64 ((64 : Int) + x2))) (w64 (List.getD y_6.1.1 (Int.toNat (w64 ((64 : Int) + x2))) 0 + (1 : Int))), (), (w64 (x1 + (1 : Int)), ()), ())) fun y_7 =>
 Option.bind (zd9 fuel ((y_7.1, ()), ())) fun y_8 =>
 some (((y_8.1.1, w64 (x1 + (1 : Int)), ()), (true, ()), ())))))
def zbH (fuel : Nat) (x : ((LP × (Int × Unit)) × ((Int × Unit) × Unit))) : Option ((LP × (Int × Unit)) × ((Bool × Unit) × Unit)) := zs7 fuel x.1.1 x.1.2.1 x.2.1.1
theorem zGr (fuel : Nat) (x : PsT zmy) : run (zs2 fuel) 0 fuel zs5 (env0 (svPs zmy x) 0) [] (endF zs6 zs3) = zbH fuel x := by kernel_rfl
def zmz (fuel : Nat) : TF := ⟨zmy, zs3, true, zbH fuel⟩
theorem zGs (fuel : Nat) : FnSpec Tryz.prog 111 (zmz fuel) :=
  fn_spec (T := zs2 fuel) (c := bodyOf Tryz.f111) (fn := Tryz.f111) (TabOK.of (entCons (zP fuel) (entCons (zrC fuel) (entCons (zGf fuel) (entCons (zGk fuel) (entCons (zGp fuel) entNil))))) (methNil)) mixed (by kernel_rfl) (by kernel_rfl) zGq (by kernel_rfl) (Nat.le_of_ble_eq_true (by kernel_rfl)) (rv := zs6) (by kernel_rfl) (zGr fuel)
theorem zGt (fuel : Nat) : EntryOK Tryz.prog 111 (zmz fuel).te := EntryOK.tf rfl (zGs fuel) (isFn (fn := Tryz.f111) (by kernel_rfl) (by kernel_rfl) (by kernel_rfl))
def zs8 (fuel : Nat) : Tab := Tab.of [(98, (zl2 fuel).te), (107, (zy fuel).te), (108, (zma fuel).te), (109, (zmh fuel).te), (110, (zmr fuel).te), (111, (zmz fuel).te)] []
abbrev zmA : List Pm := [{ cs := [(Kd.list (Kd.list I6), false), (Kd.list I6, false), (Kd.list KP, false), (I6, false), (I6, false), (Kd.list KP, false), (I6, false)], ag := true }, { cs := [(I6, false)], ag := false }]
abbrev zs9 : List Pm := [{ cs := [(Kd.list (Kd.list I6), false), (Kd.list I6, true), (Kd.list KP, true), (I6, false), (I6, false), (Kd.list KP, true), (I6, false)], ag := true }, { cs := [(Kd.bool, false)], ag := false }]
def zta : List Norm := []
noncomputable def ztb : C := irOf Tryz.prog Tryz.f61 [] zta []
theorem zGu : lightC Tryz.prog [] Tryz.f61.ntmps zta [] 0 (bodyOf Tryz.f61) = some (ztb, 0) := by kernel_rfl
def ztc : List (Nat × Option (Nat × Bool)) := [(4, some (7, true)), (5, none)]
def zeg (fuel : Nat) (x0 : List (List Int)) (x1 : List Int) (x2 : LP) (x3 : Int) (x4 : Int) (x5 : LP) (x6 : Int) (x7 : Int) : Option (SumY × ((Bool × Unit) × Unit)) :=
 Option.bind (zdE fuel ((x0, x1, x2, x3, x4, x5, x6, ()), ())) fun y_1 =>
 cond (!y_1.1.1)
 (some ((([], [], [], (0 : Int), (0 : Int), [], (0 : Int), ()), (false, ()), ())))
 (Option.bind (zf fuel ((x7, ()), ((0 : Int), ()), ((63 : Int), ()), ())) fun y_3 =>
 cond (!y_3.1.1)
 (some ((([], [], [], (0 : Int), (0 : Int), [], (0 : Int), ()), (false, ()), ())))
 (cond (decide (x4 ≥ (2000 : Int)))
 (some ((([], [], [], (0 : Int), (0 : Int), [], (0 : Int), ()), (false, ()), ())))
 (Option.bind (zhW fuel ((x0, ()), (x7, ()), ((1 : Int), ()), ())) fun y_6 =>
 Option.bind (zh0 fuel ((x1, ()), (x7, ()), ())) fun y_7 =>
 Option.bind (zh9 fuel ((x2, x3, x4, ()), (x7, ()), ())) fun y_8 =>
 Option.bind (zbH fuel ((x5, x6, ()), (x7, ()), ())) fun y_9 =>
 some (((y_6.1.1, y_7.1.1, y_8.1.1, y_8.1.2.1, y_8.1.2.2.1, y_9.1.1, y_9.1.2.1, ()), (true, ()), ())))))
def zbI (fuel : Nat) (x : (SumY × ((Int × Unit) × Unit))) : Option (SumY × ((Bool × Unit) × Unit)) := zeg fuel x.1.1 x.1.2.1 x.1.2.2.1 x.1.2.2.2.1 x.1.2.2.2.2.1 x.1.2.2.2.2.2.1 x.1.2.2.2.2.2.2.1 x.2.1.1
theorem zGv (fuel : Nat) (x : PsT zmA) : run (zs8 fuel) 0 fuel ztb (env0 (svPs zmA x) 0) [] (endF ztc zs9) = zbI fuel x := by kernel_rfl
def zig (fuel : Nat) : TF := ⟨zmA, zs9, false, zbI fuel⟩
theorem zGw (fuel : Nat) : FnSpec Tryz.prog 61 (zig fuel) :=
  fn_spec (T := zs8 fuel) (c := bodyOf Tryz.f61) (fn := Tryz.f61) (TabOK.of (entCons (zFn fuel) (entCons (zP fuel) (entCons (zFz fuel) (entCons (zFM fuel) (entCons (zGa fuel) (entCons (zGt fuel) entNil)))))) (methNil)) mixed (by kernel_rfl) (by kernel_rfl) zGu (by kernel_rfl) (Nat.le_of_ble_eq_true (by kernel_rfl)) (rv := ztc) (by kernel_rfl) (zGv fuel)
theorem ztd (fuel : Nat) : EntryOK Tryz.prog 61 (zig fuel).te := EntryOK.tf rfl (zGw fuel) (isFn (fn := Tryz.f61) (by kernel_rfl) (by kernel_rfl) (by kernel_rfl))
def zte (fuel : Nat) : Tab := Tab.of [] []
abbrev zmB : List Pm := []
abbrev ztf : List Pm := [{ cs := [(Kd.list (Kd.list I6), false)], ag := true }]
def ztg : List Norm := [{ live := [6, 5, 1, 0], fix := [] }]
noncomputable def zth : C := irOf Tryz.prog Tryz.f83 [3] ztg []
theorem zGx : lightC Tryz.prog [3] Tryz.f83.ntmps ztg [] 0 (bodyOf Tryz.f83) = some (zth, 1) := by kernel_rfl
def zti : List (Nat × Option (Nat × Bool)) := [(0, some (1, true))]
def zGy (fuel : Nat)  : Option (((List (List Int)) × Unit) × Unit) :=
 some ((([List.replicate (Int.toNat (8 : Int)) 0, List.replicate (Int.toNat (8 : Int)) 0, List.replicate (Int.toNat (8 : Int)) 0], ()), ()))
def zeh (fuel : Nat) (x : Unit) : Option (((List (List Int)) × Unit) × Unit) := zGy fuel
theorem zGz (fuel : Nat) (x : PsT zmB) : run (zte fuel) 0 (fuel + 6) zth (env0 (svPs zmB x) 0) [] (endF zti ztf) = zeh fuel x := by kernel_rfl
def zih (fuel : Nat) : TF := ⟨zmB, ztf, false, zeh fuel⟩
theorem zGA (fuel : Nat) : FnSpec Tryz.prog 83 (zih fuel) :=
  fn_spec (T := zte fuel) (c := bodyOf Tryz.f83) (fn := Tryz.f83) (TabOK.of (entNil) (methNil)) mixed (by kernel_rfl) (by kernel_rfl) zGx (by kernel_rfl) (Nat.le_of_ble_eq_true (by kernel_rfl)) (rv := zti) (by kernel_rfl) (zGz fuel)
theorem ztj (fuel : Nat) : EntryOK Tryz.prog 83 (zih fuel).te := EntryOK.tf rfl (zGA fuel) (isFn (fn := Tryz.f83) (by kernel_rfl) (by kernel_rfl) (by kernel_rfl))
def ztk (fuel : Nat) : Tab := Tab.of [] []
abbrev zmC : Sh := (.agg (.cell (Kd.list (Kd.list I6)) 0 (.cell (Kd.list I6) 0 (.cell (Kd.list KP) 0 (.cell I6 0 (.cell I6 0 (.cell (Kd.list KP) 0 (.cell I6 0 .nil))))))) .nil)
abbrev ztl : Sh := (.agg (.ifc 27 (.agg (.cell (Kd.list (Kd.list I6)) 0 .nil) .nil) (.ifc 29 (.agg (.cell (Kd.list I6) 0 .nil) .nil) (.ifc 32 (.agg (.cell (Kd.list KP) 0 (.cell I6 0 (.cell I6 0 .nil))) .nil) (.ifc 35 (.agg (.cell (Kd.list KP) 0 (.cell I6 0 .nil)) .nil) .nil)))) .nil)
def ztm : List Norm := []
noncomputable def ztn : C := irOf Tryz.prog Tryz.f82 [] ztm []
theorem zGB : lightC Tryz.prog [] Tryz.f82.ntmps ztm [] 0 (bodyOf Tryz.f82) = some (ztn, 0) := by kernel_rfl
def zto : List (Nat × Option (Nat × Bool)) := [(2, some (4, true))]
def zGC (fuel : Nat) (x0 : List (List Int)) (x1 : List Int) (x2 : LP) (x3 : Int) (x4 : Int) (x5 : LP) (x6 : Int) : Option (((((List (List Int)) × Unit) × Unit) × ((((List Int) × Unit) × Unit) × (((LP × (Int × (Int × Unit))) × Unit) × (((LP × (Int × Unit)) × Unit) × Unit)))) × Unit) :=
 some (((((x0, ()), ()), ((x1, ()), ()), ((x2, x3, x4, ()), ()), ((x5, x6, ()), ()), ()), ()))
def zaw (fuel : Nat) (x : (SumY × Unit)) : Option (((((List (List Int)) × Unit) × Unit) × ((((List Int) × Unit) × Unit) × (((LP × (Int × (Int × Unit))) × Unit) × (((LP × (Int × Unit)) × Unit) × Unit)))) × Unit) := zGC fuel x.1.1 x.1.2.1 x.1.2.2.1 x.1.2.2.2.1 x.1.2.2.2.2.1 x.1.2.2.2.2.2.1 x.1.2.2.2.2.2.2.1
theorem zGD (fuel : Nat) (x : Sh.T zmC) : run (ztk fuel) 0 fuel ztn (env0 (svS zmC x) 0) [] (endG zto ztl) = zaw fuel x := by kernel_rfl
def zei (fuel : Nat) : TG := ⟨zmC, ztl, false, zaw fuel⟩
theorem zGE (fuel : Nat) : FnSpecG Tryz.prog 82 (zei fuel) :=
  zd (T := ztk fuel) (c := bodyOf Tryz.f82) (fn := Tryz.f82) (TabOK.of (entNil) (methNil)) mixed (by kernel_rfl) (by kernel_rfl) zGB (by kernel_rfl) (Nat.le_of_ble_eq_true (by kernel_rfl)) (rv := zto) (by kernel_rfl) (fun x y h => (zGD fuel x).trans h)
theorem zmD (fuel : Nat) : EntryOK Tryz.prog 82 (zei fuel).te := EntryOK.tg rfl (zGE fuel) (isFn (fn := Tryz.f82) (by kernel_rfl) (by kernel_rfl) (by kernel_rfl))
def ztp (fuel : Nat) : Tab := Tab.of [] []
abbrev zmE : Sh := (.agg (.ifc 27 (.agg (.cell (Kd.list (Kd.list I6)) 0 .nil) .nil) (.ifc 29 (.agg (.cell (Kd.list I6) 0 .nil) .nil) (.ifc 32 (.agg (.cell (Kd.list KP) 0 (.cell I6 0 (.cell I6 0 .nil))) .nil) (.ifc 35 (.agg (.cell (Kd.list KP) 0 (.cell I6 0 .nil)) .nil) .nil)))) .nil)
abbrev ztq : Sh := (.agg (.cell (Kd.list (Kd.list I6)) 0 (.cell (Kd.list I6) 0 (.cell (Kd.list KP) 0 (.cell I6 0 (.cell I6 0 (.cell (Kd.list KP) 0 (.cell I6 0 .nil))))))) .nil)
def ztr : List Norm := [{ live := [11, 10, 3, 2], fix := [] }]
noncomputable def zts : C := irOf Tryz.prog Tryz.f104 [] ztr []
theorem zGF : lightC Tryz.prog [] Tryz.f104.ntmps ztr [] 0 (bodyOf Tryz.f104) = some (zts, 1) := by kernel_rfl
def ztt : List (Nat × Option (Nat × Bool)) := [(2, some (7, true))]
def zGG (fuel : Nat) (x0 : List (List Int)) (x1 : List Int) (x2 : LP) (x3 : Int) (x4 : Int) (x5 : LP) (x6 : Int) : Option (SumY × Unit) :=
 some (((x0, x1, x2, x3, x4, x5, x6, ()), ()))
def zmF (fuel : Nat) (x : (((((List (List Int)) × Unit) × Unit) × ((((List Int) × Unit) × Unit) × (((LP × (Int × (Int × Unit))) × Unit) × (((LP × (Int × Unit)) × Unit) × Unit)))) × Unit)) : Option (SumY × Unit) := zGG fuel x.1.1.1.1 x.1.2.1.1.1 x.1.2.2.1.1.1 x.1.2.2.1.1.2.1 x.1.2.2.1.1.2.2.1 x.1.2.2.2.1.1.1 x.1.2.2.2.1.1.2.1
theorem zGH (fuel : Nat) (x : Sh.T zmE) : run (ztp fuel) 0 (fuel + 6) zts (env0 (svS zmE x) 0) [] (endG ztt ztq) = zmF fuel x := by kernel_rfl
def zmG (fuel : Nat) : TG := ⟨zmE, ztq, false, zmF fuel⟩
theorem zGI (fuel : Nat) : FnSpecG Tryz.prog 104 (zmG fuel) :=
  zd (T := ztp fuel) (c := bodyOf Tryz.f104) (fn := Tryz.f104) (TabOK.of (entNil) (methNil)) mixed (by kernel_rfl) (by kernel_rfl) zGF (by kernel_rfl) (Nat.le_of_ble_eq_true (by kernel_rfl)) (rv := ztt) (by kernel_rfl) (fun x y h => (zGH fuel x).trans h)
theorem zGJ (fuel : Nat) : EntryOK Tryz.prog 104 (zmG fuel).te := EntryOK.tg rfl (zGI fuel) (isFn (fn := Tryz.f104) (by kernel_rfl) (by kernel_rfl) (by kernel_rfl))
def ztu (fuel : Nat) : Tab := Tab.of [(86, (zQ fuel).te)] []
abbrev zmH : List Pm := [{ cs := [(I6, false)], ag := false }, { cs := [(I6, false)], ag := false }]
abbrev ztv : List Pm := [{ cs := [(I6, false)], ag := false }]
def ztw : List Norm := []
noncomputable def ztx : C := irOf Tryz.prog Tryz.f43 [] ztw []
theorem zGK : lightC Tryz.prog [] Tryz.f43.ntmps ztw [] 0 (bodyOf Tryz.f43) = some (ztx, 0) := by kernel_rfl
def zty : List (Nat × Option (Nat × Bool)) := [(4, none)]
def zmI (fuel : Nat) (x0 : Int) (x1 : Int) : Option ((Int × Unit) × Unit) :=
 Option.bind (zo fuel ((x1, ()), ())) fun y_1 =>
 cond (!y_1.1.1)
 (some ((((-1 : Int), ()), ())))
 (cond (x0 == (0 : Int))
 (some (((Int.tmod (w64 (w64 ((3 : Int) * x1) + w64 (Int.tdiv x1 (8 : Int)))) (8 : Int), ()), ())))
 (cond (x0 == (1 : Int))
 (some (((Int.tmod (w64 (w64 (w64 ((5 : Int) * x1) + w64 (Int.tdiv x1 (16 : Int))) + (1 : Int))) (8 : Int), ()), ())))
 (cond (x0 == (2 : Int))
 (some (((Int.tmod (w64 (w64 (x1 + w64 (Int.tdiv x1 (4 : Int))) + (2 : Int))) (8 : Int), ()), ())))
 (some ((((-1 : Int), ()), ()))))))
def zab (fuel : Nat) (x : ((Int × Unit) × ((Int × Unit) × Unit))) : Option ((Int × Unit) × Unit) := zmI fuel x.1.1 x.2.1.1
theorem zGL (fuel : Nat) (x : PsT zmH) : run (ztu fuel) 0 fuel ztx (env0 (svPs zmH x) 0) [] (endF zty ztv) = zab fuel x := by kernel_rfl
def zii (fuel : Nat) : TF := ⟨zmH, ztv, true, zab fuel⟩
theorem zGM (fuel : Nat) : FnSpec Tryz.prog 43 (zii fuel) :=
  fn_spec (T := ztu fuel) (c := bodyOf Tryz.f43) (fn := Tryz.f43) (TabOK.of (entCons (zat fuel) entNil) (methNil)) mixed (by kernel_rfl) (by kernel_rfl) zGK (by kernel_rfl) (Nat.le_of_ble_eq_true (by kernel_rfl)) (rv := zty) (by kernel_rfl) (zGL fuel)
theorem ztz (fuel : Nat) : EntryOK Tryz.prog 43 (zii fuel).te := EntryOK.tf rfl (zGM fuel) (isFn (fn := Tryz.f43) (by kernel_rfl) (by kernel_rfl) (by kernel_rfl))
abbrev zaV := Option ((Int × Unit) × ((Bool × Unit) × Unit))
def zej (fuel : Nat) : Tab := Tab.of [] []
abbrev zij : List Pm := [{ cs := [(Kd.list I6, false)], ag := false }]
abbrev zek : List Pm := [{ cs := [(I6, false)], ag := false }, { cs := [(Kd.bool, false)], ag := false }]
def ztA : List Norm := [{ live := [12, 11, 10, 4], fix := [] }]
noncomputable def zel : C := irOf Tryz.prog Tryz.f91 [] ztA []
theorem zGN : lightC Tryz.prog [] Tryz.f91.ntmps ztA [] 0 (bodyOf Tryz.f91) = some (zel, 1) := by kernel_rfl
def zem : List (Nat × Option (Nat × Bool)) := [(2, none), (3, none)]
abbrev zbJ := (Int) × (Int) × (List Int) × (Int)
def ztB (v : zbJ) : Env × Heap := ([(12, SV.int .i64 v.1), (11, SV.int .i64 v.2.1), (10, SV.es I6 v.2.2.1), (4, SV.int .i64 v.2.2.2)], [])
def zen (fuel : Nat) (g0 : zbJ → zaV) (v : zbJ) : zaV :=
 cond (decide (v.1 < v.2.1))
 (tst (decide (0 ≤ v.1)) <|
 tst (decide (v.1 < (zz (List.length v.2.2.1)))) <|
 cond (decide (List.getD v.2.2.1 (Int.toNat v.1) 0 < (0 : Int)))
 (some ((((0 : Int), ()), (false, ()), ())))
 (cond (decide (List.getD v.2.2.1 (Int.toNat v.1) 0 > (2000 : Int)))
 (some ((((0 : Int), ()), (false, ()), ())))
 (g0 (w64 (v.1 + (1 : Int)), v.2.1, v.2.2.1, w64 (v.2.2.2 + List.getD v.2.2.1 (Int.toNat v.1) 0)))))
 (some (((v.2.2.2, ()), (decide (v.2.2.2 ≤ (2000 : Int)), ()), ())))
def zik (fuel : Nat) (g0 : zbJ → zaV) : zbJ → zaV := zen fuel g0
theorem zGO (fuel : Nat) (G) : zel.lp (zej fuel) 0 fuel G (endF zem zek) 0 ztB = iter (zik fuel) fuel := C.lp_iter fun g v => by kernel_rfl
def zil (fuel : Nat) (X0 : zbJ → zaV) (x0 : List Int) : zaV :=
 cond ((zz (List.length x0)) != (8 : Int))
 (some ((((0 : Int), ()), (false, ()), ())))
 (X0 ((0 : Int), (zz (List.length x0)), x0, (0 : Int)))
def zbK (fuel : Nat) (x : (((List Int) × Unit) × Unit)) : zaV := zil fuel (iter (zik fuel) fuel) x.1.1
theorem zGP (fuel : Nat) (x : PsT zij) : run (zej fuel) 0 fuel zel (env0 (svPs zij x) 0) [] (endF zem zek) = zbK fuel x :=
  (show run (zej fuel) 0 fuel zel (env0 (svPs zij x) 0) [] (endF zem zek) = zil fuel (zel.lp (zej fuel) 0 fuel (fun _ _ _ => none) (endF zem zek) 0 ztB) x.1.1 by kernel_rfl).trans (by rw [zGO]; rfl)
def zim (fuel : Nat) : TF := ⟨zij, zek, true, zbK fuel⟩
theorem zGQ (fuel : Nat) : FnSpec Tryz.prog 91 (zim fuel) :=
  fn_spec (T := zej fuel) (c := bodyOf Tryz.f91) (fn := Tryz.f91) (TabOK.of (entNil) (methNil)) mixed (by kernel_rfl) (by kernel_rfl) zGN (by kernel_rfl) (Nat.le_of_ble_eq_true (by kernel_rfl)) (rv := zem) (by kernel_rfl) (zGP fuel)
theorem ztC (fuel : Nat) : EntryOK Tryz.prog 91 (zim fuel).te := EntryOK.tf rfl (zGQ fuel) (isFn (fn := Tryz.f91) (by kernel_rfl) (by kernel_rfl) (by kernel_rfl))
def zeo (fuel : Nat) : Tab := Tab.of [(91, (zim fuel).te)] []
abbrev zin : List Pm := [{ cs := [(Kd.list (Kd.list I6), false)], ag := true }]
abbrev zep : List Pm := [{ cs := [(Kd.bool, false)], ag := false }]
def ztD : List Norm := [{ live := [24, 23, 22, 3], fix := [] }]
noncomputable def zeq : C := irOf Tryz.prog Tryz.f89 [] ztD []
theorem zGR : lightC Tryz.prog [] Tryz.f89.ntmps ztD [] 0 (bodyOf Tryz.f89) = some (zeq, 1) := by kernel_rfl
def zer : List (Nat × Option (Nat × Bool)) := [(2, none)]
abbrev zbL := (Int) × (Int) × (List (List Int)) × (Int)
def ztE (v : zbL) : Env × Heap := ([(24, SV.int .i64 v.1), (23, SV.int .i64 v.2.1), (22, SV.es (Kd.list I6) v.2.2.1), (3, SV.int .i64 v.2.2.2)], [])
def zes (fuel : Nat) (g0 : zbL → Option ((Bool × Unit) × Unit)) (v : zbL) : Option ((Bool × Unit) × Unit) :=
 cond (decide (v.1 < v.2.1))
 (tst (decide (0 ≤ v.1)) <|
 tst (decide (v.1 < (zz (List.length v.2.2.1)))) <|
 Option.bind (zbK fuel ((List.getD v.2.2.1 (Int.toNat v.1) [], ()), ())) fun y_2 =>
 cond (!y_2.2.1.1)
 (some (((false, ()), ())))
 (cond (y_2.1.1 != v.2.2.2)
 (some (((false, ()), ())))
 (g0 (w64 (v.1 + (1 : Int)), v.2.1, v.2.2.1, v.2.2.2))))
 (some (((true, ()), ())))
def zio (fuel : Nat) (g0 : zbL → Option ((Bool × Unit) × Unit)) : zbL → Option ((Bool × Unit) × Unit) := zes fuel g0
theorem zGS (fuel : Nat) (G) : zeq.lp (zeo fuel) 0 fuel G (endF zer zep) 0 ztE = iter (zio fuel) fuel := C.lp_iter fun g v => by kernel_rfl
def ziq (fuel : Nat) (X0 : zbL → Option ((Bool × Unit) × Unit)) (x0 : List (List Int)) : Option ((Bool × Unit) × Unit) :=
 cond ((zz (List.length x0)) != (3 : Int))
 (some (((false, ()), ())))
 (tst (decide ((0 : Int) < (zz (List.length x0)))) <|
 Option.bind (zbK fuel ((List.getD x0 (Int.toNat (0 : Int)) [], ()), ())) fun y_2 =>
 X0 ((0 : Int), (zz (List.length x0)), x0, y_2.1.1))
def zaW (fuel : Nat) (x : (((List (List Int)) × Unit) × Unit)) : Option ((Bool × Unit) × Unit) := ziq fuel (iter (zio fuel) fuel) x.1.1
theorem zGT (fuel : Nat) (x : PsT zin) : run (zeo fuel) 0 fuel zeq (env0 (svPs zin x) 0) [] (endF zer zep) = zaW fuel x :=
  (show run (zeo fuel) 0 fuel zeq (env0 (svPs zin x) 0) [] (endF zer zep) = ziq fuel (zeq.lp (zeo fuel) 0 fuel (fun _ _ _ => none) (endF zer zep) 0 ztE) x.1.1 by kernel_rfl).trans (by rw [zGS]; rfl)
def zbM (fuel : Nat) : TF := ⟨zin, zep, true, zaW fuel⟩
theorem zGU (fuel : Nat) : FnSpec Tryz.prog 89 (zbM fuel) :=
  fn_spec (T := zeo fuel) (c := bodyOf Tryz.f89) (fn := Tryz.f89) (TabOK.of (entCons (ztC fuel) entNil) (methNil)) mixed (by kernel_rfl) (by kernel_rfl) zGR (by kernel_rfl) (Nat.le_of_ble_eq_true (by kernel_rfl)) (rv := zer) (by kernel_rfl) (zGT fuel)
theorem zir (fuel : Nat) : EntryOK Tryz.prog 89 (zbM fuel).te := EntryOK.tf rfl (zGU fuel) (isFn (fn := Tryz.f89) (by kernel_rfl) (by kernel_rfl) (by kernel_rfl))
end Go.Proofs.YtdgdoeknpakmlaaGreat.Den
namespace Go.Proofs.YtdgdoeknpakmlaaGreat.Den
open Go Go.RowKit
def ztF (fuel : Nat) : Tab := Tab.of [(89, (zbM fuel).te), (91, (zim fuel).te)] []
abbrev zmJ : List Pm := [{ cs := [(Kd.list (Kd.list I6), false)], ag := true }]
abbrev ztG : List Pm := [{ cs := [(I6, false)], ag := false }]
def ztH : List Norm := []
noncomputable def ztI : C := irOf Tryz.prog Tryz.f47 [] ztH []
theorem zGV : lightC Tryz.prog [] Tryz.f47.ntmps ztH [] 0 (bodyOf Tryz.f47) = some (ztI, 0) := by kernel_rfl
def ztJ : List (Nat × Option (Nat × Bool)) := [(2, none)]
def zmK (fuel : Nat) (x0 : List (List Int)) : Option ((Int × Unit) × Unit) :=
 Option.bind (zaW fuel ((x0, ()), ())) fun y_1 =>
 cond (!y_1.1.1)
 (some ((((-1 : Int), ()), ())))
 (tst (decide ((0 : Int) < (zz (List.length x0)))) <|
 Option.bind (zbK fuel ((List.getD x0 (Int.toNat (0 : Int)) [], ()), ())) fun y_3 =>
 some (((y_3.1.1, ()), ())))
def zbN (fuel : Nat) (x : (((List (List Int)) × Unit) × Unit)) : Option ((Int × Unit) × Unit) := zmK fuel x.1.1
theorem zGW (fuel : Nat) (x : PsT zmJ) : run (ztF fuel) 0 fuel ztI (env0 (svPs zmJ x) 0) [] (endF ztJ ztG) = zbN fuel x := by kernel_rfl
def zet (fuel : Nat) : TF := ⟨zmJ, ztG, true, zbN fuel⟩
theorem zGX (fuel : Nat) : FnSpec Tryz.prog 47 (zet fuel) :=
  fn_spec (T := ztF fuel) (c := bodyOf Tryz.f47) (fn := Tryz.f47) (TabOK.of (entCons (zir fuel) (entCons (ztC fuel) entNil)) (methNil)) mixed (by kernel_rfl) (by kernel_rfl) zGV (by kernel_rfl) (Nat.le_of_ble_eq_true (by kernel_rfl)) (rv := ztJ) (by kernel_rfl) (zGW fuel)
theorem zmL (fuel : Nat) : EntryOK Tryz.prog 47 (zet fuel).te := EntryOK.tf rfl (zGX fuel) (isFn (fn := Tryz.f47) (by kernel_rfl) (by kernel_rfl) (by kernel_rfl))
def ztK (fuel : Nat) : Tab := Tab.of [] []
abbrev zmM : List Pm := [{ cs := [(I6, false)], ag := false }, { cs := [(I6, false)], ag := false }]
abbrev ztL : List Pm := [{ cs := [(I6, false)], ag := false }]
def ztM : List Norm := []
noncomputable def ztN : C := irOf Tryz.prog Tryz.f163 [] ztM []
theorem zGY : lightC Tryz.prog [] Tryz.f163.ntmps ztM [] 0 (bodyOf Tryz.f163) = some (ztN, 0) := by kernel_rfl
def ztO : List (Nat × Option (Nat × Bool)) := [(4, none)]
def zGZ (fuel : Nat) (x0 : Int) (x1 : Int) : Option ((Int × Unit) × Unit) :=
 some (((w64 (x0 + x1), ()), ()))
def zis (fuel : Nat) (x : ((Int × Unit) × ((Int × Unit) × Unit))) : Option ((Int × Unit) × Unit) := zGZ fuel x.1.1 x.2.1.1
theorem zG0 (fuel : Nat) (x : PsT zmM) : run (ztK fuel) 0 fuel ztN (env0 (svPs zmM x) 0) [] (endF ztO ztL) = zis fuel x := by kernel_rfl
def zmN (fuel : Nat) : TF := ⟨zmM, ztL, true, zis fuel⟩
theorem zG1 (fuel : Nat) : FnSpec Tryz.prog 163 (zmN fuel) :=
  fn_spec (T := ztK fuel) (c := bodyOf Tryz.f163) (fn := Tryz.f163) (TabOK.of (entNil) (methNil)) mixed (by kernel_rfl) (by kernel_rfl) zGY (by kernel_rfl) (Nat.le_of_ble_eq_true (by kernel_rfl)) (rv := ztO) (by kernel_rfl) (zG0 fuel)
theorem zG2 (fuel : Nat) : EntryOK Tryz.prog 163 (zmN fuel).te := EntryOK.tf rfl (zG1 fuel) (isFn (fn := Tryz.f163) (by kernel_rfl) (by kernel_rfl) (by kernel_rfl))
def zeu (fuel : Nat) : Tab := Tab.of [(163, (zmN fuel).te)] []
abbrev zit : Sh := (.cell (Kd.list I6) 0 (.cell (Kd.list I6) 0 (.fnc 163 .nil)))
abbrev zev : Sh := (.cell (Kd.list I6) 1 .nil)
def ztP : List Norm := [{ live := [14, 13, 7, 2, 0, 1], fix := [] }]
noncomputable def zew : C := irOf Tryz.prog Tryz.f162 [] ztP []
theorem zG3 : lightC Tryz.prog [] Tryz.f162.ntmps ztP [] 0 (bodyOf Tryz.f162) = some (zew, 1) := by kernel_rfl
def zex : List (Nat × Option (Nat × Bool)) := [(6, none)]
abbrev zbO := (Int) × (Int) × (List Int) × (List Int) × (List Int)
def ztQ (v : zbO) : Env × Heap := ([(14, SV.int .i64 v.1), (13, SV.int .i64 v.2.1), (7, SV.own 0), (2, SV.fn (Fn.func 163) [] []), (0, SV.es I6 v.2.2.1), (1, SV.es I6 v.2.2.2.1)], [Blk.arr I6 v.2.2.2.2 0])
def zey (fuel : Nat) (g0 : zbO → Option ((List Int) × Unit)) (v : zbO) : Option ((List Int) × Unit) :=
 cond (decide (v.1 < v.2.1))
 (tst (decide (0 ≤ v.1)) <|
 tst (decide (v.1 < (zz (List.length v.2.2.1)))) <|
 tst (decide (0 ≤ v.1)) <|
 tst (decide (v.1 < (zz (List.length v.2.2.2.1)))) <|
 Option.bind (zis fuel ((List.getD v.2.2.1 (Int.toNat v.1) 0, ()), (List.getD v.2.2.2.1 (Int.toNat v.1) 0, ()), ())) fun y_2 =>
 tst (decide (0 ≤ v.1)) <|
 tst (decide (v.1 < (zz (List.length v.2.2.2.2)))) <|
 tst (decide (Int.toNat v.1 < List.length v.2.2.2.2)) <|
 g0 (w64 (v.1 + (1 : Int)), v.2.1, v.2.2.1, v.2.2.2.1, List.set v.2.2.2.2 (Int.toNat v.1) y_2.1.1))
 (some ((v.2.2.2.2, ())))
def ziu (fuel : Nat) (g0 : zbO → Option ((List Int) × Unit)) : zbO → Option ((List Int) × Unit) := zey fuel g0
theorem zG4 (fuel : Nat) (G) : zew.lp (zeu fuel) 0 fuel G (endG zex zev) 0 ztQ = iter (ziu fuel) fuel := C.lp_iter fun g v => by kernel_rfl
def ziv (fuel : Nat) (X0 : zbO → Option ((List Int) × Unit)) (x0 : List Int) (x1 : List Int) : Option ((List Int) × Unit) :=
 tst (decide (0 ≤ (zz (List.length x0)))) <|
 tst (decide ((zz (List.length x0)) ≤ (zz (List.length x0)))) <|
 tst (decide (Int.toNat (zz (List.length x0)) < LIM)) <|
 X0 ((0 : Int), (zz (List.length (List.replicate (Int.toNat (zz (List.length x0))) (Kd.dflt I6)))), x0, x1, List.replicate (Int.toNat (zz (List.length x0))) 0)
def ziw (fuel : Nat) (x : ((List Int) × ((List Int) × Unit))) : Option ((List Int) × Unit) := ziv fuel (iter (ziu fuel) fuel) x.1 x.2.1
theorem zG5 (fuel : Nat) (x : Sh.T zit) : run (zeu fuel) 0 fuel zew (env0 (svS zit x) 0) [] (endG zex zev) = ziw fuel x :=
  (show run (zeu fuel) 0 fuel zew (env0 (svS zit x) 0) [] (endG zex zev) = ziv fuel (zew.lp (zeu fuel) 0 fuel (fun _ _ _ => none) (endG zex zev) 0 ztQ) x.1 x.2.1 by kernel_rfl).trans (by rw [zG4]; rfl)
def zmO (fuel : Nat) : TG := ⟨zit, zev, true, ziw fuel⟩
theorem zG6 (fuel : Nat) : FnSpecG Tryz.prog 162 (zmO fuel) :=
  zd (T := zeu fuel) (c := bodyOf Tryz.f162) (fn := Tryz.f162) (TabOK.of (entCons (zG2 fuel) entNil) (methNil)) mixed (by kernel_rfl) (by kernel_rfl) zG3 (by kernel_rfl) (Nat.le_of_ble_eq_true (by kernel_rfl)) (rv := zex) (by kernel_rfl) (fun x y h => (zG5 fuel x).trans h)
theorem zG7 (fuel : Nat) : EntryOK Tryz.prog 162 (zmO fuel).te := EntryOK.tg rfl (zG6 fuel) (isFn (fn := Tryz.f162) (by kernel_rfl) (by kernel_rfl) (by kernel_rfl))
def ztR (fuel : Nat) : Tab := Tab.of [(162, (zmO fuel).te)] []
abbrev zmP : List Pm := [{ cs := [(Kd.list I6, false)], ag := false }, { cs := [(Kd.list I6, false)], ag := false }]
abbrev ztS : List Pm := [{ cs := [(Kd.list I6, true)], ag := false }]
def ztT : List Norm := []
noncomputable def ztU : C := irOf Tryz.prog Tryz.f161 [] ztT []
theorem zG8 : lightC Tryz.prog [] Tryz.f161.ntmps ztT [] 0 (bodyOf Tryz.f161) = some (ztU, 0) := by kernel_rfl
def ztV : List (Nat × Option (Nat × Bool)) := [(4, none)]
def zmQ (fuel : Nat) (x0 : List Int) (x1 : List Int) : Option (((List Int) × Unit) × Unit) :=
 Option.bind (ziw fuel (x0, x1, ())) fun y_1 =>
 some (((y_1.1, ()), ()))
def zbP (fuel : Nat) (x : (((List Int) × Unit) × (((List Int) × Unit) × Unit))) : Option (((List Int) × Unit) × Unit) := zmQ fuel x.1.1 x.2.1.1
theorem zG9 (fuel : Nat) (x : PsT zmP) : run (ztR fuel) 0 fuel ztU (env0 (svPs zmP x) 0) [] (endF ztV ztS) = zbP fuel x := by kernel_rfl
def zmR (fuel : Nat) : TF := ⟨zmP, ztS, true, zbP fuel⟩
theorem zHa (fuel : Nat) : FnSpec Tryz.prog 161 (zmR fuel) :=
  fn_spec (T := ztR fuel) (c := bodyOf Tryz.f161) (fn := Tryz.f161) (TabOK.of (entCons (zG7 fuel) entNil) (methNil)) mixed (by kernel_rfl) (by kernel_rfl) zG8 (by kernel_rfl) (Nat.le_of_ble_eq_true (by kernel_rfl)) (rv := ztV) (by kernel_rfl) (zG9 fuel)
theorem zHb (fuel : Nat) : EntryOK Tryz.prog 161 (zmR fuel).te := EntryOK.tf rfl (zHa fuel) (isFn (fn := Tryz.f161) (by kernel_rfl) (by kernel_rfl) (by kernel_rfl))
def ztW (fuel : Nat) : Tab := Tab.of [(161, (zmR fuel).te)] []
abbrev ztX : Sh := (.cell (Kd.list (Kd.list I6)) 5 (.cell (Kd.list (Kd.list I6)) 5 (.fnc 161 .nil)))
abbrev ztY : Sh := (.cell (Kd.list (Kd.list I6)) 5 .nil)
def ztZ : List Norm := [{ live := [14, 13, 7, 2, 0, 1], fix := [] }]
noncomputable def zt0 : C := irOf Tryz.prog Tryz.f160 [11] ztZ []
theorem zHc : lightC Tryz.prog [11] Tryz.f160.ntmps ztZ [] 0 (bodyOf Tryz.f160) = some (zt0, 1) := by kernel_rfl
def zt1 : List (Nat × Option (Nat × Bool)) := [(6, none)]
def zbQ (fuel : Nat) (x0 : List Int) (x1 : List Int) (x2 : List Int) (x3 : List Int) (x4 : List Int) (x5 : List Int) : Option ((List (List Int)) × Unit) :=
 Option.bind (zbP fuel ((x0, ()), (x3, ()), ())) fun y_1 =>
 Option.bind (zbP fuel ((x1, ()), (x4, ()), ())) fun y_2 =>
 Option.bind (zbP fuel ((x2, ()), (x5, ()), ())) fun y_3 =>
 some (([y_1.1.1, y_2.1.1, y_3.1.1], ()))
def zmS (fuel : Nat) (x : ((List (List Int)) × ((List (List Int)) × Unit))) : Option ((List (List Int)) × Unit) := lit3 x.1 fun x0 x1 x2 => lit3 x.2.1 fun x3 x4 x5 => zbQ fuel x0 x1 x2 x3 x4 x5
theorem zHd (fuel : Nat) (x0 : List Int) (x1 : List Int) (x2 : List Int) (x3 : List Int) (x4 : List Int) (x5 : List Int) : run (ztW fuel) 0 (fuel + 6) zt0 (env0 (svS ztX ([x0, x1, x2], [x3, x4, x5], ())) 0) [] (endG zt1 ztY) = zbQ fuel x0 x1 x2 x3 x4 x5 := by kernel_rfl
def zmT (fuel : Nat) : TG := ⟨ztX, ztY, true, zmS fuel⟩
theorem zHe (fuel : Nat) : FnSpecG Tryz.prog 160 (zmT fuel) :=
  zd (T := ztW fuel) (c := bodyOf Tryz.f160) (fn := Tryz.f160) (TabOK.of (entCons (zHb fuel) entNil) (methNil)) mixed (by kernel_rfl) (by kernel_rfl) zHc (by kernel_rfl) (Nat.le_of_ble_eq_true (by kernel_rfl)) (rv := zt1) (by kernel_rfl) (fun x y h => by
    obtain ⟨l0, l1, ⟨⟩⟩ := x
    obtain ⟨x0, x1, x2, rfl, h⟩ := zqU (show lit3 l0 (fun x0 x1 x2 => lit3 l1 fun x3 x4 x5 => zbQ fuel x0 x1 x2 x3 x4 x5) = some y from h)
    obtain ⟨x3, x4, x5, rfl, h⟩ := zqU (show lit3 l1 (fun x3 x4 x5 => zbQ fuel x0 x1 x2 x3 x4 x5) = some y from h)
    exact (zHd fuel x0 x1 x2 x3 x4 x5).trans h)
theorem zHf (fuel : Nat) : EntryOK Tryz.prog 160 (zmT fuel).te := EntryOK.tg rfl (zHe fuel) (isFn (fn := Tryz.f160) (by kernel_rfl) (by kernel_rfl) (by kernel_rfl))
def zt2 (fuel : Nat) : Tab := Tab.of [(160, (zmT fuel).te)] []
abbrev zmU : Sh := (.agg (.cell (Kd.list (Kd.list I6)) 0 .nil) (.agg (.cell (Kd.list (Kd.list I6)) 0 .nil) .nil))
abbrev zt3 : Sh := (.agg (.cell (Kd.list (Kd.list I6)) 5 .nil) .nil)
def zt4 : List Norm := []
noncomputable def zt5 : C := irOf Tryz.prog Tryz.f112 [] zt4 []
theorem zHg : lightC Tryz.prog [] Tryz.f112.ntmps zt4 [] 0 (bodyOf Tryz.f112) = some (zt5, 0) := by kernel_rfl
def zt6 : List (Nat × Option (Nat × Bool)) := [(4, some (1, true))]
def zmV (fuel : Nat) (x0 : List (List Int)) (x1 : List (List Int)) : Option (((List (List Int)) × Unit) × Unit) :=
 Option.bind (zmS fuel (x0, x1, ())) fun y_1 =>
 some ((([List.getD y_1.1 0 [], List.getD y_1.1 1 [], List.getD y_1.1 2 []], ()), ()))
def zez (fuel : Nat) (x : (((List (List Int)) × Unit) × (((List (List Int)) × Unit) × Unit))) : Option (((List (List Int)) × Unit) × Unit) := zmV fuel x.1.1 x.2.1.1
theorem zHh (fuel : Nat) (x : Sh.T zmU) : run (zt2 fuel) 0 fuel zt5 (env0 (svS zmU x) 0) [] (endG zt6 zt3) = zez fuel x := by kernel_rfl
def zix (fuel : Nat) : TG := ⟨zmU, zt3, true, zez fuel⟩
theorem zHi (fuel : Nat) : FnSpecG Tryz.prog 112 (zix fuel) :=
  zd (T := zt2 fuel) (c := bodyOf Tryz.f112) (fn := Tryz.f112) (TabOK.of (entCons (zHf fuel) entNil) (methNil)) mixed (by kernel_rfl) (by kernel_rfl) zHg (by kernel_rfl) (Nat.le_of_ble_eq_true (by kernel_rfl)) (rv := zt6) (by kernel_rfl) (fun x y h => (zHh fuel x).trans h)
theorem zt7 (fuel : Nat) : EntryOK Tryz.prog 112 (zix fuel).te := EntryOK.tg rfl (zHi fuel) (isFn (fn := Tryz.f112) (by kernel_rfl) (by kernel_rfl) (by kernel_rfl))
def zt8 (fuel : Nat) : Tab := Tab.of [(43, (zii fuel).te), (47, (zet fuel).te), (83, (zih fuel).te), (86, (zQ fuel).te), (89, (zbM fuel).te), (112, (zix fuel).te)] []
abbrev zmW : List Pm := [{ cs := [(Kd.list (Kd.list I6), false)], ag := true }, { cs := [(I6, false)], ag := false }, { cs := [(I6, false)], ag := false }]
abbrev zt9 : List Pm := [{ cs := [(Kd.list (Kd.list I6), false)], ag := true }, { cs := [(Kd.bool, false)], ag := false }]
def zua : List Norm := [{ live := [36, 35, 8, 1, 2, 6], fix := [] }]
noncomputable def zub : C := irOf Tryz.prog Tryz.f62 [] zua []
theorem zHj : lightC Tryz.prog [] Tryz.f62.ntmps zua [] 0 (bodyOf Tryz.f62) = some (zub, 1) := by kernel_rfl
def zuc : List (Nat × Option (Nat × Bool)) := [(6, some (1, true)), (7, none)]
def zeA (fuel : Nat) (x0 : List (List Int)) (x1 : Int) (x2 : Int) : Option (((List (List Int)) × Unit) × ((Bool × Unit) × Unit)) :=
 Option.bind (zaW fuel ((x0, ()), ())) fun y_1 =>
 cond (!y_1.1.1)
 (some ((([], ()), (false, ()), ())))
 (Option.bind (zo fuel ((x1, ()), ())) fun y_3 =>
 cond (!y_3.1.1)
 (some ((([], ()), (false, ()), ())))
 (cond (decide (x2 < (0 : Int)))
 (some ((([], ()), (false, ()), ())))
 (Option.bind (zbN fuel ((x0, ()), ())) fun y_6 =>
 cond (decide (x2 > w64 ((2000 : Int) - y_6.1.1)))
 (some ((([], ()), (false, ()), ())))
 (Option.bind (zeh fuel ()) fun y_8 =>
 Option.bind (zez fuel ((x0, ()), (y_8.1.1, ()), ())) fun y_9 =>
 Option.bind (zab fuel (((0 : Int), ()), (x1, ()), ())) fun y_10 =>
 tst (decide (0 ≤ y_10.1.1)) <|
 tst (decide (y_10.1.1 < (zz (List.length (List.getD y_9.1.1 0 []))))) <|
 tst (decide (Int.toNat y_10.1.1 < List.length (List.getD y_9.1.1 0 []))) <|
 tst (decide (0 ≤ y_10.1.1)) <|
 tst (decide (y_10.1.1 < (zz (List.length (List.getD y_9.1.1 0 []))))) <|
 tst (decide (Int.toNat y_10.1.1 < List.length (List.getD y_9.1.1 0 []))) <|
 let z1_4 := List.set (List.getD y_9.1.1 0 []) (Int.toNat y_10.1.1) (w64 (List.getD (List.getD y_9.1.1 0 []) (Int.toNat y_10.1.1) 0 + x2))
 Option.bind (zab fuel (((1 : Int), ()), (x1, ()), ())) fun y_11 =>
 tst (decide (0 ≤ y_11.1.1)) <|
 tst (decide (y_11.1.1 < (zz (List.length (List.getD y_9.1.1 1 []))))) <|
 tst (decide (Int.toNat y_11.1.1 < List.length (List.getD y_9.1.1 1 []))) <|
 tst (decide (0 ≤ y_11.1.1)) <|
 tst (decide (y_11.1.1 < (zz (List.length (List.getD y_9.1.1 1 []))))) <|
 tst (decide (Int.toNat y_11.1.1 < List.length (List.getD y_9.1.1 1 []))) <|
 let z2_5 := List.set (List.getD y_9.1.1 1 []) (Int.toNat y_11.1.1) (w64 (List.getD (List.getD y_9.1.1 1 []) (Int.toNat y_11.1.1) 0 + x2))
 Option.bind (zab fuel (((2 : Int), ()), (x1, ()), ())) fun y_12 =>
 tst (decide (0 ≤ y_12.1.1)) <|
 tst (decide (y_12.1.1 < (zz (List.length (List.getD y_9.1.1 2 []))))) <|
 tst (decide (Int.toNat y_12.1.1 < List.length (List.getD y_9.1.1 2 []))) <|
 tst (decide (0 ≤ y_12.1.1)) <|
 tst (decide (y_12.1.1 < (zz (List.length (List.getD y_9.1.1 2 []))))) <|
 tst (decide (Int.toNat y_12.1.1 < List.length (List.getD y_9.1.1 2 []))) <|
 let z3_6 := List.set (List.getD y_9.1.1 2 []) (Int.toNat y_12.1.1) (w64 (List.getD (List.getD y_9.1.1 2 []) (Int.toNat y_12.1.1) 0 + x2))
 some ((([z1_4, z2_5, z3_6], ()), (true, ()), ()))))))
def zeB (fuel : Nat) (x : (((List (List Int)) × Unit) × ((Int × Unit) × ((Int × Unit) × Unit)))) : Option (((List (List Int)) × Unit) × ((Bool × Unit) × Unit)) := zeA fuel x.1.1 x.2.1.1 x.2.2.1.1
theorem zHk (fuel : Nat) (x : PsT zmW) : run (zt8 fuel) 0 (fuel + 6) zub (env0 (svPs zmW x) 0) [] (endF zuc zt9) = zeB fuel x := by kernel_rfl
def zmX (fuel : Nat) : TF := ⟨zmW, zt9, false, zeB fuel⟩
theorem zHl (fuel : Nat) : FnSpec Tryz.prog 62 (zmX fuel) :=
  fn_spec (T := zt8 fuel) (c := bodyOf Tryz.f62) (fn := Tryz.f62) (TabOK.of (entCons (ztz fuel) (entCons (zmL fuel) (entCons (ztj fuel) (entCons (zat fuel) (entCons (zir fuel) (entCons (zt7 fuel) entNil)))))) (methNil)) mixed (by kernel_rfl) (by kernel_rfl) zHj (by kernel_rfl) (Nat.le_of_ble_eq_true (by kernel_rfl)) (rv := zuc) (by kernel_rfl) (zHk fuel)
theorem zHm (fuel : Nat) : EntryOK Tryz.prog 62 (zmX fuel).te := EntryOK.tf rfl (zHl fuel) (isFn (fn := Tryz.f62) (by kernel_rfl) (by kernel_rfl) (by kernel_rfl))
def zud (fuel : Nat) : Tab := Tab.of [(62, (zmX fuel).te)] []
abbrev zmY : Sh := (.agg (.cell (Kd.list (Kd.list I6)) 0 .nil) (.cell I6 0 .nil))
abbrev zue : Sh := (.ifc 27 (.agg (.cell (Kd.list (Kd.list I6)) 0 .nil) .nil) (.cell Kd.bool 0 .nil))
def zuf : List Norm := []
noncomputable def zug : C := irOf Tryz.prog Tryz.f233 [] zuf []
theorem zHn : lightC Tryz.prog [] Tryz.f233.ntmps zuf [] 0 (bodyOf Tryz.f233) = some (zug, 0) := by kernel_rfl
def zuh : List (Nat × Option (Nat × Bool)) := [(4, none), (5, none)]
def zmZ (fuel : Nat) (x0 : List (List Int)) (x1 : Int) : Option ((((List (List Int)) × Unit) × Unit) × (Bool × Unit)) :=
 Option.bind (zeB fuel ((x0, ()), (x1, ()), ((1 : Int), ()), ())) fun y_1 =>
 some ((((y_1.1.1, ()), ()), y_1.2.1.1, ()))
def ziy (fuel : Nat) (x : (((List (List Int)) × Unit) × (Int × Unit))) : Option ((((List (List Int)) × Unit) × Unit) × (Bool × Unit)) := zmZ fuel x.1.1 x.2.1
theorem zHo (fuel : Nat) (x : Sh.T zmY) : run (zud fuel) 0 fuel zug (env0 (svS zmY x) 0) [] (endG zuh zue) = ziy fuel x := by kernel_rfl
def zm0 (fuel : Nat) : TG := ⟨zmY, zue, false, ziy fuel⟩
theorem zHp (fuel : Nat) : FnSpecG Tryz.prog 233 (zm0 fuel) :=
  zd (T := zud fuel) (c := bodyOf Tryz.f233) (fn := Tryz.f233) (TabOK.of (entCons (zHm fuel) entNil) (methNil)) mixed (by kernel_rfl) (by kernel_rfl) zHn (by kernel_rfl) (Nat.le_of_ble_eq_true (by kernel_rfl)) (rv := zuh) (by kernel_rfl) (fun x y h => (zHo fuel x).trans h)
theorem zHq (fuel : Nat) : EntryOK Tryz.prog 233 (zm0 fuel).te := EntryOK.tg rfl (zHp fuel) (isFn (fn := Tryz.f233) (by kernel_rfl) (by kernel_rfl) (by kernel_rfl))
def zeC (fuel : Nat) : Tab := Tab.of [] []
abbrev ziz : List Pm := [{ cs := [(Kd.list I6, false)], ag := true }]
abbrev zeD : List Pm := [{ cs := [(Kd.bool, false)], ag := false }]
def zui : List Norm := [{ live := [13, 12, 11, 3], fix := [] }]
noncomputable def zeE : C := irOf Tryz.prog Tryz.f84 [] zui []
theorem zHr : lightC Tryz.prog [] Tryz.f84.ntmps zui [] 0 (bodyOf Tryz.f84) = some (zeE, 1) := by kernel_rfl
def zeF : List (Nat × Option (Nat × Bool)) := [(2, none)]
abbrev zbR := (Int) × (Int) × (List Int) × (Int)
def zuj (v : zbR) : Env × Heap := ([(13, SV.int .i64 v.1), (12, SV.int .i64 v.2.1), (11, SV.es I6 v.2.2.1), (3, SV.int .i64 v.2.2.2)], [])
def zeG (fuel : Nat) (g0 : zbR → Option ((Bool × Unit) × Unit)) (v : zbR) : Option ((Bool × Unit) × Unit) :=
 cond (decide (v.1 < v.2.1))
 (tst (decide (0 ≤ v.1)) <|
 tst (decide (v.1 < (zz (List.length v.2.2.1)))) <|
 cond (decide (List.getD v.2.2.1 (Int.toNat v.1) 0 ≤ v.2.2.2))
 (some (((false, ()), ())))
 (cond (decide (List.getD v.2.2.1 (Int.toNat v.1) 0 ≥ (64 : Int)))
 (some (((false, ()), ())))
 (g0 (w64 (v.1 + (1 : Int)), v.2.1, v.2.2.1, List.getD v.2.2.1 (Int.toNat v.1) 0))))
 (some (((true, ()), ())))
def ziA (fuel : Nat) (g0 : zbR → Option ((Bool × Unit) × Unit)) : zbR → Option ((Bool × Unit) × Unit) := zeG fuel g0
theorem zHs (fuel : Nat) (G) : zeE.lp (zeC fuel) 0 fuel G (endF zeF zeD) 0 zuj = iter (ziA fuel) fuel := C.lp_iter fun g v => by kernel_rfl
def ziB (fuel : Nat) (X0 : zbR → Option ((Bool × Unit) × Unit)) (x0 : List Int) : Option ((Bool × Unit) × Unit) :=
 cond (decide ((zz (List.length x0)) > (6 : Int)))
 (some (((false, ()), ())))
 (X0 ((0 : Int), (zz (List.length x0)), x0, (-1 : Int)))
def zeH (fuel : Nat) (x : (((List Int) × Unit) × Unit)) : Option ((Bool × Unit) × Unit) := ziB fuel (iter (ziA fuel) fuel) x.1.1
theorem zHt (fuel : Nat) (x : PsT ziz) : run (zeC fuel) 0 fuel zeE (env0 (svPs ziz x) 0) [] (endF zeF zeD) = zeH fuel x :=
  (show run (zeC fuel) 0 fuel zeE (env0 (svPs ziz x) 0) [] (endF zeF zeD) = ziB fuel (zeE.lp (zeC fuel) 0 fuel (fun _ _ _ => none) (endF zeF zeD) 0 zuj) x.1.1 by kernel_rfl).trans (by rw [zHs]; rfl)
def ziC (fuel : Nat) : TF := ⟨ziz, zeD, true, zeH fuel⟩
theorem zHu (fuel : Nat) : FnSpec Tryz.prog 84 (ziC fuel) :=
  fn_spec (T := zeC fuel) (c := bodyOf Tryz.f84) (fn := Tryz.f84) (TabOK.of (entNil) (methNil)) mixed (by kernel_rfl) (by kernel_rfl) zHr (by kernel_rfl) (Nat.le_of_ble_eq_true (by kernel_rfl)) (rv := zeF) (by kernel_rfl) (zHt fuel)
theorem zuk (fuel : Nat) : EntryOK Tryz.prog 84 (ziC fuel).te := EntryOK.tf rfl (zHu fuel) (isFn (fn := Tryz.f84) (by kernel_rfl) (by kernel_rfl) (by kernel_rfl))
def zul (fuel : Nat) : Tab := Tab.of [(86, (zQ fuel).te)] []
abbrev zm1 : List Pm := [{ cs := [(I6, false)], ag := false }]
abbrev zum : List Pm := [{ cs := [(I6, false)], ag := false }]
def zun : List Norm := []
noncomputable def zuo : C := irOf Tryz.prog Tryz.f93 [] zun []
theorem zHv : lightC Tryz.prog [] Tryz.f93.ntmps zun [] 0 (bodyOf Tryz.f93) = some (zuo, 0) := by kernel_rfl
def zup : List (Nat × Option (Nat × Bool)) := [(2, none)]
def zm2 (fuel : Nat) (x0 : Int) : Option ((Int × Unit) × Unit) :=
 Option.bind (zo fuel ((x0, ()), ())) fun y_1 =>
 cond (!y_1.1.1)
 (some ((((-1 : Int), ()), ())))
 (some (((Int.tmod (w64 (w64 ((37 : Int) * x0) + (11 : Int))) (64 : Int), ()), ())))
def ziD (fuel : Nat) (x : ((Int × Unit) × Unit)) : Option ((Int × Unit) × Unit) := zm2 fuel x.1.1
theorem zHw (fuel : Nat) (x : PsT zm1) : run (zul fuel) 0 fuel zuo (env0 (svPs zm1 x) 0) [] (endF zup zum) = ziD fuel x := by kernel_rfl
def zm3 (fuel : Nat) : TF := ⟨zm1, zum, true, ziD fuel⟩
theorem zHx (fuel : Nat) : FnSpec Tryz.prog 93 (zm3 fuel) :=
  fn_spec (T := zul fuel) (c := bodyOf Tryz.f93) (fn := Tryz.f93) (TabOK.of (entCons (zat fuel) entNil) (methNil)) mixed (by kernel_rfl) (by kernel_rfl) zHv (by kernel_rfl) (Nat.le_of_ble_eq_true (by kernel_rfl)) (rv := zup) (by kernel_rfl) (zHw fuel)
theorem zHy (fuel : Nat) : EntryOK Tryz.prog 93 (zm3 fuel).te := EntryOK.tf rfl (zHx fuel) (isFn (fn := Tryz.f93) (by kernel_rfl) (by kernel_rfl) (by kernel_rfl))
def zuq (fuel : Nat) : Tab := Tab.of [(84, (ziC fuel).te), (86, (zQ fuel).te), (93, (zm3 fuel).te), (113, (zlO fuel).te)] []
abbrev zm4 : List Pm := [{ cs := [(Kd.list I6, false)], ag := true }, { cs := [(I6, false)], ag := false }]
abbrev zur : List Pm := [{ cs := [(Kd.list I6, true)], ag := true }, { cs := [(Kd.bool, false)], ag := false }]
def zus : List Norm := []
noncomputable def zut : C := irOf Tryz.prog Tryz.f63 [] zus []
theorem zHz : lightC Tryz.prog [] Tryz.f63.ntmps zus [] 0 (bodyOf Tryz.f63) = some (zut, 0) := by kernel_rfl
def zuu : List (Nat × Option (Nat × Bool)) := [(4, some (1, true)), (5, none)]
def zm5 (fuel : Nat) (x0 : List Int) (x1 : Int) : Option (((List Int) × Unit) × ((Bool × Unit) × Unit)) :=
 Option.bind (zeH fuel ((x0, ()), ())) fun y_1 =>
 cond (!y_1.1.1)
 (some ((([], ()), (false, ()), ())))
 (Option.bind (zo fuel ((x1, ()), ())) fun y_3 =>
 cond (!y_3.1.1)
 (some ((([], ()), (false, ()), ())))
 (Option.bind (ziD fuel ((x1, ()), ())) fun y_5 =>
 Option.bind (zlN fuel ((x0, ()), ([y_5.1.1], ()), ())) fun y_6 =>
 some (((y_6.1.1, ()), (true, ()), ()))))
def zeI (fuel : Nat) (x : (((List Int) × Unit) × ((Int × Unit) × Unit))) : Option (((List Int) × Unit) × ((Bool × Unit) × Unit)) := zm5 fuel x.1.1 x.2.1.1
theorem zHA (fuel : Nat) (x : PsT zm4) : run (zuq fuel) 0 fuel zut (env0 (svPs zm4 x) 0) [] (endF zuu zur) = zeI fuel x := by kernel_rfl
def ziE (fuel : Nat) : TF := ⟨zm4, zur, true, zeI fuel⟩
theorem zHB (fuel : Nat) : FnSpec Tryz.prog 63 (ziE fuel) :=
  fn_spec (T := zuq fuel) (c := bodyOf Tryz.f63) (fn := Tryz.f63) (TabOK.of (entCons (zuk fuel) (entCons (zat fuel) (entCons (zHy fuel) (entCons (zEF fuel) entNil)))) (methNil)) mixed (by kernel_rfl) (by kernel_rfl) zHz (by kernel_rfl) (Nat.le_of_ble_eq_true (by kernel_rfl)) (rv := zuu) (by kernel_rfl) (zHA fuel)
theorem zuv (fuel : Nat) : EntryOK Tryz.prog 63 (ziE fuel).te := EntryOK.tf rfl (zHB fuel) (isFn (fn := Tryz.f63) (by kernel_rfl) (by kernel_rfl) (by kernel_rfl))
def zuw (fuel : Nat) : Tab := Tab.of [(63, (ziE fuel).te)] []
abbrev zm6 : Sh := (.agg (.cell (Kd.list I6) 0 .nil) (.cell I6 0 .nil))
abbrev zux : Sh := (.ifc 29 (.agg (.cell (Kd.list I6) 0 .nil) .nil) (.cell Kd.bool 0 .nil))
def zuy : List Norm := []
noncomputable def zuz : C := irOf Tryz.prog Tryz.f235 [] zuy []
theorem zHC : lightC Tryz.prog [] Tryz.f235.ntmps zuy [] 0 (bodyOf Tryz.f235) = some (zuz, 0) := by kernel_rfl
def zuA : List (Nat × Option (Nat × Bool)) := [(4, none), (5, none)]
def zHD (fuel : Nat) (x0 : List Int) (x1 : Int) : Option ((((List Int) × Unit) × Unit) × (Bool × Unit)) :=
 Option.bind (zeI fuel ((x0, ()), (x1, ()), ())) fun y_1 =>
 some ((((y_1.1.1, ()), ()), y_1.2.1.1, ()))
def zm7 (fuel : Nat) (x : (((List Int) × Unit) × (Int × Unit))) : Option ((((List Int) × Unit) × Unit) × (Bool × Unit)) := zHD fuel x.1.1 x.2.1
theorem zHE (fuel : Nat) (x : Sh.T zm6) : run (zuw fuel) 0 fuel zuz (env0 (svS zm6 x) 0) [] (endG zuA zux) = zm7 fuel x := by kernel_rfl
def zm8 (fuel : Nat) : TG := ⟨zm6, zux, false, zm7 fuel⟩
theorem zHF (fuel : Nat) : FnSpecG Tryz.prog 235 (zm8 fuel) :=
  zd (T := zuw fuel) (c := bodyOf Tryz.f235) (fn := Tryz.f235) (TabOK.of (entCons (zuv fuel) entNil) (methNil)) mixed (by kernel_rfl) (by kernel_rfl) zHC (by kernel_rfl) (Nat.le_of_ble_eq_true (by kernel_rfl)) (rv := zuA) (by kernel_rfl) (fun x y h => (zHE fuel x).trans h)
theorem zHG (fuel : Nat) : EntryOK Tryz.prog 235 (zm8 fuel).te := EntryOK.tg rfl (zHF fuel) (isFn (fn := Tryz.f235) (by kernel_rfl) (by kernel_rfl) (by kernel_rfl))
def zeJ (fuel : Nat) : Tab := Tab.of [] []
abbrev ziF : List Pm := [{ cs := [(Kd.list KP, false), (I6, false), (I6, false)], ag := true }]
abbrev zeK : List Pm := [{ cs := [(Kd.bool, false)], ag := false }]
def zuB : List Norm := [{ live := [37, 36, 35, 4, 3, 1], fix := [] }]
noncomputable def zeL : C := irOf Tryz.prog Tryz.f85 [] zuB []
theorem zHH : lightC Tryz.prog [] Tryz.f85.ntmps zuB [] 0 (bodyOf Tryz.f85) = some (zeL, 1) := by kernel_rfl
def zeM : List (Nat × Option (Nat × Bool)) := [(2, none)]
abbrev zbS := (Int) × (Int) × LP × (Int) × (Int) × LP × (Int) × (Int)
def zuC (v : zbS) : Env × Heap := ([(37, SV.int .i64 v.1), (36, SV.int .i64 v.2.1), (35, SV.es KP v.2.2.1), (4, SV.int .i64 v.2.2.2.1), (3, SV.int .i64 v.2.2.2.2.1), (1, SV.ptr 0 0)], [Blk.cells [SV.es KP v.2.2.2.2.2.1, SV.int .i64 v.2.2.2.2.2.2.1, SV.int .i64 v.2.2.2.2.2.2.2] 0 3])
def zeN (fuel : Nat) (g0 : zbS → Option ((Bool × Unit) × Unit)) (v : zbS) : Option ((Bool × Unit) × Unit) :=
 cond (decide (v.1 < v.2.1))
 (tst (decide (0 ≤ v.1)) <|
 tst (decide (v.1 < (zz (List.length v.2.2.1)))) <|
 cond (decide ((List.getD v.2.2.1 (Int.toNat v.1) (0, (0, ()))).1 ≤ v.2.2.2.1))
 (some (((false, ()), ())))
 (cond (decide ((List.getD v.2.2.1 (Int.toNat v.1) (0, (0, ()))).1 ≥ (64 : Int)))
 (some (((false, ()), ())))
 (cond (decide ((List.getD v.2.2.1 (Int.toNat v.1) (0, (0, ()))).2.1 < (1 : Int)))
 (some (((false, ()), ())))
 (cond (decide ((List.getD v.2.2.1 (Int.toNat v.1) (0, (0, ()))).2.1 > (2000 : Int)))
 (some (((false, ()), ())))
 (g0 (w64 (v.1 + (1 : Int)), v.2.1, v.2.2.1, (List.getD v.2.2.1 (Int.toNat v.1) (0, (0, ()))).1, w64 (v.2.2.2.2.1 + (List.getD v.2.2.1 (Int.toNat v.1) (0, (0, ()))).2.1), v.2.2.2.2.2.1, v.2.2.2.2.2.2.1, v.2.2.2.2.2.2.2))))))
 (some (((decide (v.2.2.2.2.1 ≤ v.2.2.2.2.2.2.2), ()), ())))
def ziG (fuel : Nat) (g0 : zbS → Option ((Bool × Unit) × Unit)) : zbS → Option ((Bool × Unit) × Unit) := zeN fuel g0
theorem zHI (fuel : Nat) (G) : zeL.lp (zeJ fuel) 0 fuel G (endF zeM zeK) 0 zuC = iter (ziG fuel) fuel := C.lp_iter fun g v => by kernel_rfl
def ziH (fuel : Nat) (X0 : zbS → Option ((Bool × Unit) × Unit)) (x0 : LP) (x1 : Int) (x2 : Int) : Option ((Bool × Unit) × Unit) :=
 cond (decide ((zz (List.length x0)) > (4 : Int)))
 (some (((false, ()), ())))
 (cond (decide (x1 < (0 : Int)))
 (some (((false, ()), ())))
 (cond (decide (x1 > (2000 : Int)))
 (some (((false, ()), ())))
 (cond (decide (x2 < (0 : Int)))
 (some (((false, ()), ())))
 (cond (decide (x2 > (2000 : Int)))
 (some (((false, ()), ())))
 (X0 ((0 : Int), (zz (List.length x0)), x0, (-1 : Int), w64 (x1 * (5 : Int)), x0, x1, x2))))))
def zbT (fuel : Nat) (x : ((LP × (Int × (Int × Unit))) × Unit)) : Option ((Bool × Unit) × Unit) := ziH fuel (iter (ziG fuel) fuel) x.1.1 x.1.2.1 x.1.2.2.1
theorem zHJ (fuel : Nat) (x : PsT ziF) : run (zeJ fuel) 0 fuel zeL (env0 (svPs ziF x) 0) [] (endF zeM zeK) = zbT fuel x :=
  (show run (zeJ fuel) 0 fuel zeL (env0 (svPs ziF x) 0) [] (endF zeM zeK) = ziH fuel (zeL.lp (zeJ fuel) 0 fuel (fun _ _ _ => none) (endF zeM zeK) 0 zuC) x.1.1 x.1.2.1 x.1.2.2.1 by kernel_rfl).trans (by rw [zHI]; rfl)
def zeO (fuel : Nat) : TF := ⟨ziF, zeK, true, zbT fuel⟩
theorem zHK (fuel : Nat) : FnSpec Tryz.prog 85 (zeO fuel) :=
  fn_spec (T := zeJ fuel) (c := bodyOf Tryz.f85) (fn := Tryz.f85) (TabOK.of (entNil) (methNil)) mixed (by kernel_rfl) (by kernel_rfl) zHH (by kernel_rfl) (Nat.le_of_ble_eq_true (by kernel_rfl)) (rv := zeM) (by kernel_rfl) (zHJ fuel)
theorem zm9 (fuel : Nat) : EntryOK Tryz.prog 85 (zeO fuel).te := EntryOK.tf rfl (zHK fuel) (isFn (fn := Tryz.f85) (by kernel_rfl) (by kernel_rfl) (by kernel_rfl))
def zuD (fuel : Nat) : Tab := Tab.of [] []
abbrev zna : List Pm := [{ cs := [(Kd.list KP, false)], ag := false }]
abbrev zuE : List Pm := [{ cs := [(Kd.list KP, true)], ag := false }]
def zuF : List Norm := []
noncomputable def zuG : C := irOf Tryz.prog Tryz.f182 [] zuF []
theorem zHL : lightC Tryz.prog [] Tryz.f182.ntmps zuF [] 0 (bodyOf Tryz.f182) = some (zuG, 0) := by kernel_rfl
def zuH : List (Nat × Option (Nat × Bool)) := [(2, none)]
def znb (fuel : Nat) (x0 : LP) : Option ((LP × Unit) × Unit) :=
 tst (decide (0 < List.length x0)) <|
 tst (decide (0 + List.length x0 < LIM)) <|
 some ((([] ++ x0, ()), ()))
def zbU (fuel : Nat) (x : ((LP × Unit) × Unit)) : Option ((LP × Unit) × Unit) := znb fuel x.1.1
theorem zHM (fuel : Nat) (x : PsT zna) : run (zuD fuel) 0 fuel zuG (env0 (svPs zna x) 0) [] (endF zuH zuE) = zbU fuel x := by kernel_rfl
def zeP (fuel : Nat) : TF := ⟨zna, zuE, true, zbU fuel⟩
theorem zHN (fuel : Nat) : FnSpec Tryz.prog 182 (zeP fuel) :=
  fn_spec (T := zuD fuel) (c := bodyOf Tryz.f182) (fn := Tryz.f182) (TabOK.of (entNil) (methNil)) mixed (by kernel_rfl) (by kernel_rfl) zHL (by kernel_rfl) (Nat.le_of_ble_eq_true (by kernel_rfl)) (rv := zuH) (by kernel_rfl) (zHM fuel)
theorem znc (fuel : Nat) : EntryOK Tryz.prog 182 (zeP fuel).te := EntryOK.tf rfl (zHN fuel) (isFn (fn := Tryz.f182) (by kernel_rfl) (by kernel_rfl) (by kernel_rfl))
end Go.Proofs.YtdgdoeknpakmlaaGreat.Den
namespace Go.Proofs.YtdgdoeknpakmlaaGreat.Den
open Go Go.RowKit
def zuI (fuel : Nat) : Tab := Tab.of [] []
abbrev znd : List Pm := [{ cs := [(I6, false)], ag := false }]
abbrev zuJ : List Pm := [{ cs := [(Kd.bool, false)], ag := false }]
def zuK : List Norm := []
noncomputable def zuL : C := irOf Tryz.prog Tryz.f200 [] zuK []
theorem zHO : lightC Tryz.prog [] Tryz.f200.ntmps zuK [] 0 (bodyOf Tryz.f200) = some (zuL, 0) := by kernel_rfl
def zuM : List (Nat × Option (Nat × Bool)) := [(2, none)]
def zHP (fuel : Nat) (x0 : Int) : Option ((Bool × Unit) × Unit) :=
 some (((x0 != x0, ()), ()))
def zeQ (fuel : Nat) (x : ((Int × Unit) × Unit)) : Option ((Bool × Unit) × Unit) := zHP fuel x.1.1
theorem zHQ (fuel : Nat) (x : PsT znd) : run (zuI fuel) 0 fuel zuL (env0 (svPs znd x) 0) [] (endF zuM zuJ) = zeQ fuel x := by kernel_rfl
def zne (fuel : Nat) : TF := ⟨znd, zuJ, true, zeQ fuel⟩
theorem zHR (fuel : Nat) : FnSpec Tryz.prog 200 (zne fuel) :=
  fn_spec (T := zuI fuel) (c := bodyOf Tryz.f200) (fn := Tryz.f200) (TabOK.of (entNil) (methNil)) mixed (by kernel_rfl) (by kernel_rfl) zHO (by kernel_rfl) (Nat.le_of_ble_eq_true (by kernel_rfl)) (rv := zuM) (by kernel_rfl) (zHQ fuel)
theorem zHS (fuel : Nat) : EntryOK Tryz.prog 200 (zne fuel).te := EntryOK.tf rfl (zHR fuel) (isFn (fn := Tryz.f200) (by kernel_rfl) (by kernel_rfl) (by kernel_rfl))
def zuN (fuel : Nat) : Tab := Tab.of [(200, (zne fuel).te)] []
abbrev znf : List Pm := [{ cs := [(I6, false)], ag := false }, { cs := [(I6, false)], ag := false }]
abbrev zuO : List Pm := [{ cs := [(I6, false)], ag := false }]
def zuP : List Norm := []
noncomputable def zuQ : C := irOf Tryz.prog Tryz.f197 [] zuP []
theorem zHT : lightC Tryz.prog [] Tryz.f197.ntmps zuP [] 0 (bodyOf Tryz.f197) = some (zuQ, 0) := by kernel_rfl
def zuR : List (Nat × Option (Nat × Bool)) := [(4, none)]
def zng (fuel : Nat) (x0 : Int) (x1 : Int) : Option ((Int × Unit) × Unit) :=
 Option.bind (zeQ fuel ((x0, ()), ())) fun y_1 =>
 Option.bind (zeQ fuel ((x1, ()), ())) fun y_2 =>
 cond (y_1.1.1)
 (cond (y_2.1.1)
 (some ((((0 : Int), ()), ())))
 (some ((((-1 : Int), ()), ()))))
 (cond (y_2.1.1)
 (some ((((1 : Int), ()), ())))
 (cond (decide (x0 < x1))
 (some ((((-1 : Int), ()), ())))
 (cond (decide (x0 > x1))
 (some ((((1 : Int), ()), ())))
 (some ((((0 : Int), ()), ()))))))
def zeR (fuel : Nat) (x : ((Int × Unit) × ((Int × Unit) × Unit))) : Option ((Int × Unit) × Unit) := zng fuel x.1.1 x.2.1.1
theorem zHU (fuel : Nat) (x : PsT znf) : run (zuN fuel) 0 fuel zuQ (env0 (svPs znf x) 0) [] (endF zuR zuO) = zeR fuel x := by kernel_rfl
def ziI (fuel : Nat) : TF := ⟨znf, zuO, true, zeR fuel⟩
theorem zHV (fuel : Nat) : FnSpec Tryz.prog 197 (ziI fuel) :=
  fn_spec (T := zuN fuel) (c := bodyOf Tryz.f197) (fn := Tryz.f197) (TabOK.of (entCons (zHS fuel) entNil) (methNil)) mixed (by kernel_rfl) (by kernel_rfl) zHT (by kernel_rfl) (Nat.le_of_ble_eq_true (by kernel_rfl)) (rv := zuR) (by kernel_rfl) (zHU fuel)
theorem zuS (fuel : Nat) : EntryOK Tryz.prog 197 (ziI fuel).te := EntryOK.tf rfl (zHV fuel) (isFn (fn := Tryz.f197) (by kernel_rfl) (by kernel_rfl) (by kernel_rfl))
def zuT (fuel : Nat) : Tab := Tab.of [(197, (ziI fuel).te)] []
abbrev znh : List Pm := [{ cs := [(I6, false), (I6, false)], ag := true }, { cs := [(I6, false), (I6, false)], ag := true }]
abbrev zuU : List Pm := [{ cs := [(I6, false)], ag := false }]
def zuV : List Norm := []
noncomputable def zuW : C := irOf Tryz.prog Tryz.f193 [] zuV []
theorem zHW : lightC Tryz.prog [] Tryz.f193.ntmps zuV [] 0 (bodyOf Tryz.f193) = some (zuW, 0) := by kernel_rfl
def zuX : List (Nat × Option (Nat × Bool)) := [(4, none)]
def zni (fuel : Nat) (x0 : Int) (x1 : Int) (x2 : Int) (x3 : Int) : Option ((Int × Unit) × Unit) :=
 Option.bind (zeR fuel ((x0, ()), (x2, ()), ())) fun y_1 =>
 some (((y_1.1.1, ()), ()))
def ziJ (fuel : Nat) (x : ((Int × (Int × Unit)) × ((Int × (Int × Unit)) × Unit))) : Option ((Int × Unit) × Unit) := zni fuel x.1.1 x.1.2.1 x.2.1.1 x.2.1.2.1
theorem zHX (fuel : Nat) (x : PsT znh) : run (zuT fuel) 0 fuel zuW (env0 (svPs znh x) 0) [] (endF zuX zuU) = ziJ fuel x := by kernel_rfl
def ziK (fuel : Nat) : TF := ⟨znh, zuU, true, ziJ fuel⟩
theorem zHY (fuel : Nat) : FnSpec Tryz.prog 193 (ziK fuel) :=
  fn_spec (T := zuT fuel) (c := bodyOf Tryz.f193) (fn := Tryz.f193) (TabOK.of (entCons (zuS fuel) entNil) (methNil)) mixed (by kernel_rfl) (by kernel_rfl) zHW (by kernel_rfl) (Nat.le_of_ble_eq_true (by kernel_rfl)) (rv := zuX) (by kernel_rfl) (zHX fuel)
theorem zuY (fuel : Nat) : EntryOK Tryz.prog 193 (ziK fuel).te := EntryOK.tf rfl (zHY fuel) (isFn (fn := Tryz.f193) (by kernel_rfl) (by kernel_rfl) (by kernel_rfl))
def zuZ (fuel : Nat) : Tab := Tab.of [(197, (ziI fuel).te)] []
abbrev znj : List Pm := [{ cs := [(I6, false), (I6, false)], ag := true }, { cs := [(I6, false), (I6, false)], ag := true }]
abbrev zu0 : List Pm := [{ cs := [(I6, false)], ag := false }]
def zu1 : List Norm := []
noncomputable def zu2 : C := irOf Tryz.prog Tryz.f194 [] zu1 []
theorem zHZ : lightC Tryz.prog [] Tryz.f194.ntmps zu1 [] 0 (bodyOf Tryz.f194) = some (zu2, 0) := by kernel_rfl
def zu3 : List (Nat × Option (Nat × Bool)) := [(4, none)]
def znk (fuel : Nat) (x0 : Int) (x1 : Int) (x2 : Int) (x3 : Int) : Option ((Int × Unit) × Unit) :=
 Option.bind (zeR fuel ((x3, ()), (x1, ()), ())) fun y_1 =>
 some (((y_1.1.1, ()), ()))
def ziL (fuel : Nat) (x : ((Int × (Int × Unit)) × ((Int × (Int × Unit)) × Unit))) : Option ((Int × Unit) × Unit) := znk fuel x.1.1 x.1.2.1 x.2.1.1 x.2.1.2.1
theorem zH0 (fuel : Nat) (x : PsT znj) : run (zuZ fuel) 0 fuel zu2 (env0 (svPs znj x) 0) [] (endF zu3 zu0) = ziL fuel x := by kernel_rfl
def ziM (fuel : Nat) : TF := ⟨znj, zu0, true, ziL fuel⟩
theorem zH1 (fuel : Nat) : FnSpec Tryz.prog 194 (ziM fuel) :=
  fn_spec (T := zuZ fuel) (c := bodyOf Tryz.f194) (fn := Tryz.f194) (TabOK.of (entCons (zuS fuel) entNil) (methNil)) mixed (by kernel_rfl) (by kernel_rfl) zHZ (by kernel_rfl) (Nat.le_of_ble_eq_true (by kernel_rfl)) (rv := zu3) (by kernel_rfl) (zH0 fuel)
theorem zu4 (fuel : Nat) : EntryOK Tryz.prog 194 (ziM fuel).te := EntryOK.tf rfl (zH1 fuel) (isFn (fn := Tryz.f194) (by kernel_rfl) (by kernel_rfl) (by kernel_rfl))
abbrev zk := Option (LP × Unit)
def zG (fuel : Nat) : Tab := Tab.of [(193, (ziK fuel).te), (194, (ziM fuel).te)] []
abbrev ziN : Sh := (.cell I6 0 (.cell I6 0 (.fnc 193 .nil)))
abbrev zac : List Pm := []
def zu5 : List Norm := [{ live := [8, 2, 1, 3, 0], fix := [] }, { live := [9, 1, 3, 0, 8, 2], fix := [] }]
noncomputable def zr : C := irOf Tryz.prog Tryz.f201 [] zu5 []
theorem zH2 : lightC Tryz.prog [] Tryz.f201.ntmps zu5 [] 0 (bodyOf Tryz.f201) = some (zr, 2) := by kernel_rfl
def zad : List (Nat × Option (Nat × Bool)) := []
abbrev zae := (Int) × (Int) × (Int) × LP
abbrev zbV := (Int) × (Int) × (Int) × (Int) × LP
def zU (v : zae) : Env × Heap := ([(8, SV.int .i64 v.1), (2, SV.int .i64 v.2.1), (1, SV.int .i64 v.2.2.1), (3, SV.fn (Fn.func 193) [] []), (0, SV.own 0)], [Blk.arr KP v.2.2.2 0])
def zbW (v : zbV) : Env × Heap := ([(9, SV.int .i64 v.1), (1, SV.int .i64 v.2.1), (3, SV.fn (Fn.func 193) [] []), (0, SV.own 0), (8, SV.int .i64 v.2.2.1), (2, SV.int .i64 v.2.2.2.1)], [Blk.arr KP v.2.2.2.2 0])
def zbX (fuel : Nat) (g0 : zae → zk) (g1 : zbV → zk) (v : zbV) : zk :=
 cond (decide (v.1 > v.2.1))
 (tst (decide (0 ≤ v.1)) <|
 tst (decide (v.1 < (zz (List.length v.2.2.2.2)))) <|
 tst (decide (Int.toNat v.1 < List.length v.2.2.2.2)) <|
 tst (decide (0 ≤ w64 (v.1 - (1 : Int)))) <|
 tst (decide (w64 (v.1 - (1 : Int)) < (zz (List.length v.2.2.2.2)))) <|
 tst (decide (Int.toNat (w64 (v.1 - (1 : Int))) < List.length v.2.2.2.2)) <|
 Option.bind (ziJ fuel (((List.getD v.2.2.2.2 (Int.toNat v.1) (0, (0, ()))).1, (List.getD v.2.2.2.2 (Int.toNat v.1) (0, (0, ()))).2.1, ()), ((List.getD v.2.2.2.2 (Int.toNat (w64 (v.1 - (1 : Int)))) (0, (0, ()))).1, (List.getD v.2.2.2.2 (Int.toNat (w64 (v.1 - (1 : Int)))) (0, (0, ()))).2.1, ()), ())) fun y_2 =>
 cond (decide (y_2.1.1 < (0 : Int)))
 (tst (decide (0 ≤ w64 (v.1 - (1 : Int)))) <|
 tst (decide (w64 (v.1 - (1 : Int)) < (zz (List.length v.2.2.2.2)))) <|
 tst (decide (Int.toNat (w64 (v.1 - (1 : Int))) < List.length v.2.2.2.2)) <|
 tst (decide (0 ≤ v.1)) <|
 tst (decide (v.1 < (zz (List.length v.2.2.2.2)))) <|
 tst (decide (Int.toNat v.1 < List.length v.2.2.2.2)) <|
 tst (decide (0 ≤ v.1)) <|
 tst (decide (v.1 < (zz (List.length v.2.2.2.2)))) <|
 tst (decide (Int.toNat v.1 < List.length v.2.2.2.2)) <|
 tst (decide (0 ≤ w64 (v.1 - (1 : Int)))) <|
 tst (decide (w64 (v.1 - (1 : Int)) < (zz (List.length (List.set v.2.2.2.2 (Int.toNat v.1) ((List.getD v.2.2.2.2 (Int.toNat (w64 (v.1 - (1 : Int)))) (0, (0, ()))).1, (List.getD v.2.2.2.2 (Int.toNat (w64 (v.1 - (1 : Int)))) (0, (0, ()))).2.1, ())))))) <|
 tst (decide (Int.toNat (w64 (v.1 - (1 : Int))) < List.length (List.set v.2.2.2.2 (Int.toNat v.1) ((List.getD v.2.2.2.2 (Int.toNat (w64 (v.1 - (1 : Int)))) (0, (0, ()))).1, (List.getD v.2.2.2.2 (Int.toNat (w64 (v.1 - (1 : Int)))) (0, (0, ()))).2.1, ())))) <|
 g1 (w64 (v.1 - (1 : Int)), v.2.1, v.2.2.1, v.2.2.2.1, List.set (List.set v.2.2.2.2 (Int.toNat v.1) ((List.getD v.2.2.2.2 (Int.toNat (w64 (v.1 - (1 : Int)))) (0, (0, ()))).1, (List.getD v.2.2.2.2 (Int.toNat (w64 (v.1 - (1 : Int)))) (0, (0, ()))).2.1, ())) (Int.toNat (w64 (v.1 - (1 : Int)))) ((List.getD v.2.2.2.2 (Int.toNat v.1) (0, (0, ()))).1, (List.getD v.2.2.2.2 (Int.toNat v.1) (0, (0, ()))).2.1, ())))
 (g0 (w64 (v.2.2.1 + (1 : Int)), v.2.2.2.1, v.2.1, v.2.2.2.2)))
 (g0 (w64 (v.2.2.1 + (1 : Int)), v.2.2.2.1, v.2.1, v.2.2.2.2))
def znl (fuel : Nat) (g0 : zae → zk) (g1 : zbV → zk) : zbV → zk := zbX fuel g0 g1
theorem zH3 (fuel : Nat) (G) : zr.lp (zG fuel) 1 fuel G (endS zad KP false zac) 1 zbW = iter (znl fuel (fun v => G 0 (zU v).1 (zU v).2)) fuel := C.lp_iter fun g v =>
  (show run (zG fuel) 1 fuel (zr.bdAt 1) (zbW v).1 (zbW v).2 (loopK 1 (zr.nmAt 1) g (zr.contAt (zG fuel) 1 fuel G 0 1 (endS zad KP false zac))) = zbX fuel (fun v => G 0 (zU v).1 (zU v).2) (fun v => g (zbW v).1 (zbW v).2) v by kernel_rfl)
def zax (fuel : Nat) (X1 : zbV → zk) (g0 : zae → zk) (v : zae) : zk :=
 cond (decide (v.1 < v.2.1))
 (X1 (v.1, v.2.2.1, v.1, v.2.1, v.2.2.2))
 (some ((v.2.2.2, ())))
def ziO (fuel : Nat) (g0 : zae → zk) : zae → zk := zax fuel (iter (znl fuel g0) fuel) g0
theorem zH4 (fuel : Nat) (G) : zr.lp (zG fuel) 1 fuel G (endS zad KP false zac) 0 zU = iter (ziO fuel) fuel := C.lp_iter fun g v =>
  (show run (zG fuel) 1 fuel (zr.bdAt 0) (zU v).1 (zU v).2 (loopK 1 (zr.nmAt 0) g (zr.contAt (zG fuel) 1 fuel G 0 0 (endS zad KP false zac))) = zax fuel (zr.lp (zG fuel) 1 fuel (fun m => bif Nat.beq m 0 then g else G m) (endS zad KP false zac) 1 zbW) (fun v => g (zU v).1 (zU v).2) v by kernel_rfl).trans (by rw [zH3]; rfl)
def zu6 (fuel : Nat) (X0 : zae → zk) (d0 : LP) (x0 : Int) (x1 : Int) : zk :=
 X0 (w64 (x0 + (1 : Int)), x1, x0, d0)
def zeS (fuel : Nat) (z : LP × Unit × (Int × (Int × Unit))) : zk := zu6 fuel (iter (ziO fuel) fuel) z.1 z.2.2.1 z.2.2.2.1
theorem zH5 (fuel : Nat) (c : List (Kd.T KP)) (d : CsT []) (x : Sh.T ziN) : run (zG fuel) 1 fuel zr ((0, firstV false 0 (svCs [] d)) :: env0 (svS ziN x) 1) [.arr KP c 0] (endS zad KP false zac) = zeS fuel (c, d, x) :=
  (show run (zG fuel) 1 fuel zr ((0, firstV false 0 (svCs [] d)) :: env0 (svS ziN x) 1) [.arr KP c 0] (endS zad KP false zac) = zu6 fuel (zr.lp (zG fuel) 1 fuel (fun _ _ _ => none) (endS zad KP false zac) 0 zU) c x.1 x.2.1 by kernel_rfl).trans (by rw [zH4]; rfl)
def ziP (fuel : Nat) : TFT := ⟨KP, false, [], ziN, zac, false, zeS fuel⟩
theorem zH6 (fuel : Nat) : FnSpecT Tryz.prog 201 (ziP fuel) :=
  zaM (T := zG fuel) (c := bodyOf Tryz.f201) (fn := Tryz.f201) (TabOK.of (entCons (zuY fuel) (entCons (zu4 fuel) entNil)) (methNil)) mixed (by kernel_rfl) (by kernel_rfl) zH2 (by kernel_rfl) (Nat.le_of_ble_eq_true (by kernel_rfl)) (rv := zad) (by kernel_rfl) (zH5 fuel)
theorem zu7 (fuel : Nat) : EntryOK Tryz.prog 201 (ziP fuel).te := EntryOK.tft (zH6 fuel) (isFn (fn := Tryz.f201) (by kernel_rfl) (by kernel_rfl) (by kernel_rfl))
abbrev zl := Option (LP × Unit)
def zH (fuel : Nat) : Tab := Tab.of [(193, (ziK fuel).te), (194, (ziM fuel).te)] []
abbrev ziQ : Sh := (.cell I6 0 (.cell I6 0 (.fnc 194 .nil)))
abbrev zaf : List Pm := []
def zu8 : List Norm := [{ live := [8, 2, 1, 3, 0], fix := [] }, { live := [9, 1, 3, 0, 8, 2], fix := [] }]
noncomputable def zt : C := irOf Tryz.prog Tryz.f201 [] zu8 []
theorem zH7 : lightC Tryz.prog [] Tryz.f201.ntmps zu8 [] 0 (bodyOf Tryz.f201) = some (zt, 2) := by kernel_rfl
def zag : List (Nat × Option (Nat × Bool)) := []
abbrev zah := (Int) × (Int) × (Int) × LP
abbrev zbY := (Int) × (Int) × (Int) × (Int) × LP
def zV (v : zah) : Env × Heap := ([(8, SV.int .i64 v.1), (2, SV.int .i64 v.2.1), (1, SV.int .i64 v.2.2.1), (3, SV.fn (Fn.func 194) [] []), (0, SV.own 0)], [Blk.arr KP v.2.2.2 0])
def zbZ (v : zbY) : Env × Heap := ([(9, SV.int .i64 v.1), (1, SV.int .i64 v.2.1), (3, SV.fn (Fn.func 194) [] []), (0, SV.own 0), (8, SV.int .i64 v.2.2.1), (2, SV.int .i64 v.2.2.2.1)], [Blk.arr KP v.2.2.2.2 0])
def zb0 (fuel : Nat) (g0 : zah → zl) (g1 : zbY → zl) (v : zbY) : zl :=
 cond (decide (v.1 > v.2.1))
 (tst (decide (0 ≤ v.1)) <|
 tst (decide (v.1 < (zz (List.length v.2.2.2.2)))) <|
 tst (decide (Int.toNat v.1 < List.length v.2.2.2.2)) <|
 tst (decide (0 ≤ w64 (v.1 - (1 : Int)))) <|
 tst (decide (w64 (v.1 - (1 : Int)) < (zz (List.length v.2.2.2.2)))) <|
 tst (decide (Int.toNat (w64 (v.1 - (1 : Int))) < List.length v.2.2.2.2)) <|
 Option.bind (ziL fuel (((List.getD v.2.2.2.2 (Int.toNat v.1) (0, (0, ()))).1, (List.getD v.2.2.2.2 (Int.toNat v.1) (0, (0, ()))).2.1, ()), ((List.getD v.2.2.2.2 (Int.toNat (w64 (v.1 - (1 : Int)))) (0, (0, ()))).1, (List.getD v.2.2.2.2 (Int.toNat (w64 (v.1 - (1 : Int)))) (0, (0, ()))).2.1, ()), ())) fun y_2 =>
 cond (decide (y_2.1.1 < (0 : Int)))
 (tst (decide (0 ≤ w64 (v.1 - (1 : Int)))) <|
 tst (decide (w64 (v.1 - (1 : Int)) < (zz (List.length v.2.2.2.2)))) <|
 tst (decide (Int.toNat (w64 (v.1 - (1 : Int))) < List.length v.2.2.2.2)) <|
 tst (decide (0 ≤ v.1)) <|
 tst (decide (v.1 < (zz (List.length v.2.2.2.2)))) <|
 tst (decide (Int.toNat v.1 < List.length v.2.2.2.2)) <|
 tst (decide (0 ≤ v.1)) <|
 tst (decide (v.1 < (zz (List.length v.2.2.2.2)))) <|
 tst (decide (Int.toNat v.1 < List.length v.2.2.2.2)) <|
 tst (decide (0 ≤ w64 (v.1 - (1 : Int)))) <|
 tst (decide (w64 (v.1 - (1 : Int)) < (zz (List.length (List.set v.2.2.2.2 (Int.toNat v.1) ((List.getD v.2.2.2.2 (Int.toNat (w64 (v.1 - (1 : Int)))) (0, (0, ()))).1, (List.getD v.2.2.2.2 (Int.toNat (w64 (v.1 - (1 : Int)))) (0, (0, ()))).2.1, ())))))) <|
 tst (decide (Int.toNat (w64 (v.1 - (1 : Int))) < List.length (List.set v.2.2.2.2 (Int.toNat v.1) ((List.getD v.2.2.2.2 (Int.toNat (w64 (v.1 - (1 : Int)))) (0, (0, ()))).1, (List.getD v.2.2.2.2 (Int.toNat (w64 (v.1 - (1 : Int)))) (0, (0, ()))).2.1, ())))) <|
 g1 (w64 (v.1 - (1 : Int)), v.2.1, v.2.2.1, v.2.2.2.1, List.set (List.set v.2.2.2.2 (Int.toNat v.1) ((List.getD v.2.2.2.2 (Int.toNat (w64 (v.1 - (1 : Int)))) (0, (0, ()))).1, (List.getD v.2.2.2.2 (Int.toNat (w64 (v.1 - (1 : Int)))) (0, (0, ()))).2.1, ())) (Int.toNat (w64 (v.1 - (1 : Int)))) ((List.getD v.2.2.2.2 (Int.toNat v.1) (0, (0, ()))).1, (List.getD v.2.2.2.2 (Int.toNat v.1) (0, (0, ()))).2.1, ())))
 (g0 (w64 (v.2.2.1 + (1 : Int)), v.2.2.2.1, v.2.1, v.2.2.2.2)))
 (g0 (w64 (v.2.2.1 + (1 : Int)), v.2.2.2.1, v.2.1, v.2.2.2.2))
def znm (fuel : Nat) (g0 : zah → zl) (g1 : zbY → zl) : zbY → zl := zb0 fuel g0 g1
theorem zH8 (fuel : Nat) (G) : zt.lp (zH fuel) 1 fuel G (endS zag KP false zaf) 1 zbZ = iter (znm fuel (fun v => G 0 (zV v).1 (zV v).2)) fuel := C.lp_iter fun g v =>
  (show run (zH fuel) 1 fuel (zt.bdAt 1) (zbZ v).1 (zbZ v).2 (loopK 1 (zt.nmAt 1) g (zt.contAt (zH fuel) 1 fuel G 0 1 (endS zag KP false zaf))) = zb0 fuel (fun v => G 0 (zV v).1 (zV v).2) (fun v => g (zbZ v).1 (zbZ v).2) v by kernel_rfl)
def zay (fuel : Nat) (X1 : zbY → zl) (g0 : zah → zl) (v : zah) : zl :=
 cond (decide (v.1 < v.2.1))
 (X1 (v.1, v.2.2.1, v.1, v.2.1, v.2.2.2))
 (some ((v.2.2.2, ())))
def ziR (fuel : Nat) (g0 : zah → zl) : zah → zl := zay fuel (iter (znm fuel g0) fuel) g0
theorem zH9 (fuel : Nat) (G) : zt.lp (zH fuel) 1 fuel G (endS zag KP false zaf) 0 zV = iter (ziR fuel) fuel := C.lp_iter fun g v =>
  (show run (zH fuel) 1 fuel (zt.bdAt 0) (zV v).1 (zV v).2 (loopK 1 (zt.nmAt 0) g (zt.contAt (zH fuel) 1 fuel G 0 0 (endS zag KP false zaf))) = zay fuel (zt.lp (zH fuel) 1 fuel (fun m => bif Nat.beq m 0 then g else G m) (endS zag KP false zaf) 1 zbZ) (fun v => g (zV v).1 (zV v).2) v by kernel_rfl).trans (by rw [zH8]; rfl)
def zu9 (fuel : Nat) (X0 : zah → zl) (d0 : LP) (x0 : Int) (x1 : Int) : zl :=
 X0 (w64 (x0 + (1 : Int)), x1, x0, d0)
def zeT (fuel : Nat) (z : LP × Unit × (Int × (Int × Unit))) : zl := zu9 fuel (iter (ziR fuel) fuel) z.1 z.2.2.1 z.2.2.2.1
theorem zIa (fuel : Nat) (c : List (Kd.T KP)) (d : CsT []) (x : Sh.T ziQ) : run (zH fuel) 1 fuel zt ((0, firstV false 0 (svCs [] d)) :: env0 (svS ziQ x) 1) [.arr KP c 0] (endS zag KP false zaf) = zeT fuel (c, d, x) :=
  (show run (zH fuel) 1 fuel zt ((0, firstV false 0 (svCs [] d)) :: env0 (svS ziQ x) 1) [.arr KP c 0] (endS zag KP false zaf) = zu9 fuel (zt.lp (zH fuel) 1 fuel (fun _ _ _ => none) (endS zag KP false zaf) 0 zV) c x.1 x.2.1 by kernel_rfl).trans (by rw [zH9]; rfl)
def ziS (fuel : Nat) : TFT := ⟨KP, false, [], ziQ, zaf, false, zeT fuel⟩
theorem zIb (fuel : Nat) : FnSpecT Tryz.prog 201 (ziS fuel) :=
  zaM (T := zH fuel) (c := bodyOf Tryz.f201) (fn := Tryz.f201) (TabOK.of (entCons (zuY fuel) (entCons (zu4 fuel) entNil)) (methNil)) mixed (by kernel_rfl) (by kernel_rfl) zH7 (by kernel_rfl) (Nat.le_of_ble_eq_true (by kernel_rfl)) (rv := zag) (by kernel_rfl) (zIa fuel)
theorem zva (fuel : Nat) : EntryOK Tryz.prog 201 (ziS fuel).te := EntryOK.tft (zIb fuel) (isFn (fn := Tryz.f201) (by kernel_rfl) (by kernel_rfl) (by kernel_rfl))
abbrev zaX := Option (LP × Unit)
def zeU (fuel : Nat) : Tab := Tab.of [(201, (ziP fuel).te), (201, (ziS fuel).te)] []
abbrev ziT : Sh := (.cell I6 0 (.cell I6 0 (.cell I6 0 (.fnc 193 .nil))))
abbrev zeV : List Pm := []
def zvb : List Norm := [{ live := [2, 1, 0, 4, 3, 10, 11], fix := [] }]
noncomputable def zeW : C := irOf Tryz.prog Tryz.f198 [] zvb []
theorem zIc : lightC Tryz.prog [] Tryz.f198.ntmps zvb [] 0 (bodyOf Tryz.f198) = some (zeW, 1) := by kernel_rfl
def zeX : List (Nat × Option (Nat × Bool)) := []
abbrev zb1 := (Int) × (Int) × (Int) × (Bool) × (Bool) × LP
def zvc (v : zb1) : Env × Heap := ([(2, SV.int .i64 v.1), (1, SV.int .i64 v.2.1), (0, SV.own 0), (4, SV.fn (Fn.func 193) [] []), (3, SV.int .i64 v.2.2.1), (10, SV.bool v.2.2.2.1), (11, SV.bool v.2.2.2.2.1)], [Blk.arr KP v.2.2.2.2.2 0])
def znn (fuel : Nat) (g0 : zb1 → zaX) (v : zb1) : zaX :=
 cond (decide (w64 (v.1 - v.2.1) ≤ (12 : Int)))
 (Option.bind (zeS fuel (v.2.2.2.2.2, (), v.2.1, v.1, ())) fun y_2 =>
 some ((y_2.1, ())))
 (cond (v.2.2.1 == (0 : Int))
 (none)
 (cond (!v.2.2.2.1)
 (none)
 (none)))
def zno (fuel : Nat) (g0 : zb1 → zaX) : zb1 → zaX := znn fuel g0
theorem zId (fuel : Nat) (G) : zeW.lp (zeU fuel) 1 fuel G (endS zeX KP false zeV) 0 zvc = iter (zno fuel) fuel := C.lp_iter fun g v => by kernel_rfl
def zvd (fuel : Nat) (X0 : zb1 → zaX) (d0 : LP) (x0 : Int) (x1 : Int) (x2 : Int) : zaX :=
 X0 (x1, x0, x2, true, true, d0)
def ziU (fuel : Nat) (z : LP × Unit × (Int × (Int × (Int × Unit)))) : zaX := zvd fuel (iter (zno fuel) fuel) z.1 z.2.2.1 z.2.2.2.1 z.2.2.2.2.1
theorem zIe (fuel : Nat) (c : List (Kd.T KP)) (d : CsT []) (x : Sh.T ziT) : run (zeU fuel) 1 fuel zeW ((0, firstV false 0 (svCs [] d)) :: env0 (svS ziT x) 1) [.arr KP c 0] (endS zeX KP false zeV) = ziU fuel (c, d, x) :=
  (show run (zeU fuel) 1 fuel zeW ((0, firstV false 0 (svCs [] d)) :: env0 (svS ziT x) 1) [.arr KP c 0] (endS zeX KP false zeV) = zvd fuel (zeW.lp (zeU fuel) 1 fuel (fun _ _ _ => none) (endS zeX KP false zeV) 0 zvc) c x.1 x.2.1 x.2.2.1 by kernel_rfl).trans (by rw [zId]; rfl)
def ziV (fuel : Nat) : TFT := ⟨KP, false, [], ziT, zeV, false, ziU fuel⟩
theorem zIf (fuel : Nat) : FnSpecT Tryz.prog 198 (ziV fuel) :=
  zaM (T := zeU fuel) (c := bodyOf Tryz.f198) (fn := Tryz.f198) (TabOK.of (entCons (zu7 fuel) (entCons (zva fuel) entNil)) (methNil)) mixed (by kernel_rfl) (by kernel_rfl) zIc (by kernel_rfl) (Nat.le_of_ble_eq_true (by kernel_rfl)) (rv := zeX) (by kernel_rfl) (zIe fuel)
theorem zve (fuel : Nat) : EntryOK Tryz.prog 198 (ziV fuel).te := EntryOK.tft (zIf fuel) (isFn (fn := Tryz.f198) (by kernel_rfl) (by kernel_rfl) (by kernel_rfl))
abbrev zaY := Option (LP × Unit)
def zeY (fuel : Nat) : Tab := Tab.of [(201, (ziP fuel).te), (201, (ziS fuel).te)] []
abbrev ziW : Sh := (.cell I6 0 (.cell I6 0 (.cell I6 0 (.fnc 194 .nil))))
abbrev zeZ : List Pm := []
def zvf : List Norm := [{ live := [2, 1, 0, 4, 3, 10, 11], fix := [] }]
noncomputable def ze0 : C := irOf Tryz.prog Tryz.f198 [] zvf []
theorem zIg : lightC Tryz.prog [] Tryz.f198.ntmps zvf [] 0 (bodyOf Tryz.f198) = some (ze0, 1) := by kernel_rfl
def ze1 : List (Nat × Option (Nat × Bool)) := []
abbrev zb2 := (Int) × (Int) × (Int) × (Bool) × (Bool) × LP
def zvg (v : zb2) : Env × Heap := ([(2, SV.int .i64 v.1), (1, SV.int .i64 v.2.1), (0, SV.own 0), (4, SV.fn (Fn.func 194) [] []), (3, SV.int .i64 v.2.2.1), (10, SV.bool v.2.2.2.1), (11, SV.bool v.2.2.2.2.1)], [Blk.arr KP v.2.2.2.2.2 0])
def znp (fuel : Nat) (g0 : zb2 → zaY) (v : zb2) : zaY :=
 cond (decide (w64 (v.1 - v.2.1) ≤ (12 : Int)))
 (Option.bind (zeT fuel (v.2.2.2.2.2, (), v.2.1, v.1, ())) fun y_2 =>
 some ((y_2.1, ())))
 (cond (v.2.2.1 == (0 : Int))
 (none)
 (cond (!v.2.2.2.1)
 (none)
 (none)))
def znq (fuel : Nat) (g0 : zb2 → zaY) : zb2 → zaY := znp fuel g0
theorem zIh (fuel : Nat) (G) : ze0.lp (zeY fuel) 1 fuel G (endS ze1 KP false zeZ) 0 zvg = iter (znq fuel) fuel := C.lp_iter fun g v => by kernel_rfl
def zvh (fuel : Nat) (X0 : zb2 → zaY) (d0 : LP) (x0 : Int) (x1 : Int) (x2 : Int) : zaY :=
 X0 (x1, x0, x2, true, true, d0)
def ziX (fuel : Nat) (z : LP × Unit × (Int × (Int × (Int × Unit)))) : zaY := zvh fuel (iter (znq fuel) fuel) z.1 z.2.2.1 z.2.2.2.1 z.2.2.2.2.1
theorem zIi (fuel : Nat) (c : List (Kd.T KP)) (d : CsT []) (x : Sh.T ziW) : run (zeY fuel) 1 fuel ze0 ((0, firstV false 0 (svCs [] d)) :: env0 (svS ziW x) 1) [.arr KP c 0] (endS ze1 KP false zeZ) = ziX fuel (c, d, x) :=
  (show run (zeY fuel) 1 fuel ze0 ((0, firstV false 0 (svCs [] d)) :: env0 (svS ziW x) 1) [.arr KP c 0] (endS ze1 KP false zeZ) = zvh fuel (ze0.lp (zeY fuel) 1 fuel (fun _ _ _ => none) (endS ze1 KP false zeZ) 0 zvg) c x.1 x.2.1 x.2.2.1 by kernel_rfl).trans (by rw [zIh]; rfl)
def ziY (fuel : Nat) : TFT := ⟨KP, false, [], ziW, zeZ, false, ziX fuel⟩
theorem zIj (fuel : Nat) : FnSpecT Tryz.prog 198 (ziY fuel) :=
  zaM (T := zeY fuel) (c := bodyOf Tryz.f198) (fn := Tryz.f198) (TabOK.of (entCons (zu7 fuel) (entCons (zva fuel) entNil)) (methNil)) mixed (by kernel_rfl) (by kernel_rfl) zIg (by kernel_rfl) (Nat.le_of_ble_eq_true (by kernel_rfl)) (rv := ze1) (by kernel_rfl) (zIi fuel)
theorem zvi (fuel : Nat) : EntryOK Tryz.prog 198 (ziY fuel).te := EntryOK.tft (zIj fuel) (isFn (fn := Tryz.f198) (by kernel_rfl) (by kernel_rfl) (by kernel_rfl))
def zvj (fuel : Nat) : Tab := Tab.of [] []
abbrev znr : List Pm := [{ cs := [(Kd.int IntKind.u64, false)], ag := false }]
abbrev zvk : List Pm := [{ cs := [(I6, false)], ag := false }]
def zvl : List Norm := []
noncomputable def zvm : C := irOf Tryz.prog Tryz.f210 [] zvl []
theorem zIk : lightC Tryz.prog [] Tryz.f210.ntmps zvl [] 0 (bodyOf Tryz.f210) = some (zvm, 0) := by kernel_rfl
def zvn : List (Nat × Option (Nat × Bool)) := [(2, none)]
def zIl (fuel : Nat) (x0 : Int) : Option ((Int × Unit) × Unit) :=
 cond (decide (x0 ≥ (4294967296 : Int)))
 (cond (decide (Int.fdiv x0 (2 ^ min (Int.toNat (32 : Int)) (IntKind.bits IntKind.u64)) ≥ (65536 : Int)))
 (cond (decide (Int.fdiv (Int.fdiv x0 (2 ^ min (Int.toNat (32 : Int)) (IntKind.bits IntKind.u64))) (2 ^ min (Int.toNat (16 : Int)) (IntKind.bits IntKind.u64)) ≥ (256 : Int)))
 (tst (decide (0 ≤ IntKind.wrap IntKind.u8 (Int.fdiv (Int.fdiv (Int.fdiv x0 (2 ^ min (Int.toNat (32 : Int)) (IntKind.bits IntKind.u64))) (2 ^ min (Int.toNat (16 : Int)) (IntKind.bits IntKind.u64))) (2 ^ min (Int.toNat (8 : Int)) (IntKind.bits IntKind.u64))))) <|
 tst (decide (IntKind.wrap IntKind.u8 (Int.fdiv (Int.fdiv (Int.fdiv x0 (2 ^ min (Int.toNat (32 : Int)) (IntKind.bits IntKind.u64))) (2 ^ min (Int.toNat (16 : Int)) (IntKind.bits IntKind.u64))) (2 ^ min (Int.toNat (8 : Int)) (IntKind.bits IntKind.u64))) < (zz 256))) <|
 some (((w64 (w64 (w64 ((32 : Int) + (16 : Int)) + (8 : Int)) + w64 (zz (List.getD [0, 1, 2, 2, 3, 3, 3, 3, 4, 4, 4, 4, 4, 4, 4, 4, 5, 5, 5, 5, 5, 5, 5, 5, 5, 5, 5, 5, 5, 5, 5, 5, 6, 6, 6, 6, 6, 6, 6, 6, 6, 6, 6, 6, 6, 6, 6, 6, 6, 6, 6, 6, 6, 6, 6, 6, 6, 6, 6, 6, 6, 6, 6, 6, 7, 7, 7, 7, 7, 7, 7, 7, 7, 7, 7, 7, 7, 7, 7, 7, 7, 7, 7, 7, 7, 7, 7, 7, 7, 7, 7, 7, 7, 7, 7, 7, 7, 7, 7, 7, 7, 7, 7, 7, 7, 7, 7, 7, 7, 7, 7, 7, 7, 7, 7, 7, 7, 7, 7, 7, 7, 7, 7, 7, 7, 7, 7, 7, 8, 8, 8, 8, 8, 8, 8, 8, 8, 8, 8, 8, 8, 8, 8, 8, 8, 8, 8, 8, 8, 8, 8, 8, 8, 8, 8, 8, 8, 8, 8, 8, 8, 8, 8, 8, 8, 8, 8, 8, 8, 8, 8, 8, 8, 8, 8, 8, 8, 8, 8, 8, 8, 8, 8, 8, 8, 8, 8, 8, 8, 8, 8, 8, 8, 8, 8, 8, 8, 8, 8, 8, 8, 8, 8, 8, 8, 8, 8, 8, 8, 8, 8, 8, 8, 8, 8, 8, 8, 8, 8, 8, 8, 8, 8, 8, 8, 8, 8, 8, 8, 8, 8, 8, 8, 8, 8, 8, 8, 8, 8, 8, 8, 8, 8, 8, 8, 8, 8, 8, 8, 8, 8, 8, 8, 8, 8, 8] (Int.toNat (IntKind.wrap IntKind.u8 (Int.fdiv (Int.fdiv (Int.fdiv x0 (2 ^ min (Int.toNat (32 : Int)) (IntKind.bits IntKind.u64))) (2 ^ min (Int.toNat (16 : Int)) (IntKind.bits IntKind.u64))) (2 ^ min (Int.toNat (8 : Int)) (IntKind.bits IntKind.u64))))) 0))), ()), ())))
 (tst (decide (0 ≤ IntKind.wrap IntKind.u8 (Int.fdiv (Int.fdiv x0 (2 ^ min (Int.toNat (32 : Int)) (IntKind.bits IntKind.u64))) (2 ^ min (Int.toNat (16 : Int)) (IntKind.bits IntKind.u64))))) <|
 tst (decide (IntKind.wrap IntKind.u8 (Int.fdiv (Int.fdiv x0 (2 ^ min (Int.toNat (32 : Int)) (IntKind.bits IntKind.u64))) (2 ^ min (Int.toNat (16 : Int)) (IntKind.bits IntKind.u64))) < (zz 256))) <|
 some (((w64 (w64 ((32 : Int) + (16 : Int)) + w64 (zz (List.getD [0, 1, 2, 2, 3, 3, 3, 3, 4, 4, 4, 4, 4, 4, 4, 4, 5, 5, 5, 5, 5, 5, 5, 5, 5, 5, 5, 5, 5, 5, 5, 5, 6, 6, 6, 6, 6, 6, 6, 6, 6, 6, 6, 6, 6, 6, 6, 6, 6, 6, 6, 6, 6, 6, 6, 6, 6, 6, 6, 6, 6, 6, 6, 6, 7, 7, 7, 7, 7, 7, 7, 7, 7, 7, 7, 7, 7, 7, 7, 7, 7, 7, 7, 7, 7, 7, 7, 7, 7, 7, 7, 7, 7, 7, 7, 7, 7, 7, 7, 7, 7, 7, 7, 7, 7, 7, 7, 7, 7, 7, 7, 7, 7, 7, 7, 7, 7, 7, 7, 7, 7, 7, 7, 7, 7, 7, 7, 7, 8, 8, 8, 8, 8, 8, 8, 8, 8, 8, 8, 8, 8, 8, 8, 8, 8, 8, 8, 8, 8, 8, 8, 8, 8, 8, 8, 8, 8, 8, 8, 8, 8, 8, 8, 8, 8, 8, 8, 8, 8, 8, 8, 8, 8, 8, 8, 8, 8, 8, 8, 8, 8, 8, 8, 8, 8, 8, 8, 8, 8, 8, 8, 8, 8, 8, 8, 8, 8, 8, 8, 8, 8, 8, 8, 8, 8, 8, 8, 8, 8, 8, 8, 8, 8, 8, 8, 8, 8, 8, 8, 8, 8, 8, 8, 8, 8, 8, 8, 8, 8, 8, 8, 8, 8, 8, 8, 8, 8, 8, 8, 8, 8, 8, 8, 8, 8, 8, 8, 8, 8, 8, 8, 8, 8, 8, 8, 8] (Int.toNat (IntKind.wrap IntKind.u8 (Int.fdiv (Int.fdiv x0 (2 ^ min (Int.toNat (32 : Int)) (IntKind.bits IntKind.u64))) (2 ^ min (Int.toNat (16 : Int)) (IntKind.bits IntKind.u64))))) 0))), ()), ()))))
 (cond (decide (Int.fdiv x0 (2 ^ min (Int.toNat (32 : Int)) (IntKind.bits IntKind.u64)) ≥ (256 : Int)))
 (tst (decide (0 ≤ IntKind.wrap IntKind.u8 (Int.fdiv (Int.fdiv x0 (2 ^ min (Int.toNat (32 : Int)) (IntKind.bits IntKind.u64))) (2 ^ min (Int.toNat (8 : Int)) (IntKind.bits IntKind.u64))))) <|
 tst (decide (IntKind.wrap IntKind.u8 (Int.fdiv (Int.fdiv x0 (2 ^ min (Int.toNat (32 : Int)) (IntKind.bits IntKind.u64))) (2 ^ min (Int.toNat (8 : Int)) (IntKind.bits IntKind.u64))) < (zz 256))) <|
 some (((w64 (w64 ((32 : Int) + (8 : Int)) + w64 (zz (List.getD [0, 1, 2, 2, 3, 3, 3, 3, 4, 4, 4, 4, 4, 4, 4, 4, 5, 5, 5, 5, 5, 5, 5, 5, 5, 5, 5, 5, 5, 5, 5, 5, 6, 6, 6, 6, 6, 6, 6, 6, 6, 6, 6, 6, 6, 6, 6, 6, 6, 6, 6, 6, 6, 6, 6, 6, 6, 6, 6, 6, 6, 6, 6, 6, 7, 7, 7, 7, 7, 7, 7, 7, 7, 7, 7, 7, 7, 7, 7, 7, 7, 7, 7, 7, 7, 7, 7, 7, 7, 7, 7, 7, 7, 7, 7, 7, 7, 7, 7, 7, 7, 7, 7, 7, 7, 7, 7, 7, 7, 7, 7, 7, 7, 7, 7, 7, 7, 7, 7, 7, 7, 7, 7, 7, 7, 7, 7, 7, 8, 8, 8, 8, 8, 8, 8, 8, 8, 8, 8, 8, 8, 8, 8, 8, 8, 8, 8, 8, 8, 8, 8, 8, 8, 8, 8, 8, 8, 8, 8, 8, 8, 8, 8, 8, 8, 8, 8, 8, 8, 8, 8, 8, 8, 8, 8, 8, 8, 8, 8, 8, 8, 8, 8, 8, 8, 8, 8, 8, 8, 8, 8, 8, 8, 8, 8, 8, 8, 8, 8, 8, 8, 8, 8, 8, 8, 8, 8, 8, 8, 8, 8, 8, 8, 8, 8, 8, 8, 8, 8, 8, 8, 8, 8, 8, 8, 8, 8, 8, 8, 8, 8, 8, 8, 8, 8, 8, 8, 8, 8, 8, 8, 8, 8, 8, 8, 8, 8, 8, 8, 8, 8, 8, 8, 8, 8, 8] (Int.toNat (IntKind.wrap IntKind.u8 (Int.fdiv (Int.fdiv x0 (2 ^ min (Int.toNat (32 : Int)) (IntKind.bits IntKind.u64))) (2 ^ min (Int.toNat (8 : Int)) (IntKind.bits IntKind.u64))))) 0))), ()), ())))
 (tst (decide (0 ≤ IntKind.wrap IntKind.u8 (Int.fdiv x0 (2 ^ min (Int.toNat (32 : Int)) (IntKind.bits IntKind.u64))))) <|
 tst (decide (IntKind.wrap IntKind.u8 (Int.fdiv x0 (2 ^ min (Int.toNat (32 : Int)) (IntKind.bits IntKind.u64))) < (zz 256))) <|
 some (((w64 ((32 : Int) + w64 (zz (List.getD [0, 1, 2, 2, 3, 3, 3, 3, 4, 4, 4, 4, 4, 4, 4, 4, 5, 5, 5, 5, 5, 5, 5, 5, 5, 5, 5, 5, 5, 5, 5, 5, 6, 6, 6, 6, 6, 6, 6, 6, 6, 6, 6, 6, 6, 6, 6, 6, 6, 6, 6, 6, 6, 6, 6, 6, 6, 6, 6, 6, 6, 6, 6, 6, 7, 7, 7, 7, 7, 7, 7, 7, 7, 7, 7, 7, 7, 7, 7, 7, 7, 7, 7, 7, 7, 7, 7, 7, 7, 7, 7, 7, 7, 7, 7, 7, 7, 7, 7, 7, 7, 7, 7, 7, 7, 7, 7, 7, 7, 7, 7, 7, 7, 7, 7, 7, 7, 7, 7, 7, 7, 7, 7, 7, 7, 7, 7, 7, 8, 8, 8, 8, 8, 8, 8, 8, 8, 8, 8, 8, 8, 8, 8, 8, 8, 8, 8, 8, 8, 8, 8, 8, 8, 8, 8, 8, 8, 8, 8, 8, 8, 8, 8, 8, 8, 8, 8, 8, 8, 8, 8, 8, 8, 8, 8, 8, 8, 8, 8, 8, 8, 8, 8, 8, 8, 8, 8, 8, 8, 8, 8, 8, 8, 8, 8, 8, 8, 8, 8, 8, 8, 8, 8, 8, 8, 8, 8, 8, 8, 8, 8, 8, 8, 8, 8, 8, 8, 8, 8, 8, 8, 8, 8, 8, 8, 8, 8, 8, 8, 8, 8, 8, 8, 8, 8, 8, 8, 8, 8, 8, 8, 8, 8, 8, 8, 8, 8, 8, 8, 8, 8, 8, 8, 8, 8, 8] (Int.toNat (IntKind.wrap IntKind.u8 (Int.fdiv x0 (2 ^ min (Int.toNat (32 : Int)) (IntKind.bits IntKind.u64))))) 0))), ()), ())))))
 (cond (decide (x0 ≥ (65536 : Int)))
 (cond (decide (Int.fdiv x0 (2 ^ min (Int.toNat (16 : Int)) (IntKind.bits IntKind.u64)) ≥ (256 : Int)))
 (tst (decide (0 ≤ IntKind.wrap IntKind.u8 (Int.fdiv (Int.fdiv x0 (2 ^ min (Int.toNat (16 : Int)) (IntKind.bits IntKind.u64))) (2 ^ min (Int.toNat (8 : Int)) (IntKind.bits IntKind.u64))))) <|
 tst (decide (IntKind.wrap IntKind.u8 (Int.fdiv (Int.fdiv x0 (2 ^ min (Int.toNat (16 : Int)) (IntKind.bits IntKind.u64))) (2 ^ min (Int.toNat (8 : Int)) (IntKind.bits IntKind.u64))) < (zz 256))) <|
 some (((w64 (w64 (w64 ((0 : Int) + (16 : Int)) + (8 : Int)) + w64 (zz (List.getD [0, 1, 2, 2, 3, 3, 3, 3, 4, 4, 4, 4, 4, 4, 4, 4, 5, 5, 5, 5, 5, 5, 5, 5, 5, 5, 5, 5, 5, 5, 5, 5, 6, 6, 6, 6, 6, 6, 6, 6, 6, 6, 6, 6, 6, 6, 6, 6, 6, 6, 6, 6, 6, 6, 6, 6, 6, 6, 6, 6, 6, 6, 6, 6, 7, 7, 7, 7, 7, 7, 7, 7, 7, 7, 7, 7, 7, 7, 7, 7, 7, 7, 7, 7, 7, 7, 7, 7, 7, 7, 7, 7, 7, 7, 7, 7, 7, 7, 7, 7, 7, 7, 7, 7, 7, 7, 7, 7, 7, 7, 7, 7, 7, 7, 7, 7, 7, 7, 7, 7, 7, 7, 7, 7, 7, 7, 7, 7, 8, 8, 8, 8, 8, 8, 8, 8, 8, 8, 8, 8, 8, 8, 8, 8, 8, 8, 8, 8, 8, 8, 8, 8, 8, 8, 8, 8, 8, 8, 8, 8, 8, 8, 8, 8, 8, 8, 8, 8, 8, 8, 8, 8, 8, 8, 8, 8, 8, 8, 8, 8, 8, 8, 8, 8, 8, 8, 8, 8, 8, 8, 8, 8, 8, 8, 8, 8, 8, 8, 8, 8, 8, 8, 8, 8, 8, 8, 8, 8, 8, 8, 8, 8, 8, 8, 8, 8, 8, 8, 8, 8, 8, 8, 8, 8, 8, 8, 8, 8, 8, 8, 8, 8, 8, 8, 8, 8, 8, 8, 8, 8, 8, 8, 8, 8, 8, 8, 8, 8, 8, 8, 8, 8, 8, 8, 8, 8] (Int.toNat (IntKind.wrap IntKind.u8 (Int.fdiv (Int.fdiv x0 (2 ^ min (Int.toNat (16 : Int)) (IntKind.bits IntKind.u64))) (2 ^ min (Int.toNat (8 : Int)) (IntKind.bits IntKind.u64))))) 0))), ()), ())))
 (tst (decide (0 ≤ IntKind.wrap IntKind.u8 (Int.fdiv x0 (2 ^ min (Int.toNat (16 : Int)) (IntKind.bits IntKind.u64))))) <|
 tst (decide (IntKind.wrap IntKind.u8 (Int.fdiv x0 (2 ^ min (Int.toNat (16 : Int)) (IntKind.bits IntKind.u64))) < (zz 256))) <|
 some (((w64 (w64 ((0 : Int) + (16 : Int)) + w64 (zz (List.getD [0, 1, 2, 2, 3, 3, 3, 3, 4, 4, 4, 4, 4, 4, 4, 4, 5, 5, 5, 5, 5, 5, 5, 5, 5, 5, 5, 5, 5, 5, 5, 5, 6, 6, 6, 6, 6, 6, 6, 6, 6, 6, 6, 6, 6, 6, 6, 6, 6, 6, 6, 6, 6, 6, 6, 6, 6, 6, 6, 6, 6, 6, 6, 6, 7, 7, 7, 7, 7, 7, 7, 7, 7, 7, 7, 7, 7, 7, 7, 7, 7, 7, 7, 7, 7, 7, 7, 7, 7, 7, 7, 7, 7, 7, 7, 7, 7, 7, 7, 7, 7, 7, 7, 7, 7, 7, 7, 7, 7, 7, 7, 7, 7, 7, 7, 7, 7, 7, 7, 7, 7, 7, 7, 7, 7, 7, 7, 7, 8, 8, 8, 8, 8, 8, 8, 8, 8, 8, 8, 8, 8, 8, 8, 8, 8, 8, 8, 8, 8, 8, 8, 8, 8, 8, 8, 8, 8, 8, 8, 8, 8, 8, 8, 8, 8, 8, 8, 8, 8, 8, 8, 8, 8, 8, 8, 8, 8, 8, 8, 8, 8, 8, 8, 8, 8, 8, 8, 8, 8, 8, 8, 8, 8, 8, 8, 8, 8, 8, 8, 8, 8, 8, 8, 8, 8, 8, 8, 8, 8, 8, 8, 8, 8, 8, 8, 8, 8, 8, 8, 8, 8, 8, 8, 8, 8, 8, 8, 8, 8, 8, 8, 8, 8, 8, 8, 8, 8, 8, 8, 8, 8, 8, 8, 8, 8, 8, 8, 8, 8, 8, 8, 8, 8, 8, 8, 8] (Int.toNat (IntKind.wrap IntKind.u8 (Int.fdiv x0 (2 ^ min (Int.toNat (16 : Int)) (IntKind.bits IntKind.u64))))) 0))), ()), ()))))
 (cond (decide (x0 ≥ (256 : Int)))
 (tst (decide (0 ≤ IntKind.wrap IntKind.u8 (Int.fdiv x0 (2 ^ min (Int.toNat (8 : Int)) (IntKind.bits IntKind.u64))))) <|
 tst (decide (IntKind.wrap IntKind.u8 (Int.fdiv x0 (2 ^ min (Int.toNat (8 : Int)) (IntKind.bits IntKind.u64))) < (zz 256))) <|
 some (((w64 (w64 ((0 : Int) + (8 : Int)) + w64 (zz (List.getD [0, 1, 2, 2, 3, 3, 3, 3, 4, 4, 4, 4, 4, 4, 4, 4, 5, 5, 5, 5, 5, 5, 5, 5, 5, 5, 5, 5, 5, 5, 5, 5, 6, 6, 6, 6, 6, 6, 6, 6, 6, 6, 6, 6, 6, 6, 6, 6, 6, 6, 6, 6, 6, 6, 6, 6, 6, 6, 6, 6, 6, 6, 6, 6, 7, 7, 7, 7, 7, 7, 7, 7, 7, 7, 7, 7, 7, 7, 7, 7, 7, 7, 7, 7, 7, 7, 7, 7, 7, 7, 7, 7, 7, 7, 7, 7, 7, 7, 7, 7, 7, 7, 7, 7, 7, 7, 7, 7, 7, 7, 7, 7, 7, 7, 7, 7, 7, 7, 7, 7, 7, 7, 7, 7, 7, 7, 7, 7, 8, 8, 8, 8, 8, 8, 8, 8, 8, 8, 8, 8, 8, 8, 8, 8, 8, 8, 8, 8, 8, 8, 8, 8, 8, 8, 8, 8, 8, 8, 8, 8, 8, 8, 8, 8, 8, 8, 8, 8, 8, 8, 8, 8, 8, 8, 8, 8, 8, 8, 8, 8, 8, 8, 8, 8, 8, 8, 8, 8, 8, 8, 8, 8, 8, 8, 8, 8, 8, 8, 8, 8, 8, 8, 8, 8, 8, 8, 8, 8, 8, 8, 8, 8, 8, 8, 8, 8, 8, 8, 8, 8, 8, 8, 8, 8, 8, 8, 8, 8, 8, 8, 8, 8, 8, 8, 8, 8, 8, 8, 8, 8, 8, 8, 8, 8, 8, 8, 8, 8, 8, 8, 8, 8, 8, 8, 8, 8] (Int.toNat (IntKind.wrap IntKind.u8 (Int.fdiv x0 (2 ^ min (Int.toNat (8 : Int)) (IntKind.bits IntKind.u64))))) 0))), ()), ())))
 (tst (decide (0 ≤ IntKind.wrap IntKind.u8 x0)) <|
 tst (decide (IntKind.wrap IntKind.u8 x0 < (zz 256))) <|
 some (((w64 ((0 : Int) + w64 (zz (List.getD [0, 1, 2, 2, 3, 3, 3, 3, 4, 4, 4, 4, 4, 4, 4, 4, 5, 5, 5, 5, 5, 5, 5, 5, 5, 5, 5, 5, 5, 5, 5, 5, 6, 6, 6, 6, 6, 6, 6, 6, 6, 6, 6, 6, 6, 6, 6, 6, 6, 6, 6, 6, 6, 6, 6, 6, 6, 6, 6, 6, 6, 6, 6, 6, 7, 7, 7, 7, 7, 7, 7, 7, 7, 7, 7, 7, 7, 7, 7, 7, 7, 7, 7, 7, 7, 7, 7, 7, 7, 7, 7, 7, 7, 7, 7, 7, 7, 7, 7, 7, 7, 7, 7, 7, 7, 7, 7, 7, 7, 7, 7, 7, 7, 7, 7, 7, 7, 7, 7, 7, 7, 7, 7, 7, 7, 7, 7, 7, 8, 8, 8, 8, 8, 8, 8, 8, 8, 8, 8, 8, 8, 8, 8, 8, 8, 8, 8, 8, 8, 8, 8, 8, 8, 8, 8, 8, 8, 8, 8, 8, 8, 8, 8, 8, 8, 8, 8, 8, 8, 8, 8, 8, 8, 8, 8, 8, 8, 8, 8, 8, 8, 8, 8, 8, 8, 8, 8, 8, 8, 8, 8, 8, 8, 8, 8, 8, 8, 8, 8, 8, 8, 8, 8, 8, 8, 8, 8, 8, 8, 8, 8, 8, 8, 8, 8, 8, 8, 8, 8, 8, 8, 8, 8, 8, 8, 8, 8, 8, 8, 8, 8, 8, 8, 8, 8, 8, 8, 8, 8, 8, 8, 8, 8, 8, 8, 8, 8, 8, 8, 8, 8, 8, 8, 8, 8, 8] (Int.toNat (IntKind.wrap IntKind.u8 x0)) 0))), ()), ())))))
def zns (fuel : Nat) (x : ((Int × Unit) × Unit)) : Option ((Int × Unit) × Unit) := zIl fuel x.1.1
theorem zIm (fuel : Nat) (x : PsT znr) : run (zvj fuel) 0 fuel zvm (env0 (svPs znr x) 0) [] (endF zvn zvk) = zns fuel x := by kernel_rfl
def znt (fuel : Nat) : TF := ⟨znr, zvk, true, zns fuel⟩
theorem zIn (fuel : Nat) : FnSpec Tryz.prog 210 (znt fuel) :=
  fn_spec (T := zvj fuel) (c := bodyOf Tryz.f210) (fn := Tryz.f210) (TabOK.of (entNil) (methNil)) mixed (by kernel_rfl) (by kernel_rfl) zIk (by kernel_rfl) (Nat.le_of_ble_eq_true (by kernel_rfl)) (rv := zvn) (by kernel_rfl) (zIm fuel)
theorem zIo (fuel : Nat) : EntryOK Tryz.prog 210 (znt fuel).te := EntryOK.tf rfl (zIn fuel) (isFn (fn := Tryz.f210) (by kernel_rfl) (by kernel_rfl) (by kernel_rfl))
def zvo (fuel : Nat) : Tab := Tab.of [(210, (znt fuel).te)] []
abbrev znu : List Pm := [{ cs := [(Kd.int IntKind.u64, false)], ag := false }]
abbrev zvp : List Pm := [{ cs := [(I6, false)], ag := false }]
def zvq : List Norm := []
noncomputable def zvr : C := irOf Tryz.prog Tryz.f199 [] zvq []
theorem zIp : lightC Tryz.prog [] Tryz.f199.ntmps zvq [] 0 (bodyOf Tryz.f199) = some (zvr, 0) := by kernel_rfl
def zvs : List (Nat × Option (Nat × Bool)) := [(2, none)]
def zIq (fuel : Nat) (x0 : Int) : Option ((Int × Unit) × Unit) :=
 Option.bind (zns fuel ((x0, ()), ())) fun y_1 =>
 some (((y_1.1.1, ()), ()))
def zb3 (fuel : Nat) (x : ((Int × Unit) × Unit)) : Option ((Int × Unit) × Unit) := zIq fuel x.1.1
theorem zIr (fuel : Nat) (x : PsT znu) : run (zvo fuel) 0 fuel zvr (env0 (svPs znu x) 0) [] (endF zvs zvp) = zb3 fuel x := by kernel_rfl
def ziZ (fuel : Nat) : TF := ⟨znu, zvp, true, zb3 fuel⟩
theorem zIs (fuel : Nat) : FnSpec Tryz.prog 199 (ziZ fuel) :=
  fn_spec (T := zvo fuel) (c := bodyOf Tryz.f199) (fn := Tryz.f199) (TabOK.of (entCons (zIo fuel) entNil) (methNil)) mixed (by kernel_rfl) (by kernel_rfl) zIp (by kernel_rfl) (Nat.le_of_ble_eq_true (by kernel_rfl)) (rv := zvs) (by kernel_rfl) (zIr fuel)
theorem zvt (fuel : Nat) : EntryOK Tryz.prog 199 (ziZ fuel).te := EntryOK.tf rfl (zIs fuel) (isFn (fn := Tryz.f199) (by kernel_rfl) (by kernel_rfl) (by kernel_rfl))
def zvu (fuel : Nat) : Tab := Tab.of [(198, (ziV fuel).te), (198, (ziY fuel).te), (199, (ziZ fuel).te)] []
abbrev znv : Sh := (.fnc 193 .nil)
abbrev zvv : List Pm := []
def zvw : List Norm := []
noncomputable def zvx : C := irOf Tryz.prog Tryz.f195 [] zvw []
theorem zIt : lightC Tryz.prog [] Tryz.f195.ntmps zvw [] 0 (bodyOf Tryz.f195) = some (zvx, 0) := by kernel_rfl
def zvy : List (Nat × Option (Nat × Bool)) := []
def znw (fuel : Nat) (d0 : LP) : Option (LP × Unit) :=
 Option.bind (zb3 fuel ((IntKind.wrap IntKind.u64 (zz (List.length d0)), ()), ())) fun y_1 =>
 Option.bind (ziU fuel (d0, (), (0 : Int), (zz (List.length d0)), y_1.1.1, ())) fun y_2 =>
 some ((y_2.1, ()))
def zi0 (fuel : Nat) (z : LP × Unit × Unit) : Option (LP × Unit) := znw fuel z.1
theorem zIu (fuel : Nat) (c : List (Kd.T KP)) (d : CsT []) (x : Sh.T znv) : run (zvu fuel) 1 fuel zvx ((0, firstV false 0 (svCs [] d)) :: env0 (svS znv x) 1) [.arr KP c 0] (endS zvy KP false zvv) = zi0 fuel (c, d, x) := by kernel_rfl
def zi1 (fuel : Nat) : TFT := ⟨KP, false, [], znv, zvv, false, zi0 fuel⟩
theorem zIv (fuel : Nat) : FnSpecT Tryz.prog 195 (zi1 fuel) :=
  zaM (T := zvu fuel) (c := bodyOf Tryz.f195) (fn := Tryz.f195) (TabOK.of (entCons (zve fuel) (entCons (zvi fuel) (entCons (zvt fuel) entNil))) (methNil)) mixed (by kernel_rfl) (by kernel_rfl) zIt (by kernel_rfl) (Nat.le_of_ble_eq_true (by kernel_rfl)) (rv := zvy) (by kernel_rfl) (zIu fuel)
theorem zvz (fuel : Nat) : EntryOK Tryz.prog 195 (zi1 fuel).te := EntryOK.tft (zIv fuel) (isFn (fn := Tryz.f195) (by kernel_rfl) (by kernel_rfl) (by kernel_rfl))
def zvA (fuel : Nat) : Tab := Tab.of [(198, (ziV fuel).te), (198, (ziY fuel).te), (199, (ziZ fuel).te)] []
abbrev znx : Sh := (.fnc 194 .nil)
abbrev zvB : List Pm := []
def zvC : List Norm := []
noncomputable def zvD : C := irOf Tryz.prog Tryz.f195 [] zvC []
theorem zIw : lightC Tryz.prog [] Tryz.f195.ntmps zvC [] 0 (bodyOf Tryz.f195) = some (zvD, 0) := by kernel_rfl
def zvE : List (Nat × Option (Nat × Bool)) := []
def zny (fuel : Nat) (d0 : LP) : Option (LP × Unit) :=
 Option.bind (zb3 fuel ((IntKind.wrap IntKind.u64 (zz (List.length d0)), ()), ())) fun y_1 =>
 Option.bind (ziX fuel (d0, (), (0 : Int), (zz (List.length d0)), y_1.1.1, ())) fun y_2 =>
 some ((y_2.1, ()))
def zi2 (fuel : Nat) (z : LP × Unit × Unit) : Option (LP × Unit) := zny fuel z.1
theorem zIx (fuel : Nat) (c : List (Kd.T KP)) (d : CsT []) (x : Sh.T znx) : run (zvA fuel) 1 fuel zvD ((0, firstV false 0 (svCs [] d)) :: env0 (svS znx x) 1) [.arr KP c 0] (endS zvE KP false zvB) = zi2 fuel (c, d, x) := by kernel_rfl
def zi3 (fuel : Nat) : TFT := ⟨KP, false, [], znx, zvB, false, zi2 fuel⟩
theorem zIy (fuel : Nat) : FnSpecT Tryz.prog 195 (zi3 fuel) :=
  zaM (T := zvA fuel) (c := bodyOf Tryz.f195) (fn := Tryz.f195) (TabOK.of (entCons (zve fuel) (entCons (zvi fuel) (entCons (zvt fuel) entNil))) (methNil)) mixed (by kernel_rfl) (by kernel_rfl) zIw (by kernel_rfl) (Nat.le_of_ble_eq_true (by kernel_rfl)) (rv := zvE) (by kernel_rfl) (zIx fuel)
theorem zvF (fuel : Nat) : EntryOK Tryz.prog 195 (zi3 fuel).te := EntryOK.tft (zIy fuel) (isFn (fn := Tryz.f195) (by kernel_rfl) (by kernel_rfl) (by kernel_rfl))
def zvG (fuel : Nat) : Tab := Tab.of [(195, (zi1 fuel).te), (195, (zi3 fuel).te)] []
abbrev znz : Sh := (.num .i64 (0) .nil)
abbrev zvH : List Pm := []
def zvI : List Norm := []
noncomputable def zvJ : C := irOf Tryz.prog Tryz.f183 [] zvI []
theorem zIz : lightC Tryz.prog [] Tryz.f183.ntmps zvI [] 0 (bodyOf Tryz.f183) = some (zvJ, 0) := by kernel_rfl
def zvK : List (Nat × Option (Nat × Bool)) := []
def znA (fuel : Nat) (d0 : LP) : Option (LP × Unit) :=
 Option.bind (zi0 fuel (d0, (), ())) fun y_1 =>
 some ((y_1.1, ()))
def zi4 (fuel : Nat) (z : LP × Unit × Unit) : Option (LP × Unit) := znA fuel z.1
theorem zIA (fuel : Nat) (c : List (Kd.T KP)) (d : CsT []) (x : Sh.T znz) : run (zvG fuel) 1 fuel zvJ ((0, firstV false 0 (svCs [] d)) :: env0 (svS znz x) 1) [.arr KP c 0] (endS zvK KP false zvH) = zi4 fuel (c, d, x) := by kernel_rfl
def zb4 (fuel : Nat) : TFT := ⟨KP, false, [], znz, zvH, false, zi4 fuel⟩
theorem zIB (fuel : Nat) : FnSpecT Tryz.prog 183 (zb4 fuel) :=
  zaM (T := zvG fuel) (c := bodyOf Tryz.f183) (fn := Tryz.f183) (TabOK.of (entCons (zvz fuel) (entCons (zvF fuel) entNil)) (methNil)) mixed (by kernel_rfl) (by kernel_rfl) zIz (by kernel_rfl) (Nat.le_of_ble_eq_true (by kernel_rfl)) (rv := zvK) (by kernel_rfl) (zIA fuel)
theorem zi5 (fuel : Nat) : EntryOK Tryz.prog 183 (zb4 fuel).te := EntryOK.tft (zIB fuel) (isFn (fn := Tryz.f183) (by kernel_rfl) (by kernel_rfl) (by kernel_rfl))
def zvL (fuel : Nat) : Tab := Tab.of [(195, (zi1 fuel).te), (195, (zi3 fuel).te)] []
abbrev znB : Sh := (.num .i64 (1) .nil)
abbrev zvM : List Pm := []
def zvN : List Norm := []
noncomputable def zvO : C := irOf Tryz.prog Tryz.f183 [] zvN []
theorem zIC : lightC Tryz.prog [] Tryz.f183.ntmps zvN [] 0 (bodyOf Tryz.f183) = some (zvO, 0) := by kernel_rfl
def zvP : List (Nat × Option (Nat × Bool)) := []
def znC (fuel : Nat) (d0 : LP) : Option (LP × Unit) :=
 Option.bind (zi2 fuel (d0, (), ())) fun y_1 =>
 some ((y_1.1, ()))
def zb5 (fuel : Nat) (z : LP × Unit × Unit) : Option (LP × Unit) := znC fuel z.1
theorem zID (fuel : Nat) (c : List (Kd.T KP)) (d : CsT []) (x : Sh.T znB) : run (zvL fuel) 1 fuel zvO ((0, firstV false 0 (svCs [] d)) :: env0 (svS znB x) 1) [.arr KP c 0] (endS zvP KP false zvM) = zb5 fuel (c, d, x) := by kernel_rfl
def zb6 (fuel : Nat) : TFT := ⟨KP, false, [], znB, zvM, false, zb5 fuel⟩
theorem zIE (fuel : Nat) : FnSpecT Tryz.prog 183 (zb6 fuel) :=
  zaM (T := zvL fuel) (c := bodyOf Tryz.f183) (fn := Tryz.f183) (TabOK.of (entCons (zvz fuel) (entCons (zvF fuel) entNil)) (methNil)) mixed (by kernel_rfl) (by kernel_rfl) zIC (by kernel_rfl) (Nat.le_of_ble_eq_true (by kernel_rfl)) (rv := zvP) (by kernel_rfl) (zID fuel)
theorem zi6 (fuel : Nat) : EntryOK Tryz.prog 183 (zb6 fuel).te := EntryOK.tft (zIE fuel) (isFn (fn := Tryz.f183) (by kernel_rfl) (by kernel_rfl) (by kernel_rfl))
end Go.Proofs.YtdgdoeknpakmlaaGreat.Den
