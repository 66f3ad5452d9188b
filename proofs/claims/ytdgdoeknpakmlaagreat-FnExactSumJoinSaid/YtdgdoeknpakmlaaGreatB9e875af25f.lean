/- Part 12 of the texts behind the row. -/
import Derived.Test.YtdgdoeknpakmlaaGreatBf057426e4a
set_option linter.unusedVariables false
set_option linter.unusedSimpArgs false
namespace Go.Proofs.YtdgdoeknpakmlaaGreat.Den
open Go Go.RowKit
def zu8 (fuel : Nat) : Tab := Tab.of [(89, (zcj fuel).te)] []
abbrev znZ : List Pm := [{ cs := [(Kd.list (Kd.list I6), false)], ag := true }]
abbrev zu9 : List Pm := [{ cs := [(Kd.bool, false)], ag := false }]
def zva : List Norm := []
noncomputable def zvb : C := irOf Tryz.prog Tryz.f232 [] zva []
theorem zHr : lightC Tryz.prog [] Tryz.f232.ntmps zva [] 0 (bodyOf Tryz.f232) = some (zvb, 0) := by kernel_rfl
def zvc : List (Nat × Option (Nat × Bool)) := [(2, none)]
def zn0 (fuel : Nat) (x0 : List (List Int)) : Option ((Bool × Unit) × Unit) :=
 Option.bind (zaj fuel ((x0, ()), ())) fun y_1 =>
 some (((y_1.1.1, ()), ()))
def zjJ (fuel : Nat) (x : (((List (List Int)) × Unit) × Unit)) : Option ((Bool × Unit) × Unit) := zn0 fuel x.1.1
theorem zHs (fuel : Nat) (x : PsT znZ) : run (zu8 fuel) 0 fuel zvb (env0 (svPs znZ x) 0) [] (endF zvc zu9) = zjJ fuel x := by kernel_rfl
def zn1 (fuel : Nat) : TF := ⟨znZ, zu9, true, zjJ fuel⟩
theorem zHt (fuel : Nat) : FnSpec Tryz.prog 232 (zn1 fuel) :=
  fn_spec (T := zu8 fuel) (c := bodyOf Tryz.f232) (fn := Tryz.f232) (TabOK.of (entCons (ziR fuel) entNil) (methNil)) mixed (by kernel_rfl) (by kernel_rfl) zHr (by kernel_rfl) (Nat.le_of_ble_eq_true (by kernel_rfl)) (rv := zvc) (by kernel_rfl) (zHs fuel)
theorem zHu (fuel : Nat) : EntryOK Tryz.prog 232 (zn1 fuel).te := EntryOK.tf rfl (zHt fuel) (isFn (fn := Tryz.f232) (by kernel_rfl) (by kernel_rfl) (by kernel_rfl))
def zvd (fuel : Nat) : Tab := Tab.of [(84, (zi1 fuel).te)] []
abbrev zn2 : List Pm := [{ cs := [(Kd.list I6, false)], ag := true }]
abbrev zve : List Pm := [{ cs := [(Kd.bool, false)], ag := false }]
def zvf : List Norm := []
noncomputable def zvg : C := irOf Tryz.prog Tryz.f234 [] zvf []
theorem zHv : lightC Tryz.prog [] Tryz.f234.ntmps zvf [] 0 (bodyOf Tryz.f234) = some (zvg, 0) := by kernel_rfl
def zvh : List (Nat × Option (Nat × Bool)) := [(2, none)]
def zn3 (fuel : Nat) (x0 : List Int) : Option ((Bool × Unit) × Unit) :=
 Option.bind (zco fuel ((x0, ()), ())) fun y_1 =>
 some (((y_1.1.1, ()), ()))
def zjK (fuel : Nat) (x : (((List Int) × Unit) × Unit)) : Option ((Bool × Unit) × Unit) := zn3 fuel x.1.1
theorem zHw (fuel : Nat) (x : PsT zn2) : run (zvd fuel) 0 fuel zvg (env0 (svPs zn2 x) 0) [] (endF zvh zve) = zjK fuel x := by kernel_rfl
def zn4 (fuel : Nat) : TF := ⟨zn2, zve, true, zjK fuel⟩
theorem zHx (fuel : Nat) : FnSpec Tryz.prog 234 (zn4 fuel) :=
  fn_spec (T := zvd fuel) (c := bodyOf Tryz.f234) (fn := Tryz.f234) (TabOK.of (entCons (ztv fuel) entNil) (methNil)) mixed (by kernel_rfl) (by kernel_rfl) zHv (by kernel_rfl) (Nat.le_of_ble_eq_true (by kernel_rfl)) (rv := zvh) (by kernel_rfl) (zHw fuel)
theorem zHy (fuel : Nat) : EntryOK Tryz.prog 234 (zn4 fuel).te := EntryOK.tf rfl (zHx fuel) (isFn (fn := Tryz.f234) (by kernel_rfl) (by kernel_rfl) (by kernel_rfl))
def zvi (fuel : Nat) : Tab := Tab.of [(85, (zfb fuel).te)] []
abbrev zn5 : List Pm := [{ cs := [(Kd.list KP, false), (I6, false), (I6, false)], ag := true }]
abbrev zvj : List Pm := [{ cs := [(Kd.bool, false)], ag := false }]
def zvk : List Norm := []
noncomputable def zvl : C := irOf Tryz.prog Tryz.f236 [] zvk []
theorem zHz : lightC Tryz.prog [] Tryz.f236.ntmps zvk [] 0 (bodyOf Tryz.f236) = some (zvl, 0) := by kernel_rfl
def zvm : List (Nat × Option (Nat × Bool)) := [(2, none)]
def zn6 (fuel : Nat) (x0 : LP) (x1 : Int) (x2 : Int) : Option ((Bool × Unit) × Unit) :=
 Option.bind (zaL fuel ((x0, x1, x2, ()), ())) fun y_1 =>
 some (((y_1.1.1, ()), ()))
def zjL (fuel : Nat) (x : ((LP × (Int × (Int × Unit))) × Unit)) : Option ((Bool × Unit) × Unit) := zn6 fuel x.1.1 x.1.2.1 x.1.2.2.1
theorem zHA (fuel : Nat) (x : PsT zn5) : run (zvi fuel) 0 fuel zvl (env0 (svPs zn5 x) 0) [] (endF zvm zvj) = zjL fuel x := by kernel_rfl
def zn7 (fuel : Nat) : TF := ⟨zn5, zvj, true, zjL fuel⟩
theorem zHB (fuel : Nat) : FnSpec Tryz.prog 236 (zn7 fuel) :=
  fn_spec (T := zvi fuel) (c := bodyOf Tryz.f236) (fn := Tryz.f236) (TabOK.of (entCons (zni fuel) entNil) (methNil)) mixed (by kernel_rfl) (by kernel_rfl) zHz (by kernel_rfl) (Nat.le_of_ble_eq_true (by kernel_rfl)) (rv := zvm) (by kernel_rfl) (zHA fuel)
theorem zHC (fuel : Nat) : EntryOK Tryz.prog 236 (zn7 fuel).te := EntryOK.tf rfl (zHB fuel) (isFn (fn := Tryz.f236) (by kernel_rfl) (by kernel_rfl) (by kernel_rfl))
def zvn (fuel : Nat) : Tab := Tab.of [(94, (zig fuel).te)] []
abbrev zn8 : List Pm := [{ cs := [(Kd.list KP, false), (I6, false)], ag := true }]
abbrev zvo : List Pm := [{ cs := [(Kd.bool, false)], ag := false }]
def zvp : List Norm := []
noncomputable def zvq : C := irOf Tryz.prog Tryz.f238 [] zvp []
theorem zHD : lightC Tryz.prog [] Tryz.f238.ntmps zvp [] 0 (bodyOf Tryz.f238) = some (zvq, 0) := by kernel_rfl
def zvr : List (Nat × Option (Nat × Bool)) := [(2, none)]
def zn9 (fuel : Nat) (x0 : LP) (x1 : Int) : Option ((Bool × Unit) × Unit) :=
 Option.bind (zbc fuel ((x0, x1, ()), ())) fun y_1 =>
 some (((y_1.1.1, ()), ()))
def zjM (fuel : Nat) (x : ((LP × (Int × Unit)) × Unit)) : Option ((Bool × Unit) × Unit) := zn9 fuel x.1.1 x.1.2.1
theorem zHE (fuel : Nat) (x : PsT zn8) : run (zvn fuel) 0 fuel zvq (env0 (svPs zn8 x) 0) [] (endF zvr zvo) = zjM fuel x := by kernel_rfl
def zoa (fuel : Nat) : TF := ⟨zn8, zvo, true, zjM fuel⟩
theorem zHF (fuel : Nat) : FnSpec Tryz.prog 238 (zoa fuel) :=
  fn_spec (T := zvn fuel) (c := bodyOf Tryz.f238) (fn := Tryz.f238) (TabOK.of (entCons (zrT fuel) entNil) (methNil)) mixed (by kernel_rfl) (by kernel_rfl) zHD (by kernel_rfl) (Nat.le_of_ble_eq_true (by kernel_rfl)) (rv := zvr) (by kernel_rfl) (zHE fuel)
theorem zHG (fuel : Nat) : EntryOK Tryz.prog 238 (zoa fuel).te := EntryOK.tf rfl (zHF fuel) (isFn (fn := Tryz.f238) (by kernel_rfl) (by kernel_rfl) (by kernel_rfl))
def zvs (fuel : Nat) : Tab := Tab.of [(47, (zeU fuel).te), (82, (zeJ fuel).te), (232, (zn1 fuel).te), (234, (zn4 fuel).te), (236, (zn7 fuel).te), (238, (zoa fuel).te)] [(27, "loop.example/inkling/impl.inForm", 232), (29, "loop.example/inkling/impl.inForm", 234), (32, "loop.example/inkling/impl.inForm", 236), (35, "loop.example/inkling/impl.inForm", 238)]
abbrev zob : List Pm := [{ cs := [(Kd.list (Kd.list I6), false), (Kd.list I6, false), (Kd.list KP, false), (I6, false), (I6, false), (Kd.list KP, false), (I6, false)], ag := true }]
abbrev zvt : List Pm := [{ cs := [(Kd.bool, false)], ag := false }]
def zvu : List Norm := [{ live := [8, 7, 1], fix := [] }]
noncomputable def zvv : C := irOf Tryz.prog Tryz.f34 [] zvu []
theorem zHH : lightC Tryz.prog [] Tryz.f34.ntmps zvu [] 0 (bodyOf Tryz.f34) = some (zvv, 1) := by kernel_rfl
def zvw : List (Nat × Option (Nat × Bool)) := [(2, none)]
def zoc (fuel : Nat) (x0 : List (List Int)) (x1 : List Int) (x2 : LP) (x3 : Int) (x4 : Int) (x5 : LP) (x6 : Int) : Option ((Bool × Unit) × Unit) :=
 Option.bind (zX fuel ((x0, x1, x2, x3, x4, x5, x6, ()), ())) fun y_1 =>
 Option.bind (zjJ fuel ((y_1.1.1.1.1, ()), ())) fun y_2 =>
 cond (!y_2.1.1)
 (some (((false, ()), ())))
 (Option.bind (zjK fuel ((y_1.1.2.1.1.1, ()), ())) fun y_4 =>
 cond (!y_4.1.1)
 (some (((false, ()), ())))
 (Option.bind (zjL fuel ((y_1.1.2.2.1.1.1, y_1.1.2.2.1.1.2.1, y_1.1.2.2.1.1.2.2.1, ()), ())) fun y_6 =>
 cond (!y_6.1.1)
 (some (((false, ()), ())))
 (Option.bind (zjM fuel ((y_1.1.2.2.2.1.1.1, y_1.1.2.2.2.1.1.2.1, ()), ())) fun y_8 =>
 cond (!y_8.1.1)
 (some (((false, ()), ())))
 (Option.bind (zaK fuel ((x0, ()), ())) fun y_10 =>
 cond (x4 == y_10.1.1)
 (cond (x6 == y_10.1.1)
 (some (((decide ((zz (List.length x1)) > (0 : Int)) == decide (y_10.1.1 > (0 : Int)), ()), ())))
 (some (((false, ()), ()))))
 (some (((false, ()), ())))))))
def zaU (fuel : Nat) (x : (SumY × Unit)) : Option ((Bool × Unit) × Unit) := zoc fuel x.1.1 x.1.2.1 x.1.2.2.1 x.1.2.2.2.1 x.1.2.2.2.2.1 x.1.2.2.2.2.2.1 x.1.2.2.2.2.2.2.1
theorem zHI (fuel : Nat) (x : PsT zob) : run (zvs fuel) 0 (fuel + 6) zvv (env0 (svPs zob x) 0) [] (endF zvw zvt) = zaU fuel x := by kernel_rfl
def zjN (fuel : Nat) : TF := ⟨zob, zvt, true, zaU fuel⟩
theorem zHJ (fuel : Nat) : FnSpec Tryz.prog 34 (zjN fuel) :=
  fn_spec (T := zvs fuel) (c := bodyOf Tryz.f34) (fn := Tryz.f34) (TabOK.of (entCons (zm7 fuel) (entCons (zm1 fuel) (entCons (zHu fuel) (entCons (zHy fuel) (entCons (zHC fuel) (entCons (zHG fuel) entNil)))))) (methCons (fun v args w => by kernel_rfl) (methCons (fun v args w => by kernel_rfl) (methCons (fun v args w => by kernel_rfl) (methCons (fun v args w => by kernel_rfl) (methNil)))))) mixed (by kernel_rfl) (by kernel_rfl) zHH (by kernel_rfl) (Nat.le_of_ble_eq_true (by kernel_rfl)) (rv := zvw) (by kernel_rfl) (zHI fuel)
theorem zvx (fuel : Nat) : EntryOK Tryz.prog 34 (zjN fuel).te := EntryOK.tf rfl (zHJ fuel) (isFn (fn := Tryz.f34) (by kernel_rfl) (by kernel_rfl) (by kernel_rfl))
end Go.Proofs.YtdgdoeknpakmlaaGreat.Den
namespace Go.Proofs.YtdgdoeknpakmlaaGreat.Den
open Go Go.RowKit
def zvy (fuel : Nat) : Tab := Tab.of [(85, (zfb fuel).te), (90, (znS fuel).te)] []
abbrev zod : List Pm := [{ cs := [(Kd.list KP, false), (I6, false), (I6, false)], ag := true }, { cs := [(Kd.list KP, false), (I6, false), (I6, false)], ag := true }]
abbrev zvz : List Pm := [{ cs := [(Kd.list KP, false), (I6, false), (I6, false)], ag := true }, { cs := [(Kd.bool, false)], ag := false }]
def zvA : List Norm := []
noncomputable def zvB : C := irOf Tryz.prog Tryz.f46 [] zvA []
theorem zHK : lightC Tryz.prog [] Tryz.f46.ntmps zvA [] 0 (bodyOf Tryz.f46) = some (zvB, 0) := by kernel_rfl
def zvC : List (Nat × Option (Nat × Bool)) := [(4, some (3, true)), (5, none)]
def zfR (fuel : Nat) (x0 : LP) (x1 : Int) (x2 : Int) (x3 : LP) (x4 : Int) (x5 : Int) : Option ((LP × (Int × (Int × Unit))) × ((Bool × Unit) × Unit)) :=
 Option.bind (zaL fuel ((x0, x1, x2, ()), ())) fun y_1 =>
 cond (!y_1.1.1)
 (some ((([], (0 : Int), (0 : Int), ()), (false, ()), ())))
 (Option.bind (zaL fuel ((x3, x4, x5, ()), ())) fun y_3 =>
 cond (!y_3.1.1)
 (some ((([], (0 : Int), (0 : Int), ()), (false, ()), ())))
 (cond (decide (w64 (x2 + x5) > (2000 : Int)))
 (some ((([], (0 : Int), (0 : Int), ()), (false, ()), ())))
 (Option.bind (zfD fuel ((x0, x1, x2, ()), (x3, x4, x5, ()), ())) fun y_6 =>
 some (((y_6.1.1, y_6.1.2.1, y_6.1.2.2.1, ()), (true, ()), ())))))
def zfS (fuel : Nat) (x : ((LP × (Int × (Int × Unit))) × ((LP × (Int × (Int × Unit))) × Unit))) : Option ((LP × (Int × (Int × Unit))) × ((Bool × Unit) × Unit)) := zfR fuel x.1.1 x.1.2.1 x.1.2.2.1 x.2.1.1 x.2.1.2.1 x.2.1.2.2.1
theorem zHL (fuel : Nat) (x : PsT zod) : run (zvy fuel) 0 fuel zvB (env0 (svPs zod x) 0) [] (endF zvC zvz) = zfS fuel x := by kernel_rfl
def zas (fuel : Nat) : TF := ⟨zod, zvz, false, zfS fuel⟩
theorem zHM (fuel : Nat) : FnSpec Tryz.prog 46 (zas fuel) :=
  fn_spec (T := zvy fuel) (c := bodyOf Tryz.f46) (fn := Tryz.f46) (TabOK.of (entCons (zni fuel) (entCons (zHa fuel) entNil)) (methNil)) mixed (by kernel_rfl) (by kernel_rfl) zHK (by kernel_rfl) (Nat.le_of_ble_eq_true (by kernel_rfl)) (rv := zvC) (by kernel_rfl) (zHL fuel)
theorem zbv (fuel : Nat) : EntryOK Tryz.prog 46 (zas fuel).te := EntryOK.tf rfl (zHM fuel) (isFn (fn := Tryz.f46) (by kernel_rfl) (by kernel_rfl) (by kernel_rfl))
end Go.Proofs.YtdgdoeknpakmlaaGreat.Den
namespace Go.Proofs.YtdgdoeknpakmlaaGreat.Den
open Go Go.RowKit
abbrev zo := Option (((List (List Int)) × Unit) × ((Bool × Unit) × Unit))
def zP (fuel : Nat) : Tab := Tab.of [(135, (zdR fuel).te), (141, (zdS fuel).te), (146, (zmL fuel).te)] []
abbrev zjO : List Pm := [{ cs := [(Kd.list (Kd.list I6), false)], ag := true }, { cs := [(Kd.list (Kd.list I6), false)], ag := true }]
abbrev zat : List Pm := [{ cs := [(Kd.list (Kd.list I6), false)], ag := true }, { cs := [(Kd.bool, false)], ag := false }]
def zvD : List Norm := [{ live := [7, 6, 3, 4], fix := [] }, { live := [8, 6, 7, 3, 4], fix := [] }]
noncomputable def zx : C := irOf Tryz.prog Tryz.f99 [] zvD []
theorem zHN : lightC Tryz.prog [] Tryz.f99.ntmps zvD [] 0 (bodyOf Tryz.f99) = some (zx, 2) := by kernel_rfl
def zau : List (Nat × Option (Nat × Bool)) := [(4, some (1, true)), (5, none)]
inductive zQ where
  | c0 (v : (List (List Int)) × (List Int) × (List Int) × (List Int))
  | c1 (v : (List (List Int)) × (List Int) × (List Int) × (List Int))
  | c2 (v : (List (List Int)) × (List Int) × (List Int) × (List Int))
  | c3 (v : (List (List Int)) × (List Int) × (List Int) × (List Int))
inductive zcQ where
  | c0 (v : (Int) × (List (List Int)) × (List Int) × (List Int) × (List Int))
  | c1 (v : (Int) × (List (List Int)) × (List Int) × (List Int) × (List Int))
  | c2 (v : (Int) × (List (List Int)) × (List Int) × (List Int) × (List Int))
def z7 (v : zQ) : Env × Heap := match v with
  | .c0 v => ([(7, SV.int .i64 (Int.ofNat 0)), (6, SV.ptr 0 0), (3, SV.ptr 1 0), (4, SV.ptr 2 0)], [Blk.cells [SV.own 3] 0 1, Blk.cells [SV.es (Kd.list I6) v.1] 0 1, Blk.cells [SV.nils] 0 1, Blk.cells [SV.own 4, SV.own 5, SV.own 6] 0 1, Blk.arr I6 v.2.1 0, Blk.arr I6 v.2.2.1 0, Blk.arr I6 v.2.2.2 0])
  | .c1 v => ([(7, SV.int .i64 (Int.ofNat 1)), (6, SV.ptr 0 0), (3, SV.ptr 1 0), (4, SV.ptr 2 0)], [Blk.cells [SV.own 3] 0 1, Blk.cells [SV.es (Kd.list I6) v.1] 0 1, Blk.cells [SV.nils] 0 1, Blk.cells [SV.own 4, SV.own 5, SV.own 6] 0 1, Blk.arr I6 v.2.1 0, Blk.arr I6 v.2.2.1 0, Blk.arr I6 v.2.2.2 0])
  | .c2 v => ([(7, SV.int .i64 (Int.ofNat 2)), (6, SV.ptr 0 0), (3, SV.ptr 1 0), (4, SV.ptr 2 0)], [Blk.cells [SV.own 3] 0 1, Blk.cells [SV.es (Kd.list I6) v.1] 0 1, Blk.cells [SV.nils] 0 1, Blk.cells [SV.own 4, SV.own 5, SV.own 6] 0 1, Blk.arr I6 v.2.1 0, Blk.arr I6 v.2.2.1 0, Blk.arr I6 v.2.2.2 0])
  | .c3 v => ([(7, SV.int .i64 (Int.ofNat 3)), (6, SV.ptr 0 0), (3, SV.ptr 1 0), (4, SV.ptr 2 0)], [Blk.cells [SV.own 3] 0 1, Blk.cells [SV.es (Kd.list I6) v.1] 0 1, Blk.cells [SV.nils] 0 1, Blk.cells [SV.own 4, SV.own 5, SV.own 6] 0 1, Blk.arr I6 v.2.1 0, Blk.arr I6 v.2.2.1 0, Blk.arr I6 v.2.2.2 0])
def zcR (v : zcQ) : Env × Heap := match v with
  | .c0 v => ([(8, SV.int .i64 v.1), (6, SV.ptr 0 0), (7, SV.int .i64 (Int.ofNat 0)), (3, SV.ptr 1 0), (4, SV.ptr 2 0)], [Blk.cells [SV.own 3] 0 1, Blk.cells [SV.es (Kd.list I6) v.2.1] 0 1, Blk.cells [SV.nils] 0 1, Blk.cells [SV.own 4, SV.own 5, SV.own 6] 0 1, Blk.arr I6 v.2.2.1 0, Blk.arr I6 v.2.2.2.1 0, Blk.arr I6 v.2.2.2.2 0])
  | .c1 v => ([(8, SV.int .i64 v.1), (6, SV.ptr 0 0), (7, SV.int .i64 (Int.ofNat 1)), (3, SV.ptr 1 0), (4, SV.ptr 2 0)], [Blk.cells [SV.own 3] 0 1, Blk.cells [SV.es (Kd.list I6) v.2.1] 0 1, Blk.cells [SV.nils] 0 1, Blk.cells [SV.own 4, SV.own 5, SV.own 6] 0 1, Blk.arr I6 v.2.2.1 0, Blk.arr I6 v.2.2.2.1 0, Blk.arr I6 v.2.2.2.2 0])
  | .c2 v => ([(8, SV.int .i64 v.1), (6, SV.ptr 0 0), (7, SV.int .i64 (Int.ofNat 2)), (3, SV.ptr 1 0), (4, SV.ptr 2 0)], [Blk.cells [SV.own 3] 0 1, Blk.cells [SV.es (Kd.list I6) v.2.1] 0 1, Blk.cells [SV.nils] 0 1, Blk.cells [SV.own 4, SV.own 5, SV.own 6] 0 1, Blk.arr I6 v.2.2.1 0, Blk.arr I6 v.2.2.2.1 0, Blk.arr I6 v.2.2.2.2 0])
def zp (fuel : Nat) (g0 : zQ → zo) (g1 : zcQ → zo) (v : zcQ) : zo := match v with
  | .c0 v => cond (decide (v.1 < (8 : Int)))
    (tst (decide (0 ≤ v.1)) <|
     tst (decide (v.1 < (zz (List.length v.2.2.1)))) <|
     tst (decide (Int.toNat v.1 < List.length v.2.2.1)) <|
     tst (decide ((0 : Int) < (zz (List.length v.2.1)))) <|
     tst (decide (0 ≤ v.1)) <|
     tst (decide (v.1 < (zz (List.length (List.getD v.2.1 (Int.toNat (0 : Int)) []))))) <|
     tst (decide (0 ≤ v.1)) <|
     tst (decide (v.1 < (zz (List.length v.2.2.1)))) <|
     tst (decide (Int.toNat v.1 < List.length v.2.2.1)) <|
     g1 (.c0 (w64 (v.1 + (1 : Int)), v.2.1, List.set v.2.2.1 (Int.toNat v.1) (w64 (List.getD v.2.2.1 (Int.toNat v.1) 0 + List.getD (List.getD v.2.1 (Int.toNat (0 : Int)) []) (Int.toNat v.1) 0)), v.2.2.2.1, v.2.2.2.2)))
    (g0 (.c1 (v.2.1, v.2.2.1, v.2.2.2.1, v.2.2.2.2)))
  | .c1 v => cond (decide (v.1 < (8 : Int)))
    (tst (decide (0 ≤ v.1)) <|
     tst (decide (v.1 < (zz (List.length v.2.2.2.1)))) <|
     tst (decide (Int.toNat v.1 < List.length v.2.2.2.1)) <|
     tst (decide ((1 : Int) < (zz (List.length v.2.1)))) <|
     tst (decide (0 ≤ v.1)) <|
     tst (decide (v.1 < (zz (List.length (List.getD v.2.1 (Int.toNat (1 : Int)) []))))) <|
     tst (decide (0 ≤ v.1)) <|
     tst (decide (v.1 < (zz (List.length v.2.2.2.1)))) <|
     tst (decide (Int.toNat v.1 < List.length v.2.2.2.1)) <|
     g1 (.c1 (w64 (v.1 + (1 : Int)), v.2.1, v.2.2.1, List.set v.2.2.2.1 (Int.toNat v.1) (w64 (List.getD v.2.2.2.1 (Int.toNat v.1) 0 + List.getD (List.getD v.2.1 (Int.toNat (1 : Int)) []) (Int.toNat v.1) 0)), v.2.2.2.2)))
    (g0 (.c2 (v.2.1, v.2.2.1, v.2.2.2.1, v.2.2.2.2)))
  | .c2 v => cond (decide (v.1 < (8 : Int)))
    (tst (decide (0 ≤ v.1)) <|
     tst (decide (v.1 < (zz (List.length v.2.2.2.2)))) <|
     tst (decide (Int.toNat v.1 < List.length v.2.2.2.2)) <|
     tst (decide ((2 : Int) < (zz (List.length v.2.1)))) <|
     tst (decide (0 ≤ v.1)) <|
     tst (decide (v.1 < (zz (List.length (List.getD v.2.1 (Int.toNat (2 : Int)) []))))) <|
     tst (decide (0 ≤ v.1)) <|
     tst (decide (v.1 < (zz (List.length v.2.2.2.2)))) <|
     tst (decide (Int.toNat v.1 < List.length v.2.2.2.2)) <|
     g1 (.c2 (w64 (v.1 + (1 : Int)), v.2.1, v.2.2.1, v.2.2.2.1, List.set v.2.2.2.2 (Int.toNat v.1) (w64 (List.getD v.2.2.2.2 (Int.toNat v.1) 0 + List.getD (List.getD v.2.1 (Int.toNat (2 : Int)) []) (Int.toNat v.1) 0)))))
    (g0 (.c3 (v.2.1, v.2.2.1, v.2.2.2.1, v.2.2.2.2)))
def zav (fuel : Nat) (g0 : zQ → zo) (g1 : zcQ → zo) : zcQ → zo := zp fuel g0 g1
theorem zHO (fuel : Nat) (G) : zx.lp (zP fuel) 0 fuel G (endF zau zat) 1 zcR = iter (zav fuel (fun v => G 0 (z7 v).1 (z7 v).2)) fuel := C.lp_iter fun g v =>
  (show run (zP fuel) 0 fuel (zx.bdAt 1) (zcR v).1 (zcR v).2 (loopK 0 (zx.nmAt 1) g (zx.contAt (zP fuel) 0 fuel G 0 1 (endF zau zat))) = zp fuel (fun v => G 0 (z7 v).1 (z7 v).2) (fun v => g (zcR v).1 (zcR v).2) v by cases v <;> kernel_rfl)
def zbw (fuel : Nat) (X1 : zcQ → zo) (g0 : zQ → zo) (v : zQ) : zo := match v with
  | .c0 v => X1 (.c0 ((0 : Int), v.1, v.2.1, v.2.2.1, v.2.2.2))
  | .c1 v => X1 (.c1 ((0 : Int), v.1, v.2.1, v.2.2.1, v.2.2.2))
  | .c2 v => X1 (.c2 ((0 : Int), v.1, v.2.1, v.2.2.1, v.2.2.2))
  | .c3 v => some ((([v.2.1, v.2.2.1, v.2.2.2], ()), (true, ()), ()))
def zcS (fuel : Nat) (g0 : zQ → zo) : zQ → zo := zbw fuel (iter (zav fuel g0) fuel) g0
theorem zHP (fuel : Nat) (G) : zx.lp (zP fuel) 0 fuel G (endF zau zat) 0 z7 = iter (zcS fuel) fuel := C.lp_iter fun g v =>
  (show run (zP fuel) 0 fuel (zx.bdAt 0) (z7 v).1 (z7 v).2 (loopK 0 (zx.nmAt 0) g (zx.contAt (zP fuel) 0 fuel G 0 0 (endF zau zat))) = zbw fuel (zx.lp (zP fuel) 0 fuel (fun m => bif Nat.beq m 0 then g else G m) (endF zau zat) 1 zcR) (fun v => g (z7 v).1 (z7 v).2) v by cases v <;> kernel_rfl).trans (by rw [zHO]; rfl)
def zjP (fuel : Nat) (X0 : zQ → zo) (x0 : List (List Int)) (x1 : List (List Int)) : zo :=
 Option.bind (zbd fuel ((x0, ()), ())) fun y_1 =>
 cond (!y_1.1.1)
 (some ((([], ()), (false, ()), ())))
 (Option.bind (zbd fuel ((x1, ()), ())) fun y_3 =>
 cond (!y_3.1.1)
 (some ((([], ()), (false, ()), ())))
 (tst (decide ((0 : Int) < (zz (List.length x0)))) <|
 Option.bind (zJ fuel ((List.getD x0 (Int.toNat (0 : Int)) [], ()), ())) fun y_5 =>
 tst (decide ((0 : Int) < (zz (List.length x1)))) <|
 Option.bind (zJ fuel ((List.getD x1 (Int.toNat (0 : Int)) [], ()), ())) fun y_6 =>
 cond (decide (w64 (y_5.1.1 + y_6.1.1) > (2000 : Int)))
 (some ((([], ()), (false, ()), ())))
 (Option.bind (zmK fuel ((x0, ()), ())) fun y_8 =>
 X0 (.c0 (x1, List.getD y_8.1.1 0 [], List.getD y_8.1.1 1 [], List.getD y_8.1.1 2 [])))))
def zjQ (fuel : Nat) (x : (((List (List Int)) × Unit) × (((List (List Int)) × Unit) × Unit))) : zo := zjP fuel (iter (zcS fuel) fuel) x.1.1 x.2.1.1
theorem zHQ (fuel : Nat) (x : PsT zjO) : run (zP fuel) 0 fuel zx (env0 (svPs zjO x) 0) [] (endF zau zat) = zjQ fuel x :=
  (show run (zP fuel) 0 fuel zx (env0 (svPs zjO x) 0) [] (endF zau zat) = zjP fuel (zx.lp (zP fuel) 0 fuel (fun _ _ _ => none) (endF zau zat) 0 z7) x.1.1 x.2.1.1 by kernel_rfl).trans (by rw [zHP]; rfl)
def zoe (fuel : Nat) : TF := ⟨zjO, zat, false, zjQ fuel⟩
theorem zHR (fuel : Nat) : FnSpec Tryz.prog 99 (zoe fuel) :=
  fn_spec (T := zP fuel) (c := bodyOf Tryz.f99) (fn := Tryz.f99) (TabOK.of (entCons (zmA fuel) (entCons (zmC fuel) (entCons (zEs fuel) entNil))) (methNil)) mixed (by kernel_rfl) (by kernel_rfl) zHN (by kernel_rfl) (Nat.le_of_ble_eq_true (by kernel_rfl)) (rv := zau) (by kernel_rfl) (zHQ fuel)
theorem zHS (fuel : Nat) : EntryOK Tryz.prog 99 (zoe fuel).te := EntryOK.tf rfl (zHR fuel) (isFn (fn := Tryz.f99) (by kernel_rfl) (by kernel_rfl) (by kernel_rfl))
abbrev zbx := Option (((List Int) × Unit) × ((Bool × Unit) × Unit))
def zfT (fuel : Nat) : Tab := Tab.of [(142, (zio fuel).te), (147, (zmM fuel).te)] []
abbrev zjR : List Pm := [{ cs := [(Kd.list I6, false)], ag := true }, { cs := [(Kd.list I6, false)], ag := true }]
abbrev zfU : List Pm := [{ cs := [(Kd.list I6, true)], ag := true }, { cs := [(Kd.bool, false)], ag := false }]
def zvE : List Norm := [{ live := [7, 3, 6, 4], fix := [] }]
noncomputable def zfV : C := irOf Tryz.prog Tryz.f100 [] zvE []
theorem zHT : lightC Tryz.prog [] Tryz.f100.ntmps zvE [] 0 (bodyOf Tryz.f100) = some (zfV, 1) := by kernel_rfl
def zfW : List (Nat × Option (Nat × Bool)) := [(4, some (1, true)), (5, none)]
abbrev zcT := (Int) × (List Int) × (List Int)
def zvF (v : zcT) : Env × Heap := ([(7, SV.int .i64 v.1), (3, SV.ptr 0 0), (6, SV.own 1), (4, SV.ptr 2 0)], [Blk.cells [SV.es I6 v.2.1] 0 1, Blk.arr I6 v.2.2 0, Blk.cells [SV.nils] 0 1])
def zfX (fuel : Nat) (g0 : zcT → zbx) (v : zcT) : zbx :=
 cond (decide (v.1 < (zz (List.length v.2.1))))
 (tst (decide (0 ≤ v.1)) <|
 tst (decide (v.1 < (zz (List.length v.2.1)))) <|
 Option.bind (zb6 fuel ((v.2.2, ()), (List.getD v.2.1 (Int.toNat v.1) 0, ()), ())) fun y_2 =>
 g0 (w64 (v.1 + (1 : Int)), v.2.1, y_2.1.1))
 (some (((v.2.2, ()), (true, ()), ())))
def zjS (fuel : Nat) (g0 : zcT → zbx) : zcT → zbx := zfX fuel g0
theorem zHU (fuel : Nat) (G) : zfV.lp (zfT fuel) 0 fuel G (endF zfW zfU) 0 zvF = iter (zjS fuel) fuel := C.lp_iter fun g v => by kernel_rfl
def zjT (fuel : Nat) (X0 : zcT → zbx) (x0 : List Int) (x1 : List Int) : zbx :=
 Option.bind (zb0 fuel ((x0, ()), ())) fun y_1 =>
 cond (!y_1.1.1)
 (some ((([], ()), (false, ()), ())))
 (Option.bind (zb0 fuel ((x1, ()), ())) fun y_3 =>
 cond (!y_3.1.1)
 (some ((([], ()), (false, ()), ())))
 (tst (decide (0 + List.length x0 < LIM)) <|
 X0 ((0 : Int), x1, [] ++ x0)))
def zjU (fuel : Nat) (x : (((List Int) × Unit) × (((List Int) × Unit) × Unit))) : zbx := zjT fuel (iter (zjS fuel) fuel) x.1.1 x.2.1.1
theorem zHV (fuel : Nat) (x : PsT zjR) : run (zfT fuel) 0 fuel zfV (env0 (svPs zjR x) 0) [] (endF zfW zfU) = zjU fuel x :=
  (show run (zfT fuel) 0 fuel zfV (env0 (svPs zjR x) 0) [] (endF zfW zfU) = zjT fuel (zfV.lp (zfT fuel) 0 fuel (fun _ _ _ => none) (endF zfW zfU) 0 zvF) x.1.1 x.2.1.1 by kernel_rfl).trans (by rw [zHU]; rfl)
def zof (fuel : Nat) : TF := ⟨zjR, zfU, true, zjU fuel⟩
theorem zHW (fuel : Nat) : FnSpec Tryz.prog 100 (zof fuel) :=
  fn_spec (T := zfT fuel) (c := bodyOf Tryz.f100) (fn := Tryz.f100) (TabOK.of (entCons (zr1 fuel) (entCons (zEx fuel) entNil)) (methNil)) mixed (by kernel_rfl) (by kernel_rfl) zHT (by kernel_rfl) (Nat.le_of_ble_eq_true (by kernel_rfl)) (rv := zfW) (by kernel_rfl) (zHV fuel)
theorem zHX (fuel : Nat) : EntryOK Tryz.prog 100 (zof fuel).te := EntryOK.tf rfl (zHW fuel) (isFn (fn := Tryz.f100) (by kernel_rfl) (by kernel_rfl) (by kernel_rfl))
abbrev zby := Option ((LP × (Int × (Int × Unit))) × ((Bool × Unit) × Unit))
def zfY (fuel : Nat) : Tab := Tab.of [(143, (ziv fuel).te), (148, (zmN fuel).te), (149, (zmT fuel).te)] []
abbrev zjV : List Pm := [{ cs := [(Kd.list KP, false), (I6, false), (I6, false)], ag := true }, { cs := [(Kd.list KP, false), (I6, false), (I6, false)], ag := true }]
abbrev zfZ : List Pm := [{ cs := [(Kd.list KP, true), (I6, false), (I6, false)], ag := true }, { cs := [(Kd.bool, false)], ag := false }]
def zvG : List Norm := [{ live := [7, 3, 6, 2, 4], fix := [] }]
noncomputable def zf0 : C := irOf Tryz.prog Tryz.f101 [] zvG []
theorem zHY : lightC Tryz.prog [] Tryz.f101.ntmps zvG [] 0 (bodyOf Tryz.f101) = some (zf0, 1) := by kernel_rfl
def zf1 : List (Nat × Option (Nat × Bool)) := [(4, some (3, true)), (5, none)]
abbrev zcU := (Int) × LP × (Int) × (Int) × LP × LP × (Int) × (Int) × (Int) × (Int)
def zvH (v : zcU) : Env × Heap := ([(7, SV.int .i64 v.1), (3, SV.ptr 0 0), (6, SV.own 1), (2, SV.ptr 2 0), (4, SV.ptr 3 0)], [Blk.cells [SV.es KP v.2.1, SV.int .i64 v.2.2.1, SV.int .i64 v.2.2.2.1] 0 3, Blk.arr KP v.2.2.2.2.1 0, Blk.cells [SV.es KP v.2.2.2.2.2.1, SV.int .i64 v.2.2.2.2.2.2.1, SV.int .i64 v.2.2.2.2.2.2.2.1] 0 3, Blk.cells [SV.nils, SV.int .i64 v.2.2.2.2.2.2.2.2.1, SV.int .i64 v.2.2.2.2.2.2.2.2.2] 0 3])
def zf2 (fuel : Nat) (g0 : zcU → zby) (v : zcU) : zby :=
 cond (decide (v.1 < (zz (List.length v.2.1))))
 (tst (decide (0 ≤ v.1)) <|
 tst (decide (v.1 < (zz (List.length v.2.1)))) <|
 Option.bind (zbg fuel ((v.2.2.2.2.1, ()), ((List.getD v.2.1 (Int.toNat v.1) (0, (0, ()))).1, (List.getD v.2.1 (Int.toNat v.1) (0, (0, ()))).2.1, ()), ())) fun y_2 =>
 g0 (w64 (v.1 + (1 : Int)), v.2.1, v.2.2.1, v.2.2.2.1, y_2.1.1, v.2.2.2.2.2.1, v.2.2.2.2.2.2.1, v.2.2.2.2.2.2.2.1, v.2.2.2.2.2.2.2.2.1, v.2.2.2.2.2.2.2.2.2))
 (Option.bind (zbi fuel ((v.2.2.2.2.1, w64 (v.2.2.2.2.2.2.1 + v.2.2.1), w64 (v.2.2.2.2.2.2.2.1 + v.2.2.2.1), ()), ())) fun y_2 =>
 some (((y_2.1.1, y_2.1.2.1, y_2.1.2.2.1, ()), (true, ()), ())))
def zjW (fuel : Nat) (g0 : zcU → zby) : zcU → zby := zf2 fuel g0
theorem zHZ (fuel : Nat) (G) : zf0.lp (zfY fuel) 0 fuel G (endF zf1 zfZ) 0 zvH = iter (zjW fuel) fuel := C.lp_iter fun g v => by kernel_rfl
def zjX (fuel : Nat) (X0 : zcU → zby) (x0 : LP) (x1 : Int) (x2 : Int) (x3 : LP) (x4 : Int) (x5 : Int) : zby :=
 Option.bind (zb3 fuel ((x0, x1, x2, ()), ())) fun y_1 =>
 cond (!y_1.1.1)
 (some ((([], (0 : Int), (0 : Int), ()), (false, ()), ())))
 (Option.bind (zb3 fuel ((x3, x4, x5, ()), ())) fun y_3 =>
 cond (!y_3.1.1)
 (some ((([], (0 : Int), (0 : Int), ()), (false, ()), ())))
 (cond (decide (w64 (x2 + x5) > (2000 : Int)))
 (some ((([], (0 : Int), (0 : Int), ()), (false, ()), ())))
 (tst (decide (0 + List.length x0 < LIM)) <|
 X0 ((0 : Int), x3, x4, x5, [] ++ x0, x0, x1, x2, (0 : Int), (0 : Int)))))
def zjY (fuel : Nat) (x : ((LP × (Int × (Int × Unit))) × ((LP × (Int × (Int × Unit))) × Unit))) : zby := zjX fuel (iter (zjW fuel) fuel) x.1.1 x.1.2.1 x.1.2.2.1 x.2.1.1 x.2.1.2.1 x.2.1.2.2.1
theorem zH0 (fuel : Nat) (x : PsT zjV) : run (zfY fuel) 0 fuel zf0 (env0 (svPs zjV x) 0) [] (endF zf1 zfZ) = zjY fuel x :=
  (show run (zfY fuel) 0 fuel zf0 (env0 (svPs zjV x) 0) [] (endF zf1 zfZ) = zjX fuel (zf0.lp (zfY fuel) 0 fuel (fun _ _ _ => none) (endF zf1 zfZ) 0 zvH) x.1.1 x.1.2.1 x.1.2.2.1 x.2.1.1 x.2.1.2.1 x.2.1.2.2.1 by kernel_rfl).trans (by rw [zHZ]; rfl)
def zog (fuel : Nat) : TF := ⟨zjV, zfZ, true, zjY fuel⟩
theorem zH1 (fuel : Nat) : FnSpec Tryz.prog 101 (zog fuel) :=
  fn_spec (T := zfY fuel) (c := bodyOf Tryz.f101) (fn := Tryz.f101) (TabOK.of (entCons (zr8 fuel) (entCons (zEC fuel) (entCons (zER fuel) entNil))) (methNil)) mixed (by kernel_rfl) (by kernel_rfl) zHY (by kernel_rfl) (Nat.le_of_ble_eq_true (by kernel_rfl)) (rv := zf1) (by kernel_rfl) (zH0 fuel)
theorem zH2 (fuel : Nat) : EntryOK Tryz.prog 101 (zog fuel).te := EntryOK.tf rfl (zH1 fuel) (isFn (fn := Tryz.f101) (by kernel_rfl) (by kernel_rfl) (by kernel_rfl))
def zvI (fuel : Nat) : Tab := Tab.of [(144, (zid fuel).te), (150, (zmV fuel).te), (151, (zmX fuel).te), (152, (zmZ fuel).te)] []
abbrev zoh : List Pm := [{ cs := [(Kd.list KP, false), (I6, false)], ag := true }, { cs := [(Kd.list KP, false), (I6, false)], ag := true }]
abbrev zvJ : List Pm := [{ cs := [(Kd.list KP, true), (I6, false)], ag := true }, { cs := [(Kd.bool, false)], ag := false }]
def zvK : List Norm := []
noncomputable def zvL : C := irOf Tryz.prog Tryz.f102 [27, 41, 43] zvK []
theorem zH3 : lightC Tryz.prog [27, 41, 43] Tryz.f102.ntmps zvK [] 0 (bodyOf Tryz.f102) = some (zvL, 0) := by kernel_rfl
def zvM : List (Nat × Option (Nat × Bool)) := [(4, some (2, true)), (5, none)]
def zoi (fuel : Nat) (x0 : LP) (x1 : Int) (x2 : LP) (x3 : Int) : Option ((LP × (Int × Unit)) × ((Bool × Unit) × Unit)) :=
 Option.bind (zbb fuel ((x0, x1, ()), ())) fun y_1 =>
 cond (!y_1.1.1)
 (some ((([], (0 : Int), ()), (false, ()), ())))
 (Option.bind (zbb fuel ((x2, x3, ()), ())) fun y_3 =>
 cond (!y_3.1.1)
 (some ((([], (0 : Int), ()), (false, ()), ())))
 (cond (decide (w64 (x1 + x3) > (2000 : Int)))
 (some ((([], (0 : Int), ()), (false, ()), ())))
 (tst (decide (0 + List.length x0 < LIM)) <|
 tst (decide (List.length ([] ++ x0) + List.length x2 < LIM)) <|
 Option.bind (zew fuel (([] ++ x0 ++ x2, ()), ())) fun y_6 =>
 Option.bind (zeI fuel (y_6.1.1, (), (w64 (x1 + x3), ()), ())) fun y_7 =>
 Option.bind (zeC fuel ((y_7.1, ()), ())) fun y_8 =>
 some (((y_8.1.1, w64 (x1 + x3), ()), (true, ()), ())))))
def zf3 (fuel : Nat) (x : ((LP × (Int × Unit)) × ((LP × (Int × Unit)) × Unit))) : Option ((LP × (Int × Unit)) × ((Bool × Unit) × Unit)) := zoi fuel x.1.1 x.1.2.1 x.2.1.1 x.2.1.2.1
theorem zH4 (fuel : Nat) (x : PsT zoh) : run (zvI fuel) 0 fuel zvL (env0 (svPs zoh x) 0) [] (endF zvM zvJ) = zf3 fuel x := by kernel_rfl
def zoj (fuel : Nat) : TF := ⟨zoh, zvJ, true, zf3 fuel⟩
theorem zH5 (fuel : Nat) : FnSpec Tryz.prog 102 (zoj fuel) :=
  fn_spec (T := zvI fuel) (c := bodyOf Tryz.f102) (fn := Tryz.f102) (TabOK.of (entCons (zrQ fuel) (entCons (zEW fuel) (entCons (zE1 fuel) (entCons (zE6 fuel) entNil)))) (methNil)) mixed (by kernel_rfl) (by kernel_rfl) zH3 (by kernel_rfl) (Nat.le_of_ble_eq_true (by kernel_rfl)) (rv := zvM) (by kernel_rfl) (zH4 fuel)
theorem zH6 (fuel : Nat) : EntryOK Tryz.prog 102 (zoj fuel).te := EntryOK.tf rfl (zH5 fuel) (isFn (fn := Tryz.f102) (by kernel_rfl) (by kernel_rfl) (by kernel_rfl))
def zvN (fuel : Nat) : Tab := Tab.of [(98, (zmJ fuel).te), (99, (zoe fuel).te), (100, (zof fuel).te), (101, (zog fuel).te), (102, (zoj fuel).te)] []
abbrev zok : List Pm := [{ cs := [(Kd.list (Kd.list I6), false), (Kd.list I6, false), (Kd.list KP, false), (I6, false), (I6, false), (Kd.list KP, false), (I6, false)], ag := true }, { cs := [(Kd.list (Kd.list I6), false), (Kd.list I6, false), (Kd.list KP, false), (I6, false), (I6, false), (Kd.list KP, false), (I6, false)], ag := true }]
abbrev zvO : List Pm := [{ cs := [(Kd.list (Kd.list I6), false), (Kd.list I6, true), (Kd.list KP, true), (I6, false), (I6, false), (Kd.list KP, true), (I6, false)], ag := true }, { cs := [(Kd.bool, false)], ag := false }]
def zvP : List Norm := []
noncomputable def zvQ : C := irOf Tryz.prog Tryz.f54 [] zvP []
theorem zH7 : lightC Tryz.prog [] Tryz.f54.ntmps zvP [] 0 (bodyOf Tryz.f54) = some (zvQ, 0) := by kernel_rfl
def zvR : List (Nat × Option (Nat × Bool)) := [(4, some (7, true)), (5, none)]
def zbz (fuel : Nat) (x0 : List (List Int)) (x1 : List Int) (x2 : LP) (x3 : Int) (x4 : Int) (x5 : LP) (x6 : Int) (x7 : List (List Int)) (x8 : List Int) (x9 : LP) (x10 : Int) (x11 : Int) (x12 : LP) (x13 : Int) : Option (SumY × ((Bool × Unit) × Unit)) :=
 Option.bind (zb4 fuel ((x0, x1, x2, x3, x4, x5, x6, ()), ())) fun y_1 =>
 cond (!y_1.1.1)
 (some ((([], [], [], (0 : Int), (0 : Int), [], (0 : Int), ()), (false, ()), ())))
 (Option.bind (zb4 fuel ((x7, x8, x9, x10, x11, x12, x13, ()), ())) fun y_3 =>
 cond (!y_3.1.1)
 (some ((([], [], [], (0 : Int), (0 : Int), [], (0 : Int), ()), (false, ()), ())))
 (cond (decide (w64 (x4 + x11) > (2000 : Int)))
 (some ((([], [], [], (0 : Int), (0 : Int), [], (0 : Int), ()), (false, ()), ())))
 (Option.bind (zjQ fuel ((x0, ()), (x7, ()), ())) fun y_6 =>
 Option.bind (zjU fuel ((x1, ()), (x8, ()), ())) fun y_7 =>
 Option.bind (zjY fuel ((x2, x3, x4, ()), (x9, x10, x11, ()), ())) fun y_8 =>
 Option.bind (zf3 fuel ((x5, x6, ()), (x12, x13, ()), ())) fun y_9 =>
 some (((y_6.1.1, y_7.1.1, y_8.1.1, y_8.1.2.1, y_8.1.2.2.1, y_9.1.1, y_9.1.2.1, ()), (true, ()), ())))))
def zcV (fuel : Nat) (x : (SumY × (SumY × Unit))) : Option (SumY × ((Bool × Unit) × Unit)) := zbz fuel x.1.1 x.1.2.1 x.1.2.2.1 x.1.2.2.2.1 x.1.2.2.2.2.1 x.1.2.2.2.2.2.1 x.1.2.2.2.2.2.2.1 x.2.1.1 x.2.1.2.1 x.2.1.2.2.1 x.2.1.2.2.2.1 x.2.1.2.2.2.2.1 x.2.1.2.2.2.2.2.1 x.2.1.2.2.2.2.2.2.1
theorem zH8 (fuel : Nat) (x : PsT zok) : run (zvN fuel) 0 fuel zvQ (env0 (svPs zok x) 0) [] (endF zvR zvO) = zcV fuel x := by kernel_rfl
def zjZ (fuel : Nat) : TF := ⟨zok, zvO, false, zcV fuel⟩
theorem zH9 (fuel : Nat) : FnSpec Tryz.prog 54 (zjZ fuel) :=
  fn_spec (T := zvN fuel) (c := bodyOf Tryz.f54) (fn := Tryz.f54) (TabOK.of (entCons (zEo fuel) (entCons (zHS fuel) (entCons (zHX fuel) (entCons (zH2 fuel) (entCons (zH6 fuel) entNil))))) (methNil)) mixed (by kernel_rfl) (by kernel_rfl) zH7 (by kernel_rfl) (Nat.le_of_ble_eq_true (by kernel_rfl)) (rv := zvR) (by kernel_rfl) (zH8 fuel)
theorem zvS (fuel : Nat) : EntryOK Tryz.prog 54 (zjZ fuel).te := EntryOK.tf rfl (zH9 fuel) (isFn (fn := Tryz.f54) (by kernel_rfl) (by kernel_rfl) (by kernel_rfl))
def zvT (fuel : Nat) : Tab := Tab.of [(94, (zig fuel).te), (105, (znY fuel).te)] []
abbrev zol : List Pm := [{ cs := [(Kd.list KP, false), (I6, false)], ag := true }, { cs := [(Kd.list KP, false), (I6, false)], ag := true }]
abbrev zvU : List Pm := [{ cs := [(Kd.list KP, true), (I6, false)], ag := true }, { cs := [(Kd.bool, false)], ag := false }]
def zvV : List Norm := []
noncomputable def zvW : C := irOf Tryz.prog Tryz.f56 [] zvV []
theorem zIa : lightC Tryz.prog [] Tryz.f56.ntmps zvV [] 0 (bodyOf Tryz.f56) = some (zvW, 0) := by kernel_rfl
def zvX : List (Nat × Option (Nat × Bool)) := [(4, some (2, true)), (5, none)]
def zom (fuel : Nat) (x0 : LP) (x1 : Int) (x2 : LP) (x3 : Int) : Option ((LP × (Int × Unit)) × ((Bool × Unit) × Unit)) :=
 Option.bind (zbc fuel ((x0, x1, ()), ())) fun y_1 =>
 cond (!y_1.1.1)
 (some ((([], (0 : Int), ()), (false, ()), ())))
 (Option.bind (zbc fuel ((x2, x3, ()), ())) fun y_3 =>
 cond (!y_3.1.1)
 (some ((([], (0 : Int), ()), (false, ()), ())))
 (cond (decide (w64 (x1 + x3) > (2000 : Int)))
 (some ((([], (0 : Int), ()), (false, ()), ())))
 (Option.bind (zjI fuel ((x0, x1, ()), (x2, x3, ()), ())) fun y_6 =>
 some (((y_6.1.1, y_6.1.2.1, ()), (true, ()), ())))))
def zcW (fuel : Nat) (x : ((LP × (Int × Unit)) × ((LP × (Int × Unit)) × Unit))) : Option ((LP × (Int × Unit)) × ((Bool × Unit) × Unit)) := zom fuel x.1.1 x.1.2.1 x.2.1.1 x.2.1.2.1
theorem zIb (fuel : Nat) (x : PsT zol) : run (zvT fuel) 0 fuel zvW (env0 (svPs zol x) 0) [] (endF zvX zvU) = zcW fuel x := by kernel_rfl
def z8 (fuel : Nat) : TF := ⟨zol, zvU, true, zcW fuel⟩
theorem zIc (fuel : Nat) : FnSpec Tryz.prog 56 (z8 fuel) :=
  fn_spec (T := zvT fuel) (c := bodyOf Tryz.f56) (fn := Tryz.f56) (TabOK.of (entCons (zrT fuel) (entCons (zHq fuel) entNil)) (methNil)) mixed (by kernel_rfl) (by kernel_rfl) zIa (by kernel_rfl) (Nat.le_of_ble_eq_true (by kernel_rfl)) (rv := zvX) (by kernel_rfl) (zIb fuel)
theorem zaV (fuel : Nat) : EntryOK Tryz.prog 56 (z8 fuel).te := EntryOK.tf rfl (zIc fuel) (isFn (fn := Tryz.f56) (by kernel_rfl) (by kernel_rfl) (by kernel_rfl))
end Go.Proofs.YtdgdoeknpakmlaaGreat.Den
namespace Go.Proofs.YtdgdoeknpakmlaaGreat.Den
open Go Go.RowKit
def zvY (fuel : Nat) : Tab := Tab.of [(47, (zeU fuel).te), (89, (zcj fuel).te), (112, (ziX fuel).te)] []
abbrev zon : List Pm := [{ cs := [(Kd.list (Kd.list I6), false)], ag := true }, { cs := [(Kd.list (Kd.list I6), false)], ag := true }]
abbrev zvZ : List Pm := [{ cs := [(Kd.list (Kd.list I6), false)], ag := true }, { cs := [(Kd.bool, false)], ag := false }]
def zv0 : List Norm := []
noncomputable def zv1 : C := irOf Tryz.prog Tryz.f153 [] zv0 []
theorem zId : lightC Tryz.prog [] Tryz.f153.ntmps zv0 [] 0 (bodyOf Tryz.f153) = some (zv1, 0) := by kernel_rfl
def zv2 : List (Nat × Option (Nat × Bool)) := [(4, some (1, true)), (5, none)]
def zf4 (fuel : Nat) (x0 : List (List Int)) (x1 : List (List Int)) : Option (((List (List Int)) × Unit) × ((Bool × Unit) × Unit)) :=
 Option.bind (zaj fuel ((x0, ()), ())) fun y_1 =>
 cond (!y_1.1.1)
 (some ((([], ()), (false, ()), ())))
 (Option.bind (zaj fuel ((x1, ()), ())) fun y_3 =>
 cond (!y_3.1.1)
 (some ((([], ()), (false, ()), ())))
 (Option.bind (zaK fuel ((x0, ()), ())) fun y_5 =>
 Option.bind (zaK fuel ((x1, ()), ())) fun y_6 =>
 cond (decide (w64 (y_5.1.1 + y_6.1.1) > (2000 : Int)))
 (some ((([], ()), (false, ()), ())))
 (Option.bind (ze0 fuel ((x0, ()), (x1, ()), ())) fun y_8 =>
 some ((([List.getD y_8.1.1 0 [], List.getD y_8.1.1 1 [], List.getD y_8.1.1 2 []], ()), (true, ()), ())))))
def zf5 (fuel : Nat) (x : (((List (List Int)) × Unit) × (((List (List Int)) × Unit) × Unit))) : Option (((List (List Int)) × Unit) × ((Bool × Unit) × Unit)) := zf4 fuel x.1.1 x.2.1.1
theorem zIe (fuel : Nat) (x : PsT zon) : run (zvY fuel) 0 fuel zv1 (env0 (svPs zon x) 0) [] (endF zv2 zvZ) = zf5 fuel x := by kernel_rfl
def zaw (fuel : Nat) : TF := ⟨zon, zvZ, false, zf5 fuel⟩
theorem zIf (fuel : Nat) : FnSpec Tryz.prog 153 (zaw fuel) :=
  fn_spec (T := zvY fuel) (c := bodyOf Tryz.f153) (fn := Tryz.f153) (TabOK.of (entCons (zm7 fuel) (entCons (ziR fuel) (entCons (zts fuel) entNil))) (methNil)) mixed (by kernel_rfl) (by kernel_rfl) zId (by kernel_rfl) (Nat.le_of_ble_eq_true (by kernel_rfl)) (rv := zv2) (by kernel_rfl) (zIe fuel)
theorem zbA (fuel : Nat) : EntryOK Tryz.prog 153 (zaw fuel).te := EntryOK.tf rfl (zIf fuel) (isFn (fn := Tryz.f153) (by kernel_rfl) (by kernel_rfl) (by kernel_rfl))
def zv3 (fuel : Nat) : Tab := Tab.of [(84, (zi1 fuel).te), (113, (zmw fuel).te)] []
abbrev zoo : List Pm := [{ cs := [(Kd.list I6, false)], ag := true }, { cs := [(Kd.list I6, false)], ag := true }]
abbrev zv4 : List Pm := [{ cs := [(Kd.list I6, true)], ag := true }, { cs := [(Kd.bool, false)], ag := false }]
def zv5 : List Norm := []
noncomputable def zv6 : C := irOf Tryz.prog Tryz.f154 [] zv5 []
theorem zIg : lightC Tryz.prog [] Tryz.f154.ntmps zv5 [] 0 (bodyOf Tryz.f154) = some (zv6, 0) := by kernel_rfl
def zv7 : List (Nat × Option (Nat × Bool)) := [(4, some (1, true)), (5, none)]
def zop (fuel : Nat) (x0 : List Int) (x1 : List Int) : Option (((List Int) × Unit) × ((Bool × Unit) × Unit)) :=
 Option.bind (zco fuel ((x0, ()), ())) fun y_1 =>
 cond (!y_1.1.1)
 (some ((([], ()), (false, ()), ())))
 (Option.bind (zco fuel ((x1, ()), ())) fun y_3 =>
 cond (!y_3.1.1)
 (some ((([], ()), (false, ()), ())))
 (Option.bind (zmv fuel ((x0, ()), (x1, ()), ())) fun y_5 =>
 some (((y_5.1.1, ()), (true, ()), ()))))
def zf6 (fuel : Nat) (x : (((List Int) × Unit) × (((List Int) × Unit) × Unit))) : Option (((List Int) × Unit) × ((Bool × Unit) × Unit)) := zop fuel x.1.1 x.2.1.1
theorem zIh (fuel : Nat) (x : PsT zoo) : run (zv3 fuel) 0 fuel zv6 (env0 (svPs zoo x) 0) [] (endF zv7 zv4) = zf6 fuel x := by kernel_rfl
def z9 (fuel : Nat) : TF := ⟨zoo, zv4, true, zf6 fuel⟩
theorem zIi (fuel : Nat) : FnSpec Tryz.prog 154 (z9 fuel) :=
  fn_spec (T := zv3 fuel) (c := bodyOf Tryz.f154) (fn := Tryz.f154) (TabOK.of (entCons (ztv fuel) (entCons (zDJ fuel) entNil)) (methNil)) mixed (by kernel_rfl) (by kernel_rfl) zIg (by kernel_rfl) (Nat.le_of_ble_eq_true (by kernel_rfl)) (rv := zv7) (by kernel_rfl) (zIh fuel)
theorem zaW (fuel : Nat) : EntryOK Tryz.prog 154 (z9 fuel).te := EntryOK.tf rfl (zIi fuel) (isFn (fn := Tryz.f154) (by kernel_rfl) (by kernel_rfl) (by kernel_rfl))
def zv8 (fuel : Nat) : Tab := Tab.of [(46, (zas fuel).te), (56, (z8 fuel).te), (153, (zaw fuel).te), (154, (z9 fuel).te)] []
abbrev zoq : Sh := (.ifc 27 (.agg (.cell (Kd.list (Kd.list I6)) 0 .nil) .nil) (.ifc 27 (.agg (.cell (Kd.list (Kd.list I6)) 0 .nil) .nil) .nil))
abbrev zv9 : Sh := (.ifc 27 (.agg (.cell (Kd.list (Kd.list I6)) 0 .nil) .nil) (.cell Kd.bool 0 .nil))
def zwa : List Norm := []
noncomputable def zwb : C := irOf Tryz.prog Tryz.f103 [] zwa []
theorem zIj : lightC Tryz.prog [] Tryz.f103.ntmps zwa [] 0 (bodyOf Tryz.f103) = some (zwb, 0) := by kernel_rfl
def zwc : List (Nat × Option (Nat × Bool)) := [(4, none), (5, none)]
def zor (fuel : Nat) (x0 : List (List Int)) (x1 : List (List Int)) : Option ((((List (List Int)) × Unit) × Unit) × (Bool × Unit)) :=
 Option.bind (zf5 fuel ((x0, ()), (x1, ()), ())) fun y_1 =>
 some ((((y_1.1.1, ()), ()), y_1.2.1.1, ()))
def zj0 (fuel : Nat) (x : ((((List (List Int)) × Unit) × Unit) × ((((List (List Int)) × Unit) × Unit) × Unit))) : Option ((((List (List Int)) × Unit) × Unit) × (Bool × Unit)) := zor fuel x.1.1.1 x.2.1.1.1
theorem zIk (fuel : Nat) (x : Sh.T zoq) : run (zv8 fuel) 0 fuel zwb (env0 (svS zoq x) 0) [] (endG zwc zv9) = zj0 fuel x := by kernel_rfl
def zos (fuel : Nat) : TG := ⟨zoq, zv9, false, zj0 fuel⟩
theorem zIl (fuel : Nat) : FnSpecG Tryz.prog 103 (zos fuel) :=
  ze (T := zv8 fuel) (c := bodyOf Tryz.f103) (fn := Tryz.f103) (TabOK.of (entCons (zbv fuel) (entCons (zaV fuel) (entCons (zbA fuel) (entCons (zaW fuel) entNil)))) (methNil)) mixed (by kernel_rfl) (by kernel_rfl) zIj (by kernel_rfl) (Nat.le_of_ble_eq_true (by kernel_rfl)) (rv := zwc) (by kernel_rfl) (fun x y h => (zIk fuel x).trans h)
theorem zIm (fuel : Nat) : EntryOK Tryz.prog 103 (zos fuel).te := EntryOK.tg rfl (zIl fuel) (isFn (fn := Tryz.f103) (by kernel_rfl) (by kernel_rfl) (by kernel_rfl))
def zwd (fuel : Nat) : Tab := Tab.of [(46, (zas fuel).te), (56, (z8 fuel).te), (153, (zaw fuel).te), (154, (z9 fuel).te)] []
abbrev zot : Sh := (.ifc 29 (.agg (.cell (Kd.list I6) 0 .nil) .nil) (.ifc 29 (.agg (.cell (Kd.list I6) 0 .nil) .nil) .nil))
abbrev zwe : Sh := (.ifc 29 (.agg (.cell (Kd.list I6) 0 .nil) .nil) (.cell Kd.bool 0 .nil))
def zwf : List Norm := []
noncomputable def zwg : C := irOf Tryz.prog Tryz.f103 [] zwf []
theorem zIn : lightC Tryz.prog [] Tryz.f103.ntmps zwf [] 0 (bodyOf Tryz.f103) = some (zwg, 0) := by kernel_rfl
def zwh : List (Nat × Option (Nat × Bool)) := [(4, none), (5, none)]
def zIo (fuel : Nat) (x0 : List Int) (x1 : List Int) : Option ((((List Int) × Unit) × Unit) × (Bool × Unit)) :=
 Option.bind (zf6 fuel ((x0, ()), (x1, ()), ())) fun y_1 =>
 some ((((y_1.1.1, ()), ()), y_1.2.1.1, ()))
def zou (fuel : Nat) (x : ((((List Int) × Unit) × Unit) × ((((List Int) × Unit) × Unit) × Unit))) : Option ((((List Int) × Unit) × Unit) × (Bool × Unit)) := zIo fuel x.1.1.1 x.2.1.1.1
theorem zIp (fuel : Nat) (x : Sh.T zot) : run (zwd fuel) 0 fuel zwg (env0 (svS zot x) 0) [] (endG zwh zwe) = zou fuel x := by kernel_rfl
def zov (fuel : Nat) : TG := ⟨zot, zwe, false, zou fuel⟩
theorem zIq (fuel : Nat) : FnSpecG Tryz.prog 103 (zov fuel) :=
  ze (T := zwd fuel) (c := bodyOf Tryz.f103) (fn := Tryz.f103) (TabOK.of (entCons (zbv fuel) (entCons (zaV fuel) (entCons (zbA fuel) (entCons (zaW fuel) entNil)))) (methNil)) mixed (by kernel_rfl) (by kernel_rfl) zIn (by kernel_rfl) (Nat.le_of_ble_eq_true (by kernel_rfl)) (rv := zwh) (by kernel_rfl) (fun x y h => (zIp fuel x).trans h)
theorem zIr (fuel : Nat) : EntryOK Tryz.prog 103 (zov fuel).te := EntryOK.tg rfl (zIq fuel) (isFn (fn := Tryz.f103) (by kernel_rfl) (by kernel_rfl) (by kernel_rfl))
def zwi (fuel : Nat) : Tab := Tab.of [(46, (zas fuel).te), (56, (z8 fuel).te), (153, (zaw fuel).te), (154, (z9 fuel).te)] []
abbrev zow : Sh := (.ifc 32 (.agg (.cell (Kd.list KP) 0 (.cell I6 0 (.cell I6 0 .nil))) .nil) (.ifc 32 (.agg (.cell (Kd.list KP) 0 (.cell I6 0 (.cell I6 0 .nil))) .nil) .nil))
abbrev zwj : Sh := (.ifc 32 (.agg (.cell (Kd.list KP) 0 (.cell I6 0 (.cell I6 0 .nil))) .nil) (.cell Kd.bool 0 .nil))
def zwk : List Norm := []
noncomputable def zwl : C := irOf Tryz.prog Tryz.f103 [] zwk []
theorem zIs : lightC Tryz.prog [] Tryz.f103.ntmps zwk [] 0 (bodyOf Tryz.f103) = some (zwl, 0) := by kernel_rfl
def zwm : List (Nat × Option (Nat × Bool)) := [(4, none), (5, none)]
def zIt (fuel : Nat) (x0 : LP) (x1 : Int) (x2 : Int) (x3 : LP) (x4 : Int) (x5 : Int) : Option (((LP × (Int × (Int × Unit))) × Unit) × (Bool × Unit)) :=
 Option.bind (zfS fuel ((x0, x1, x2, ()), (x3, x4, x5, ()), ())) fun y_1 =>
 some ((((y_1.1.1, y_1.1.2.1, y_1.1.2.2.1, ()), ()), y_1.2.1.1, ()))
def zox (fuel : Nat) (x : (((LP × (Int × (Int × Unit))) × Unit) × (((LP × (Int × (Int × Unit))) × Unit) × Unit))) : Option (((LP × (Int × (Int × Unit))) × Unit) × (Bool × Unit)) := zIt fuel x.1.1.1 x.1.1.2.1 x.1.1.2.2.1 x.2.1.1.1 x.2.1.1.2.1 x.2.1.1.2.2.1
theorem zIu (fuel : Nat) (x : Sh.T zow) : run (zwi fuel) 0 fuel zwl (env0 (svS zow x) 0) [] (endG zwm zwj) = zox fuel x := by kernel_rfl
def zoy (fuel : Nat) : TG := ⟨zow, zwj, false, zox fuel⟩
theorem zIv (fuel : Nat) : FnSpecG Tryz.prog 103 (zoy fuel) :=
  ze (T := zwi fuel) (c := bodyOf Tryz.f103) (fn := Tryz.f103) (TabOK.of (entCons (zbv fuel) (entCons (zaV fuel) (entCons (zbA fuel) (entCons (zaW fuel) entNil)))) (methNil)) mixed (by kernel_rfl) (by kernel_rfl) zIs (by kernel_rfl) (Nat.le_of_ble_eq_true (by kernel_rfl)) (rv := zwm) (by kernel_rfl) (fun x y h => (zIu fuel x).trans h)
theorem zIw (fuel : Nat) : EntryOK Tryz.prog 103 (zoy fuel).te := EntryOK.tg rfl (zIv fuel) (isFn (fn := Tryz.f103) (by kernel_rfl) (by kernel_rfl) (by kernel_rfl))
def zwn (fuel : Nat) : Tab := Tab.of [(46, (zas fuel).te), (56, (z8 fuel).te), (153, (zaw fuel).te), (154, (z9 fuel).te)] []
abbrev zoz : Sh := (.ifc 35 (.agg (.cell (Kd.list KP) 0 (.cell I6 0 .nil)) .nil) (.ifc 35 (.agg (.cell (Kd.list KP) 0 (.cell I6 0 .nil)) .nil) .nil))
abbrev zwo : Sh := (.ifc 35 (.agg (.cell (Kd.list KP) 0 (.cell I6 0 .nil)) .nil) (.cell Kd.bool 0 .nil))
def zwp : List Norm := []
noncomputable def zwq : C := irOf Tryz.prog Tryz.f103 [] zwp []
theorem zIx : lightC Tryz.prog [] Tryz.f103.ntmps zwp [] 0 (bodyOf Tryz.f103) = some (zwq, 0) := by kernel_rfl
def zwr : List (Nat × Option (Nat × Bool)) := [(4, none), (5, none)]
def zIy (fuel : Nat) (x0 : LP) (x1 : Int) (x2 : LP) (x3 : Int) : Option (((LP × (Int × Unit)) × Unit) × (Bool × Unit)) :=
 Option.bind (zcW fuel ((x0, x1, ()), (x2, x3, ()), ())) fun y_1 =>
 some ((((y_1.1.1, y_1.1.2.1, ()), ()), y_1.2.1.1, ()))
def zoA (fuel : Nat) (x : (((LP × (Int × Unit)) × Unit) × (((LP × (Int × Unit)) × Unit) × Unit))) : Option (((LP × (Int × Unit)) × Unit) × (Bool × Unit)) := zIy fuel x.1.1.1 x.1.1.2.1 x.2.1.1.1 x.2.1.1.2.1
theorem zIz (fuel : Nat) (x : Sh.T zoz) : run (zwn fuel) 0 fuel zwq (env0 (svS zoz x) 0) [] (endG zwr zwo) = zoA fuel x := by kernel_rfl
def zoB (fuel : Nat) : TG := ⟨zoz, zwo, false, zoA fuel⟩
theorem zIA (fuel : Nat) : FnSpecG Tryz.prog 103 (zoB fuel) :=
  ze (T := zwn fuel) (c := bodyOf Tryz.f103) (fn := Tryz.f103) (TabOK.of (entCons (zbv fuel) (entCons (zaV fuel) (entCons (zbA fuel) (entCons (zaW fuel) entNil)))) (methNil)) mixed (by kernel_rfl) (by kernel_rfl) zIx (by kernel_rfl) (Nat.le_of_ble_eq_true (by kernel_rfl)) (rv := zwr) (by kernel_rfl) (fun x y h => (zIz fuel x).trans h)
theorem zIB (fuel : Nat) : EntryOK Tryz.prog 103 (zoB fuel).te := EntryOK.tg rfl (zIA fuel) (isFn (fn := Tryz.f103) (by kernel_rfl) (by kernel_rfl) (by kernel_rfl))
end Go.Proofs.YtdgdoeknpakmlaaGreat.Den
namespace Go.Proofs.YtdgdoeknpakmlaaGreat.Den
open Go Go.RowKit
def zws (fuel : Nat) : Tab := Tab.of [] []
def zwt : List Norm := [{ live := [11, 10, 3, 2], fix := [] }]
noncomputable def zwu : C := irOf Tryz.prog Tryz.f104 [] zwt []
theorem zIC : lightC Tryz.prog [] Tryz.f104.ntmps zwt [] 0 (bodyOf Tryz.f104) = some (zwu, 1) := by kernel_rfl
def zwv : List (Nat × Option (Nat × Bool)) := [(2, some (7, true))]
noncomputable def zww (fuel : Nat) : IE := inlIE 1 (zws fuel) (fuel + 6) zwu zwv
theorem zID (fuel : Nat) : ISound Tryz.prog 104 (zww fuel) :=
  zC (T := zws fuel) (c := bodyOf Tryz.f104) (fn := Tryz.f104) (TabOK.of (entNil) (methNil)) mixed (by kernel_rfl) (by kernel_rfl) zIC (by kernel_rfl) (Nat.le_of_ble_eq_true (by kernel_rfl)) (rv := zwv) (by kernel_rfl) (isFn (fn := Tryz.f104) (by kernel_rfl) (by kernel_rfl) (by kernel_rfl))
def zwx (fuel : Nat) : Tab := Tab.of [(182, (zfc fuel).te), (183, (zcA fuel).te), (183, (zcC fuel).te)] []
def zwy : List Norm := [{ live := [26, 25, 24, 4, 5, 1, 2], fix := [] }]
noncomputable def zwz : C := irOf Tryz.prog Tryz.f136 [] zwy []
theorem zIE : lightC Tryz.prog [] Tryz.f136.ntmps zwy [] 0 (bodyOf Tryz.f136) = some (zwz, 1) := by kernel_rfl
def zwA : List (Nat × Option (Nat × Bool)) := [(2, some (3, true))]
noncomputable def zwB (fuel : Nat) : IE := inlIE 1 (zwx fuel) 0 zwz zwA
theorem zIF (fuel : Nat) : ISound Tryz.prog 136 (zwB fuel) :=
  zC (T := zwx fuel) (c := bodyOf Tryz.f136) (fn := Tryz.f136) (TabOK.of (entCons (znl fuel) (entCons (zjs fuel) (entCons (zjt fuel) entNil))) (methNil)) mixed (by kernel_rfl) (by kernel_rfl) zIE (by kernel_rfl) (Nat.le_of_ble_eq_true (by kernel_rfl)) (rv := zwA) (by kernel_rfl) (isFn (fn := Tryz.f136) (by kernel_rfl) (by kernel_rfl) (by kernel_rfl))
abbrev zbB := Option ((LP × (Int × (Int × Unit))) × Unit)
def zf7 (fuel : Nat) : Tab := Tab.of [(182, (zfc fuel).te), (183, (zcA fuel).te), (183, (zcC fuel).te)] []
abbrev zj1 : List Pm := [{ cs := [(Kd.list KP, false), (I6, false), (I6, false)], ag := true }]
abbrev zf8 : List Pm := [{ cs := [(Kd.list KP, true), (I6, false), (I6, false)], ag := true }]
def zwC : List Norm := [{ live := [26, 25, 24, 4, 5, 1, 2], fix := [] }]
noncomputable def zf9 : C := irOf Tryz.prog Tryz.f136 [] zwC []
theorem zIG : lightC Tryz.prog [] Tryz.f136.ntmps zwC [] 0 (bodyOf Tryz.f136) = some (zf9, 1) := by kernel_rfl
def zga : List (Nat × Option (Nat × Bool)) := [(2, some (3, true))]
abbrev zcX := (Int) × (Int) × LP × (Int) × LP × LP × (Int) × (Int) × (Int) × (Int)
def zwD (v : zcX) : Env × Heap := ([(26, SV.int .i64 v.1), (25, SV.int .i64 v.2.1), (24, SV.es KP v.2.2.1), (4, SV.int .i64 v.2.2.2.1), (5, SV.own 0), (1, SV.ptr 1 0), (2, SV.ptr 2 0)], [Blk.arr KP v.2.2.2.2.1 0, Blk.cells [SV.es KP v.2.2.2.2.2.1, SV.int .i64 v.2.2.2.2.2.2.1, SV.int .i64 v.2.2.2.2.2.2.2.1] 0 3, Blk.cells [SV.nils, SV.int .i64 v.2.2.2.2.2.2.2.2.1, SV.int .i64 v.2.2.2.2.2.2.2.2.2] 0 3])
def zIH (fuel : Nat) (g0 : zcX → zbB) (v : zcX) : zbB :=
 cond (decide (v.1 < v.2.1))
 (tst (decide (0 ≤ v.1)) <|
 tst (decide (v.1 < (zz (List.length v.2.2.1)))) <|
 cond (decide ((List.getD v.2.2.1 (Int.toNat v.1) (0, (0, ()))).2.1 > v.2.2.2.1))
 (tst (decide (List.length v.2.2.2.2.1 + 1 < LIM)) <|
 g0 (w64 (v.1 + (1 : Int)), v.2.1, v.2.2.1, v.2.2.2.1, v.2.2.2.2.1 ++ [((List.getD v.2.2.1 (Int.toNat v.1) (0, (0, ()))).1, w64 ((List.getD v.2.2.1 (Int.toNat v.1) (0, (0, ()))).2.1 - v.2.2.2.1), ())], v.2.2.2.2.2.1, v.2.2.2.2.2.2.1, v.2.2.2.2.2.2.2.1, v.2.2.2.2.2.2.2.2.1, v.2.2.2.2.2.2.2.2.2))
 (g0 (w64 (v.1 + (1 : Int)), v.2.1, v.2.2.1, v.2.2.2.1, v.2.2.2.2.1, v.2.2.2.2.2.1, v.2.2.2.2.2.2.1, v.2.2.2.2.2.2.2.1, v.2.2.2.2.2.2.2.2.1, v.2.2.2.2.2.2.2.2.2)))
 (some (((v.2.2.2.2.1, w64 (v.2.2.2.2.2.2.1 + v.2.2.2.1), v.2.2.2.2.2.2.2.1, ()), ())))
def zoC (fuel : Nat) (g0 : zcX → zbB) : zcX → zbB := zIH fuel g0
theorem zII (fuel : Nat) (G) : zf9.lp (zf7 fuel) 0 fuel G (endF zga zf8) 0 zwD = iter (zoC fuel) fuel := C.lp_iter fun g v => by kernel_rfl
def zj2 (fuel : Nat) (X0 : zcX → zbB) (x0 : LP) (x1 : Int) (x2 : Int) : zbB :=
 cond (decide ((zz (List.length x0)) ≤ (4 : Int)))
 (none)
 (Option.bind (zcq fuel ((x0, ()), ())) fun y_2 =>
 Option.bind (zcB fuel (y_2.1.1, (), ())) fun y_3 =>
 tst (decide ((4 : Int) < (zz (List.length y_3.1)))) <|
 tst (decide (Int.toNat (4 : Int) < List.length y_3.1)) <|
 X0 ((0 : Int), (zz (List.length x0)), x0, (List.getD y_3.1 (Int.toNat (4 : Int)) (0, (0, ()))).2.1, List.replicate (Int.toNat (0 : Int)) (0, (0, ())), x0, x1, x2, (0 : Int), (0 : Int)))
def zj3 (fuel : Nat) (x : ((LP × (Int × (Int × Unit))) × Unit)) : zbB := zj2 fuel (iter (zoC fuel) fuel) x.1.1 x.1.2.1 x.1.2.2.1
theorem zIJ (fuel : Nat) (x : PsT zj1) : run (zf7 fuel) 0 fuel zf9 (env0 (svPs zj1 x) 0) [] (endF zga zf8) = zj3 fuel x :=
  (show run (zf7 fuel) 0 fuel zf9 (env0 (svPs zj1 x) 0) [] (endF zga zf8) = zj2 fuel (zf9.lp (zf7 fuel) 0 fuel (fun _ _ _ => none) (endF zga zf8) 0 zwD) x.1.1 x.1.2.1 x.1.2.2.1 by kernel_rfl).trans (by rw [zII]; rfl)
def zoD (fuel : Nat) : TF := ⟨zj1, zf8, true, zj3 fuel⟩
theorem zIK (fuel : Nat) : FnSpec Tryz.prog 136 (zoD fuel) :=
  fn_spec (T := zf7 fuel) (c := bodyOf Tryz.f136) (fn := Tryz.f136) (TabOK.of (entCons (znl fuel) (entCons (zjs fuel) (entCons (zjt fuel) entNil))) (methNil)) mixed (by kernel_rfl) (by kernel_rfl) zIG (by kernel_rfl) (Nat.le_of_ble_eq_true (by kernel_rfl)) (rv := zga) (by kernel_rfl) (zIJ fuel)
theorem zIL (fuel : Nat) : EntryOK Tryz.prog 136 (zoD fuel).te := EntryOK.tf rfl (zIK fuel) (isFn (fn := Tryz.f136) (by kernel_rfl) (by kernel_rfl) (by kernel_rfl))
noncomputable def zwE (fuel : Nat) : IE := orIE 4 (zwB fuel) (teIE (zoD fuel).te)
theorem zIM (fuel : Nat) : ISound Tryz.prog 136 (zwE fuel) := zOa (zIF fuel) (zCl (zIL fuel))
noncomputable def zwF (fuel : Nat) : Tab := Tab.ofI [(137, (zjC fuel).te)] [] [(136, zwE fuel)]
abbrev zoE : List Pm := [{ cs := [(Kd.list KP, false), (I6, false), (I6, false)], ag := true }, { cs := [(Kd.list KP, false), (I6, false), (I6, false)], ag := true }]
abbrev zwG : List Pm := [{ cs := [(Kd.list KP, true), (I6, false), (I6, false)], ag := true }]
def zwH : List Norm := []
noncomputable def zwI : C := irOf Tryz.prog Tryz.f90 [21] zwH []
theorem zIN : lightC Tryz.prog [21] Tryz.f90.ntmps zwH [] 0 (bodyOf Tryz.f90) = some (zwI, 0) := by kernel_rfl
def zwJ : List (Nat × Option (Nat × Bool)) := [(4, some (3, true))]
def zoF (fuel : Nat) (x0 : LP) (x1 : Int) (x2 : Int) (x3 : LP) (x4 : Int) (x5 : Int) : Option ((LP × (Int × (Int × Unit))) × Unit) :=
 Option.bind (zfB fuel ((x0, ()), (x3, ()), ())) fun y_1 =>
 cond (decide ((zz (List.length y_1.1.1)) ≤ (zz 4)))
 (cond (decide ((zz (List.length y_1.1.1)) ≤ (4 : Int)))
 (some (((y_1.1.1, w64 (x1 + x4), w64 (x2 + x5), ()), ())))
 (Option.bind (zcq fuel ((y_1.1.1, ()), ())) fun y_4 =>
 Option.bind (zcB fuel (y_4.1.1, (), ())) fun y_5 =>
 tst (decide ((4 : Int) < (zz (List.length y_5.1)))) <|
 tst (decide (Int.toNat (4 : Int) < List.length y_5.1)) <|
 none))
 (Option.bind (zj3 fuel ((y_1.1.1, w64 (x1 + x4), w64 (x2 + x5), ()), ())) fun y_3 =>
 some (((y_3.1.1, y_3.1.2.1, y_3.1.2.2.1, ()), ())))
def zj4 (fuel : Nat) (x : ((LP × (Int × (Int × Unit))) × ((LP × (Int × (Int × Unit))) × Unit))) : Option ((LP × (Int × (Int × Unit))) × Unit) := zoF fuel x.1.1 x.1.2.1 x.1.2.2.1 x.2.1.1 x.2.1.2.1 x.2.1.2.2.1
theorem zIO (fuel : Nat) (x : PsT zoE) : run (zwF fuel) 0 fuel zwI (env0 (svPs zoE x) 0) [] (endF zwJ zwG) = zj4 fuel x := by kernel_rfl
def zoG (fuel : Nat) : TF := ⟨zoE, zwG, true, zj4 fuel⟩
theorem zIP (fuel : Nat) : FnSpec Tryz.prog 90 (zoG fuel) :=
  fn_spec (T := zwF fuel) (c := bodyOf Tryz.f90) (fn := Tryz.f90) (TabOK.ofI (entCons (zuW fuel) entNil) (methNil) (inlCons (zIM fuel) (inlNil))) mixed (by kernel_rfl) (by kernel_rfl) zIN (by kernel_rfl) (Nat.le_of_ble_eq_true (by kernel_rfl)) (rv := zwJ) (by kernel_rfl) (zIO fuel)
theorem zIQ (fuel : Nat) : EntryOK Tryz.prog 90 (zoG fuel).te := EntryOK.tf rfl (zIP fuel) (isFn (fn := Tryz.f90) (by kernel_rfl) (by kernel_rfl) (by kernel_rfl))
end Go.Proofs.YtdgdoeknpakmlaaGreat.Den
namespace Go.Proofs.YtdgdoeknpakmlaaGreat.Den
open Go Go.RowKit
abbrev zbC := Option (((List Int) × Unit) × Unit)
def zgb (fuel : Nat) : Tab := Tab.of [] []
abbrev zj5 : List Pm := [{ cs := [(Kd.list I6, false)], ag := false }]
abbrev zgc : List Pm := [{ cs := [(Kd.list I6, true)], ag := false }]
def zwK : List Norm := [{ live := [4, 0, 3], fix := [] }]
noncomputable def zgd : C := irOf Tryz.prog Tryz.f68 [] zwK []
theorem zIR : lightC Tryz.prog [] Tryz.f68.ntmps zwK [] 0 (bodyOf Tryz.f68) = some (zgd, 1) := by kernel_rfl
def zge : List (Nat × Option (Nat × Bool)) := [(2, none)]
abbrev zcY := (Int) × (List Int) × (List Int)
def zwL (v : zcY) : Env × Heap := ([(4, SV.int .i64 v.1), (0, SV.es I6 v.2.1), (3, SV.own 0)], [Blk.arr I6 v.2.2 0])
def zgf (fuel : Nat) (g0 : zcY → zbC) (v : zcY) : zbC :=
 cond (decide (v.1 < (zz (List.length v.2.1))))
 (tst (decide (0 ≤ v.1)) <|
 tst (decide (v.1 < (zz (List.length v.2.1)))) <|
 tst (decide (0 ≤ v.1)) <|
 tst (decide (v.1 < (zz (List.length v.2.2)))) <|
 tst (decide (Int.toNat v.1 < List.length v.2.2)) <|
 g0 (w64 (v.1 + (1 : Int)), v.2.1, List.set v.2.2 (Int.toNat v.1) (List.getD v.2.1 (Int.toNat v.1) 0)))
 (some (((v.2.2, ()), ())))
def zj6 (fuel : Nat) (g0 : zcY → zbC) : zcY → zbC := zgf fuel g0
theorem zIS (fuel : Nat) (G) : zgd.lp (zgb fuel) 0 fuel G (endF zge zgc) 0 zwL = iter (zj6 fuel) fuel := C.lp_iter fun g v => by kernel_rfl
def zj7 (fuel : Nat) (X0 : zcY → zbC) (x0 : List Int) : zbC :=
 tst (decide (0 ≤ (zz (List.length x0)))) <|
 tst (decide ((zz (List.length x0)) ≤ (zz (List.length x0)))) <|
 tst (decide (Int.toNat (zz (List.length x0)) < LIM)) <|
 X0 ((0 : Int), x0, List.replicate (Int.toNat (zz (List.length x0))) 0)
def zF (fuel : Nat) (x : (((List Int) × Unit) × Unit)) : zbC := zj7 fuel (iter (zj6 fuel) fuel) x.1.1
theorem zIT (fuel : Nat) (x : PsT zj5) : run (zgb fuel) 0 fuel zgd (env0 (svPs zj5 x) 0) [] (endF zge zgc) = zF fuel x :=
  (show run (zgb fuel) 0 fuel zgd (env0 (svPs zj5 x) 0) [] (endF zge zgc) = zj7 fuel (zgd.lp (zgb fuel) 0 fuel (fun _ _ _ => none) (endF zge zgc) 0 zwL) x.1.1 by kernel_rfl).trans (by rw [zIS]; rfl)
def zcZ (fuel : Nat) : TF := ⟨zj5, zgc, true, zF fuel⟩
theorem zIU (fuel : Nat) : FnSpec Tryz.prog 68 (zcZ fuel) :=
  fn_spec (T := zgb fuel) (c := bodyOf Tryz.f68) (fn := Tryz.f68) (TabOK.of (entNil) (methNil)) mixed (by kernel_rfl) (by kernel_rfl) zIR (by kernel_rfl) (Nat.le_of_ble_eq_true (by kernel_rfl)) (rv := zge) (by kernel_rfl) (zIT fuel)
theorem zj8 (fuel : Nat) : EntryOK Tryz.prog 68 (zcZ fuel).te := EntryOK.tf rfl (zIU fuel) (isFn (fn := Tryz.f68) (by kernel_rfl) (by kernel_rfl) (by kernel_rfl))
def zgg (fuel : Nat) : Tab := Tab.of [] []
abbrev zj9 : List Pm := [{ cs := [(Kd.list I6, false)], ag := false }, { cs := [(Kd.list I6, false)], ag := false }]
abbrev zgh : List Pm := [{ cs := [(Kd.bool, false)], ag := false }]
def zwM : List Norm := [{ live := [5, 0, 1], fix := [] }]
noncomputable def zgi : C := irOf Tryz.prog Tryz.f70 [] zwM []
theorem zIV : lightC Tryz.prog [] Tryz.f70.ntmps zwM [] 0 (bodyOf Tryz.f70) = some (zgi, 1) := by kernel_rfl
def zgj : List (Nat × Option (Nat × Bool)) := [(4, none)]
abbrev zc0 := (Int) × (List Int) × (List Int)
def zwN (v : zc0) : Env × Heap := ([(5, SV.int .i64 v.1), (0, SV.es I6 v.2.1), (1, SV.es I6 v.2.2)], [])
def zgk (fuel : Nat) (g0 : zc0 → Option ((Bool × Unit) × Unit)) (v : zc0) : Option ((Bool × Unit) × Unit) :=
 cond (decide (v.1 < (zz (List.length v.2.1))))
 (tst (decide (0 ≤ v.1)) <|
 tst (decide (v.1 < (zz (List.length v.2.1)))) <|
 tst (decide (0 ≤ v.1)) <|
 tst (decide (v.1 < (zz (List.length v.2.2)))) <|
 cond (List.getD v.2.1 (Int.toNat v.1) 0 != List.getD v.2.2 (Int.toNat v.1) 0)
 (some (((false, ()), ())))
 (g0 (w64 (v.1 + (1 : Int)), v.2.1, v.2.2)))
 (some (((true, ()), ())))
def zka (fuel : Nat) (g0 : zc0 → Option ((Bool × Unit) × Unit)) : zc0 → Option ((Bool × Unit) × Unit) := zgk fuel g0
theorem zIW (fuel : Nat) (G) : zgi.lp (zgg fuel) 0 fuel G (endF zgj zgh) 0 zwN = iter (zka fuel) fuel := C.lp_iter fun g v => by kernel_rfl
def zkb (fuel : Nat) (X0 : zc0 → Option ((Bool × Unit) × Unit)) (x0 : List Int) (x1 : List Int) : Option ((Bool × Unit) × Unit) :=
 cond ((zz (List.length x0)) != (zz (List.length x1)))
 (some (((false, ()), ())))
 (X0 ((0 : Int), x0, x1))
def zgl (fuel : Nat) (x : (((List Int) × Unit) × (((List Int) × Unit) × Unit))) : Option ((Bool × Unit) × Unit) := zkb fuel (iter (zka fuel) fuel) x.1.1 x.2.1.1
theorem zIX (fuel : Nat) (x : PsT zj9) : run (zgg fuel) 0 fuel zgi (env0 (svPs zj9 x) 0) [] (endF zgj zgh) = zgl fuel x :=
  (show run (zgg fuel) 0 fuel zgi (env0 (svPs zj9 x) 0) [] (endF zgj zgh) = zkb fuel (zgi.lp (zgg fuel) 0 fuel (fun _ _ _ => none) (endF zgj zgh) 0 zwN) x.1.1 x.2.1.1 by kernel_rfl).trans (by rw [zIW]; rfl)
def zkc (fuel : Nat) : TF := ⟨zj9, zgh, true, zgl fuel⟩
theorem zIY (fuel : Nat) : FnSpec Tryz.prog 70 (zkc fuel) :=
  fn_spec (T := zgg fuel) (c := bodyOf Tryz.f70) (fn := Tryz.f70) (TabOK.of (entNil) (methNil)) mixed (by kernel_rfl) (by kernel_rfl) zIV (by kernel_rfl) (Nat.le_of_ble_eq_true (by kernel_rfl)) (rv := zgj) (by kernel_rfl) (zIX fuel)
theorem zwO (fuel : Nat) : EntryOK Tryz.prog 70 (zkc fuel).te := EntryOK.tf rfl (zIY fuel) (isFn (fn := Tryz.f70) (by kernel_rfl) (by kernel_rfl) (by kernel_rfl))
def zgm (fuel : Nat) : Tab := Tab.of [(70, (zkc fuel).te)] []
abbrev zkd : List Pm := [{ cs := [(Kd.list (Kd.list I6), false)], ag := false }, { cs := [(Kd.list (Kd.list I6), false)], ag := false }]
abbrev zgn : List Pm := [{ cs := [(Kd.bool, false)], ag := false }]
def zwP : List Norm := [{ live := [5, 0, 1], fix := [] }]
noncomputable def zgo : C := irOf Tryz.prog Tryz.f165 [] zwP []
theorem zIZ : lightC Tryz.prog [] Tryz.f165.ntmps zwP [] 0 (bodyOf Tryz.f165) = some (zgo, 1) := by kernel_rfl
def zgp : List (Nat × Option (Nat × Bool)) := [(4, none)]
abbrev zc1 := (Int) × (List (List Int)) × (List (List Int))
def zwQ (v : zc1) : Env × Heap := ([(5, SV.int .i64 v.1), (0, SV.es (Kd.list I6) v.2.1), (1, SV.es (Kd.list I6) v.2.2)], [])
def zgq (fuel : Nat) (g0 : zc1 → Option ((Bool × Unit) × Unit)) (v : zc1) : Option ((Bool × Unit) × Unit) :=
 cond (decide (v.1 < (zz (List.length v.2.1))))
 (tst (decide (0 ≤ v.1)) <|
 tst (decide (v.1 < (zz (List.length v.2.1)))) <|
 tst (decide (0 ≤ v.1)) <|
 tst (decide (v.1 < (zz (List.length v.2.2)))) <|
 Option.bind (zgl fuel ((List.getD v.2.1 (Int.toNat v.1) [], ()), (List.getD v.2.2 (Int.toNat v.1) [], ()), ())) fun y_2 =>
 cond (!y_2.1.1)
 (some (((false, ()), ())))
 (g0 (w64 (v.1 + (1 : Int)), v.2.1, v.2.2)))
 (some (((true, ()), ())))
def zke (fuel : Nat) (g0 : zc1 → Option ((Bool × Unit) × Unit)) : zc1 → Option ((Bool × Unit) × Unit) := zgq fuel g0
theorem zI0 (fuel : Nat) (G) : zgo.lp (zgm fuel) 0 fuel G (endF zgp zgn) 0 zwQ = iter (zke fuel) fuel := C.lp_iter fun g v => by kernel_rfl
def zkf (fuel : Nat) (X0 : zc1 → Option ((Bool × Unit) × Unit)) (x0 : List (List Int)) (x1 : List (List Int)) : Option ((Bool × Unit) × Unit) :=
 cond ((zz (List.length x0)) != (zz (List.length x1)))
 (some (((false, ()), ())))
 (X0 ((0 : Int), x0, x1))
def zkg (fuel : Nat) (x : (((List (List Int)) × Unit) × (((List (List Int)) × Unit) × Unit))) : Option ((Bool × Unit) × Unit) := zkf fuel (iter (zke fuel) fuel) x.1.1 x.2.1.1
theorem zI1 (fuel : Nat) (x : PsT zkd) : run (zgm fuel) 0 fuel zgo (env0 (svPs zkd x) 0) [] (endF zgp zgn) = zkg fuel x :=
  (show run (zgm fuel) 0 fuel zgo (env0 (svPs zkd x) 0) [] (endF zgp zgn) = zkf fuel (zgo.lp (zgm fuel) 0 fuel (fun _ _ _ => none) (endF zgp zgn) 0 zwQ) x.1.1 x.2.1.1 by kernel_rfl).trans (by rw [zI0]; rfl)
def zoH (fuel : Nat) : TF := ⟨zkd, zgn, true, zkg fuel⟩
theorem zI2 (fuel : Nat) : FnSpec Tryz.prog 165 (zoH fuel) :=
  fn_spec (T := zgm fuel) (c := bodyOf Tryz.f165) (fn := Tryz.f165) (TabOK.of (entCons (zwO fuel) entNil) (methNil)) mixed (by kernel_rfl) (by kernel_rfl) zIZ (by kernel_rfl) (Nat.le_of_ble_eq_true (by kernel_rfl)) (rv := zgp) (by kernel_rfl) (zI1 fuel)
theorem zI3 (fuel : Nat) : EntryOK Tryz.prog 165 (zoH fuel).te := EntryOK.tf rfl (zI2 fuel) (isFn (fn := Tryz.f165) (by kernel_rfl) (by kernel_rfl) (by kernel_rfl))
def zwR (fuel : Nat) : Tab := Tab.of [(165, (zoH fuel).te)] []
abbrev zoI : List Pm := [{ cs := [(Kd.list (Kd.list I6), false)], ag := true }, { cs := [(Kd.list (Kd.list I6), false)], ag := true }]
abbrev zwS : List Pm := [{ cs := [(Kd.bool, false)], ag := false }]
def zwT : List Norm := []
noncomputable def zwU : C := irOf Tryz.prog Tryz.f114 [] zwT []
theorem zI4 : lightC Tryz.prog [] Tryz.f114.ntmps zwT [] 0 (bodyOf Tryz.f114) = some (zwU, 0) := by kernel_rfl
def zwV : List (Nat × Option (Nat × Bool)) := [(4, none)]
def zoJ (fuel : Nat) (x0 : List (List Int)) (x1 : List (List Int)) : Option ((Bool × Unit) × Unit) :=
 Option.bind (zkg fuel ((x0, ()), (x1, ()), ())) fun y_1 =>
 cond (!y_1.1.1)
 (some (((false, ()), ())))
 (some (((true, ()), ())))
def zkh (fuel : Nat) (x : (((List (List Int)) × Unit) × (((List (List Int)) × Unit) × Unit))) : Option ((Bool × Unit) × Unit) := zoJ fuel x.1.1 x.2.1.1
theorem zI5 (fuel : Nat) (x : PsT zoI) : run (zwR fuel) 0 fuel zwU (env0 (svPs zoI x) 0) [] (endF zwV zwS) = zkh fuel x := by kernel_rfl
def zoK (fuel : Nat) : TF := ⟨zoI, zwS, true, zkh fuel⟩
theorem zI6 (fuel : Nat) : FnSpec Tryz.prog 114 (zoK fuel) :=
  fn_spec (T := zwR fuel) (c := bodyOf Tryz.f114) (fn := Tryz.f114) (TabOK.of (entCons (zI3 fuel) entNil) (methNil)) mixed (by kernel_rfl) (by kernel_rfl) zI4 (by kernel_rfl) (Nat.le_of_ble_eq_true (by kernel_rfl)) (rv := zwV) (by kernel_rfl) (zI5 fuel)
theorem zI7 (fuel : Nat) : EntryOK Tryz.prog 114 (zoK fuel).te := EntryOK.tf rfl (zI6 fuel) (isFn (fn := Tryz.f114) (by kernel_rfl) (by kernel_rfl) (by kernel_rfl))
def zwW (fuel : Nat) : Tab := Tab.of [(70, (zkc fuel).te)] []
abbrev zoL : List Pm := [{ cs := [(Kd.list I6, false)], ag := true }, { cs := [(Kd.list I6, false)], ag := true }]
abbrev zwX : List Pm := [{ cs := [(Kd.bool, false)], ag := false }]
def zwY : List Norm := []
noncomputable def zwZ : C := irOf Tryz.prog Tryz.f115 [] zwY []
theorem zI8 : lightC Tryz.prog [] Tryz.f115.ntmps zwY [] 0 (bodyOf Tryz.f115) = some (zwZ, 0) := by kernel_rfl
def zw0 : List (Nat × Option (Nat × Bool)) := [(4, none)]
def zoM (fuel : Nat) (x0 : List Int) (x1 : List Int) : Option ((Bool × Unit) × Unit) :=
 Option.bind (zgl fuel ((x0, ()), (x1, ()), ())) fun y_1 =>
 cond (!y_1.1.1)
 (some (((false, ()), ())))
 (some (((true, ()), ())))
def zki (fuel : Nat) (x : (((List Int) × Unit) × (((List Int) × Unit) × Unit))) : Option ((Bool × Unit) × Unit) := zoM fuel x.1.1 x.2.1.1
theorem zI9 (fuel : Nat) (x : PsT zoL) : run (zwW fuel) 0 fuel zwZ (env0 (svPs zoL x) 0) [] (endF zw0 zwX) = zki fuel x := by kernel_rfl
def zoN (fuel : Nat) : TF := ⟨zoL, zwX, true, zki fuel⟩
theorem zJa (fuel : Nat) : FnSpec Tryz.prog 115 (zoN fuel) :=
  fn_spec (T := zwW fuel) (c := bodyOf Tryz.f115) (fn := Tryz.f115) (TabOK.of (entCons (zwO fuel) entNil) (methNil)) mixed (by kernel_rfl) (by kernel_rfl) zI8 (by kernel_rfl) (Nat.le_of_ble_eq_true (by kernel_rfl)) (rv := zw0) (by kernel_rfl) (zI9 fuel)
theorem zJb (fuel : Nat) : EntryOK Tryz.prog 115 (zoN fuel).te := EntryOK.tf rfl (zJa fuel) (isFn (fn := Tryz.f115) (by kernel_rfl) (by kernel_rfl) (by kernel_rfl))
def zw1 (fuel : Nat) : Tab := Tab.of [] []
abbrev zoO : List Pm := [{ cs := [(I6, false), (I6, false)], ag := true }, { cs := [(I6, false), (I6, false)], ag := true }]
abbrev zw2 : List Pm := [{ cs := [(Kd.bool, false)], ag := false }]
def zw3 : List Norm := []
noncomputable def zw4 : C := irOf Tryz.prog Tryz.f189 [] zw3 []
theorem zJc : lightC Tryz.prog [] Tryz.f189.ntmps zw3 [] 0 (bodyOf Tryz.f189) = some (zw4, 0) := by kernel_rfl
def zw5 : List (Nat × Option (Nat × Bool)) := [(4, none)]
def zoP (fuel : Nat) (x0 : Int) (x1 : Int) (x2 : Int) (x3 : Int) : Option ((Bool × Unit) × Unit) :=
 cond (x0 != x2)
 (some (((false, ()), ())))
 (cond (x1 != x3)
 (some (((false, ()), ())))
 (some (((true, ()), ()))))
def zkj (fuel : Nat) (x : ((Int × (Int × Unit)) × ((Int × (Int × Unit)) × Unit))) : Option ((Bool × Unit) × Unit) := zoP fuel x.1.1 x.1.2.1 x.2.1.1 x.2.1.2.1
theorem zJd (fuel : Nat) (x : PsT zoO) : run (zw1 fuel) 0 fuel zw4 (env0 (svPs zoO x) 0) [] (endF zw5 zw2) = zkj fuel x := by kernel_rfl
def zoQ (fuel : Nat) : TF := ⟨zoO, zw2, true, zkj fuel⟩
theorem zJe (fuel : Nat) : FnSpec Tryz.prog 189 (zoQ fuel) :=
  fn_spec (T := zw1 fuel) (c := bodyOf Tryz.f189) (fn := Tryz.f189) (TabOK.of (entNil) (methNil)) mixed (by kernel_rfl) (by kernel_rfl) zJc (by kernel_rfl) (Nat.le_of_ble_eq_true (by kernel_rfl)) (rv := zw5) (by kernel_rfl) (zJd fuel)
theorem zJf (fuel : Nat) : EntryOK Tryz.prog 189 (zoQ fuel).te := EntryOK.tf rfl (zJe fuel) (isFn (fn := Tryz.f189) (by kernel_rfl) (by kernel_rfl) (by kernel_rfl))
def zgr (fuel : Nat) : Tab := Tab.of [(189, (zoQ fuel).te)] []
abbrev zkk : List Pm := [{ cs := [(Kd.list KP, false)], ag := false }, { cs := [(Kd.list KP, false)], ag := false }]
abbrev zgs : List Pm := [{ cs := [(Kd.bool, false)], ag := false }]
def zw6 : List Norm := [{ live := [5, 0, 1], fix := [] }]
noncomputable def zgt : C := irOf Tryz.prog Tryz.f166 [] zw6 []
theorem zJg : lightC Tryz.prog [] Tryz.f166.ntmps zw6 [] 0 (bodyOf Tryz.f166) = some (zgt, 1) := by kernel_rfl
def zgu : List (Nat × Option (Nat × Bool)) := [(4, none)]
abbrev zc2 := (Int) × LP × LP
def zw7 (v : zc2) : Env × Heap := ([(5, SV.int .i64 v.1), (0, SV.es KP v.2.1), (1, SV.es KP v.2.2)], [])
def zgv (fuel : Nat) (g0 : zc2 → Option ((Bool × Unit) × Unit)) (v : zc2) : Option ((Bool × Unit) × Unit) :=
 cond (decide (v.1 < (zz (List.length v.2.1))))
 (tst (decide (0 ≤ v.1)) <|
 tst (decide (v.1 < (zz (List.length v.2.1)))) <|
 tst (decide (0 ≤ v.1)) <|
 tst (decide (v.1 < (zz (List.length v.2.2)))) <|
 Option.bind (zkj fuel (((List.getD v.2.1 (Int.toNat v.1) (0, (0, ()))).1, (List.getD v.2.1 (Int.toNat v.1) (0, (0, ()))).2.1, ()), ((List.getD v.2.2 (Int.toNat v.1) (0, (0, ()))).1, (List.getD v.2.2 (Int.toNat v.1) (0, (0, ()))).2.1, ()), ())) fun y_2 =>
 cond (!y_2.1.1)
 (some (((false, ()), ())))
 (g0 (w64 (v.1 + (1 : Int)), v.2.1, v.2.2)))
 (some (((true, ()), ())))
def zkl (fuel : Nat) (g0 : zc2 → Option ((Bool × Unit) × Unit)) : zc2 → Option ((Bool × Unit) × Unit) := zgv fuel g0
theorem zJh (fuel : Nat) (G) : zgt.lp (zgr fuel) 0 fuel G (endF zgu zgs) 0 zw7 = iter (zkl fuel) fuel := C.lp_iter fun g v => by kernel_rfl
def zkm (fuel : Nat) (X0 : zc2 → Option ((Bool × Unit) × Unit)) (x0 : LP) (x1 : LP) : Option ((Bool × Unit) × Unit) :=
 cond ((zz (List.length x0)) != (zz (List.length x1)))
 (some (((false, ()), ())))
 (X0 ((0 : Int), x0, x1))
def zkn (fuel : Nat) (x : ((LP × Unit) × ((LP × Unit) × Unit))) : Option ((Bool × Unit) × Unit) := zkm fuel (iter (zkl fuel) fuel) x.1.1 x.2.1.1
theorem zJi (fuel : Nat) (x : PsT zkk) : run (zgr fuel) 0 fuel zgt (env0 (svPs zkk x) 0) [] (endF zgu zgs) = zkn fuel x :=
  (show run (zgr fuel) 0 fuel zgt (env0 (svPs zkk x) 0) [] (endF zgu zgs) = zkm fuel (zgt.lp (zgr fuel) 0 fuel (fun _ _ _ => none) (endF zgu zgs) 0 zw7) x.1.1 x.2.1.1 by kernel_rfl).trans (by rw [zJh]; rfl)
def zoR (fuel : Nat) : TF := ⟨zkk, zgs, true, zkn fuel⟩
theorem zJj (fuel : Nat) : FnSpec Tryz.prog 166 (zoR fuel) :=
  fn_spec (T := zgr fuel) (c := bodyOf Tryz.f166) (fn := Tryz.f166) (TabOK.of (entCons (zJf fuel) entNil) (methNil)) mixed (by kernel_rfl) (by kernel_rfl) zJg (by kernel_rfl) (Nat.le_of_ble_eq_true (by kernel_rfl)) (rv := zgu) (by kernel_rfl) (zJi fuel)
theorem zJk (fuel : Nat) : EntryOK Tryz.prog 166 (zoR fuel).te := EntryOK.tf rfl (zJj fuel) (isFn (fn := Tryz.f166) (by kernel_rfl) (by kernel_rfl) (by kernel_rfl))
def zw8 (fuel : Nat) : Tab := Tab.of [(166, (zoR fuel).te)] []
abbrev zoS : List Pm := [{ cs := [(Kd.list KP, false), (I6, false), (I6, false)], ag := true }, { cs := [(Kd.list KP, false), (I6, false), (I6, false)], ag := true }]
abbrev zw9 : List Pm := [{ cs := [(Kd.bool, false)], ag := false }]
def zxa : List Norm := []
noncomputable def zxb : C := irOf Tryz.prog Tryz.f116 [] zxa []
theorem zJl : lightC Tryz.prog [] Tryz.f116.ntmps zxa [] 0 (bodyOf Tryz.f116) = some (zxb, 0) := by kernel_rfl
def zxc : List (Nat × Option (Nat × Bool)) := [(4, none)]
def zoT (fuel : Nat) (x0 : LP) (x1 : Int) (x2 : Int) (x3 : LP) (x4 : Int) (x5 : Int) : Option ((Bool × Unit) × Unit) :=
 Option.bind (zkn fuel ((x0, ()), (x3, ()), ())) fun y_1 =>
 cond (!y_1.1.1)
 (some (((false, ()), ())))
 (cond (x1 != x4)
 (some (((false, ()), ())))
 (cond (x2 != x5)
 (some (((false, ()), ())))
 (some (((true, ()), ())))))
def zko (fuel : Nat) (x : ((LP × (Int × (Int × Unit))) × ((LP × (Int × (Int × Unit))) × Unit))) : Option ((Bool × Unit) × Unit) := zoT fuel x.1.1 x.1.2.1 x.1.2.2.1 x.2.1.1 x.2.1.2.1 x.2.1.2.2.1
theorem zJm (fuel : Nat) (x : PsT zoS) : run (zw8 fuel) 0 fuel zxb (env0 (svPs zoS x) 0) [] (endF zxc zw9) = zko fuel x := by kernel_rfl
def zoU (fuel : Nat) : TF := ⟨zoS, zw9, true, zko fuel⟩
theorem zJn (fuel : Nat) : FnSpec Tryz.prog 116 (zoU fuel) :=
  fn_spec (T := zw8 fuel) (c := bodyOf Tryz.f116) (fn := Tryz.f116) (TabOK.of (entCons (zJk fuel) entNil) (methNil)) mixed (by kernel_rfl) (by kernel_rfl) zJl (by kernel_rfl) (Nat.le_of_ble_eq_true (by kernel_rfl)) (rv := zxc) (by kernel_rfl) (zJm fuel)
theorem zJo (fuel : Nat) : EntryOK Tryz.prog 116 (zoU fuel).te := EntryOK.tf rfl (zJn fuel) (isFn (fn := Tryz.f116) (by kernel_rfl) (by kernel_rfl) (by kernel_rfl))
def zxd (fuel : Nat) : Tab := Tab.of [] []
abbrev zoV : List Pm := [{ cs := [(I6, false), (I6, false)], ag := true }, { cs := [(I6, false), (I6, false)], ag := true }]
abbrev zxe : List Pm := [{ cs := [(Kd.bool, false)], ag := false }]
def zxf : List Norm := []
noncomputable def zxg : C := irOf Tryz.prog Tryz.f190 [] zxf []
theorem zJp : lightC Tryz.prog [] Tryz.f190.ntmps zxf [] 0 (bodyOf Tryz.f190) = some (zxg, 0) := by kernel_rfl
def zxh : List (Nat × Option (Nat × Bool)) := [(4, none)]
def zoW (fuel : Nat) (x0 : Int) (x1 : Int) (x2 : Int) (x3 : Int) : Option ((Bool × Unit) × Unit) :=
 cond (x0 != x2)
 (some (((false, ()), ())))
 (cond (x1 != x3)
 (some (((false, ()), ())))
 (some (((true, ()), ()))))
def zkp (fuel : Nat) (x : ((Int × (Int × Unit)) × ((Int × (Int × Unit)) × Unit))) : Option ((Bool × Unit) × Unit) := zoW fuel x.1.1 x.1.2.1 x.2.1.1 x.2.1.2.1
theorem zJq (fuel : Nat) (x : PsT zoV) : run (zxd fuel) 0 fuel zxg (env0 (svPs zoV x) 0) [] (endF zxh zxe) = zkp fuel x := by kernel_rfl
def zoX (fuel : Nat) : TF := ⟨zoV, zxe, true, zkp fuel⟩
theorem zJr (fuel : Nat) : FnSpec Tryz.prog 190 (zoX fuel) :=
  fn_spec (T := zxd fuel) (c := bodyOf Tryz.f190) (fn := Tryz.f190) (TabOK.of (entNil) (methNil)) mixed (by kernel_rfl) (by kernel_rfl) zJp (by kernel_rfl) (Nat.le_of_ble_eq_true (by kernel_rfl)) (rv := zxh) (by kernel_rfl) (zJq fuel)
theorem zJs (fuel : Nat) : EntryOK Tryz.prog 190 (zoX fuel).te := EntryOK.tf rfl (zJr fuel) (isFn (fn := Tryz.f190) (by kernel_rfl) (by kernel_rfl) (by kernel_rfl))
def zgw (fuel : Nat) : Tab := Tab.of [(190, (zoX fuel).te)] []
abbrev zkq : List Pm := [{ cs := [(Kd.list KP, false)], ag := false }, { cs := [(Kd.list KP, false)], ag := false }]
abbrev zgx : List Pm := [{ cs := [(Kd.bool, false)], ag := false }]
def zxi : List Norm := [{ live := [5, 0, 1], fix := [] }]
noncomputable def zgy : C := irOf Tryz.prog Tryz.f167 [] zxi []
theorem zJt : lightC Tryz.prog [] Tryz.f167.ntmps zxi [] 0 (bodyOf Tryz.f167) = some (zgy, 1) := by kernel_rfl
def zgz : List (Nat × Option (Nat × Bool)) := [(4, none)]
abbrev zc3 := (Int) × LP × LP
def zxj (v : zc3) : Env × Heap := ([(5, SV.int .i64 v.1), (0, SV.es KP v.2.1), (1, SV.es KP v.2.2)], [])
def zgA (fuel : Nat) (g0 : zc3 → Option ((Bool × Unit) × Unit)) (v : zc3) : Option ((Bool × Unit) × Unit) :=
 cond (decide (v.1 < (zz (List.length v.2.1))))
 (tst (decide (0 ≤ v.1)) <|
 tst (decide (v.1 < (zz (List.length v.2.1)))) <|
 tst (decide (0 ≤ v.1)) <|
 tst (decide (v.1 < (zz (List.length v.2.2)))) <|
 Option.bind (zkp fuel (((List.getD v.2.1 (Int.toNat v.1) (0, (0, ()))).1, (List.getD v.2.1 (Int.toNat v.1) (0, (0, ()))).2.1, ()), ((List.getD v.2.2 (Int.toNat v.1) (0, (0, ()))).1, (List.getD v.2.2 (Int.toNat v.1) (0, (0, ()))).2.1, ()), ())) fun y_2 =>
 cond (!y_2.1.1)
 (some (((false, ()), ())))
 (g0 (w64 (v.1 + (1 : Int)), v.2.1, v.2.2)))
 (some (((true, ()), ())))
def zkr (fuel : Nat) (g0 : zc3 → Option ((Bool × Unit) × Unit)) : zc3 → Option ((Bool × Unit) × Unit) := zgA fuel g0
theorem zJu (fuel : Nat) (G) : zgy.lp (zgw fuel) 0 fuel G (endF zgz zgx) 0 zxj = iter (zkr fuel) fuel := C.lp_iter fun g v => by kernel_rfl
def zks (fuel : Nat) (X0 : zc3 → Option ((Bool × Unit) × Unit)) (x0 : LP) (x1 : LP) : Option ((Bool × Unit) × Unit) :=
 cond ((zz (List.length x0)) != (zz (List.length x1)))
 (some (((false, ()), ())))
 (X0 ((0 : Int), x0, x1))
def zkt (fuel : Nat) (x : ((LP × Unit) × ((LP × Unit) × Unit))) : Option ((Bool × Unit) × Unit) := zks fuel (iter (zkr fuel) fuel) x.1.1 x.2.1.1
theorem zJv (fuel : Nat) (x : PsT zkq) : run (zgw fuel) 0 fuel zgy (env0 (svPs zkq x) 0) [] (endF zgz zgx) = zkt fuel x :=
  (show run (zgw fuel) 0 fuel zgy (env0 (svPs zkq x) 0) [] (endF zgz zgx) = zks fuel (zgy.lp (zgw fuel) 0 fuel (fun _ _ _ => none) (endF zgz zgx) 0 zxj) x.1.1 x.2.1.1 by kernel_rfl).trans (by rw [zJu]; rfl)
def zoY (fuel : Nat) : TF := ⟨zkq, zgx, true, zkt fuel⟩
theorem zJw (fuel : Nat) : FnSpec Tryz.prog 167 (zoY fuel) :=
  fn_spec (T := zgw fuel) (c := bodyOf Tryz.f167) (fn := Tryz.f167) (TabOK.of (entCons (zJs fuel) entNil) (methNil)) mixed (by kernel_rfl) (by kernel_rfl) zJt (by kernel_rfl) (Nat.le_of_ble_eq_true (by kernel_rfl)) (rv := zgz) (by kernel_rfl) (zJv fuel)
theorem zJx (fuel : Nat) : EntryOK Tryz.prog 167 (zoY fuel).te := EntryOK.tf rfl (zJw fuel) (isFn (fn := Tryz.f167) (by kernel_rfl) (by kernel_rfl) (by kernel_rfl))
def zxk (fuel : Nat) : Tab := Tab.of [(167, (zoY fuel).te)] []
abbrev zoZ : List Pm := [{ cs := [(Kd.list KP, false), (I6, false)], ag := true }, { cs := [(Kd.list KP, false), (I6, false)], ag := true }]
abbrev zxl : List Pm := [{ cs := [(Kd.bool, false)], ag := false }]
def zxm : List Norm := []
noncomputable def zxn : C := irOf Tryz.prog Tryz.f117 [] zxm []
theorem zJy : lightC Tryz.prog [] Tryz.f117.ntmps zxm [] 0 (bodyOf Tryz.f117) = some (zxn, 0) := by kernel_rfl
def zxo : List (Nat × Option (Nat × Bool)) := [(4, none)]
def zo0 (fuel : Nat) (x0 : LP) (x1 : Int) (x2 : LP) (x3 : Int) : Option ((Bool × Unit) × Unit) :=
 Option.bind (zkt fuel ((x0, ()), (x2, ()), ())) fun y_1 =>
 cond (!y_1.1.1)
 (some (((false, ()), ())))
 (cond (x1 != x3)
 (some (((false, ()), ())))
 (some (((true, ()), ()))))
def zku (fuel : Nat) (x : ((LP × (Int × Unit)) × ((LP × (Int × Unit)) × Unit))) : Option ((Bool × Unit) × Unit) := zo0 fuel x.1.1 x.1.2.1 x.2.1.1 x.2.1.2.1
theorem zJz (fuel : Nat) (x : PsT zoZ) : run (zxk fuel) 0 fuel zxn (env0 (svPs zoZ x) 0) [] (endF zxo zxl) = zku fuel x := by kernel_rfl
def zo1 (fuel : Nat) : TF := ⟨zoZ, zxl, true, zku fuel⟩
theorem zJA (fuel : Nat) : FnSpec Tryz.prog 117 (zo1 fuel) :=
  fn_spec (T := zxk fuel) (c := bodyOf Tryz.f117) (fn := Tryz.f117) (TabOK.of (entCons (zJx fuel) entNil) (methNil)) mixed (by kernel_rfl) (by kernel_rfl) zJy (by kernel_rfl) (Nat.le_of_ble_eq_true (by kernel_rfl)) (rv := zxo) (by kernel_rfl) (zJz fuel)
theorem zJB (fuel : Nat) : EntryOK Tryz.prog 117 (zo1 fuel).te := EntryOK.tf rfl (zJA fuel) (isFn (fn := Tryz.f117) (by kernel_rfl) (by kernel_rfl) (by kernel_rfl))
def zxp (fuel : Nat) : Tab := Tab.of [(114, (zoK fuel).te), (115, (zoN fuel).te), (116, (zoU fuel).te), (117, (zo1 fuel).te)] []
abbrev zo2 : List Pm := [{ cs := [(Kd.list (Kd.list I6), false), (Kd.list I6, false), (Kd.list KP, false), (I6, false), (I6, false), (Kd.list KP, false), (I6, false)], ag := true }, { cs := [(Kd.list (Kd.list I6), false), (Kd.list I6, false), (Kd.list KP, false), (I6, false), (I6, false), (Kd.list KP, false), (I6, false)], ag := true }]
abbrev zxq : List Pm := [{ cs := [(Kd.bool, false)], ag := false }]
def zxr : List Norm := []
noncomputable def zxs : C := irOf Tryz.prog Tryz.f69 [] zxr []
theorem zJC : lightC Tryz.prog [] Tryz.f69.ntmps zxr [] 0 (bodyOf Tryz.f69) = some (zxs, 0) := by kernel_rfl
def zxt : List (Nat × Option (Nat × Bool)) := [(4, none)]
def zo3 (fuel : Nat) (x0 : List (List Int)) (x1 : List Int) (x2 : LP) (x3 : Int) (x4 : Int) (x5 : LP) (x6 : Int) (x7 : List (List Int)) (x8 : List Int) (x9 : LP) (x10 : Int) (x11 : Int) (x12 : LP) (x13 : Int) : Option ((Bool × Unit) × Unit) :=
 Option.bind (zkh fuel ((x0, ()), (x7, ()), ())) fun y_1 =>
 cond (!y_1.1.1)
 (some (((false, ()), ())))
 (Option.bind (zki fuel ((x1, ()), (x8, ()), ())) fun y_3 =>
 cond (!y_3.1.1)
 (some (((false, ()), ())))
 (Option.bind (zko fuel ((x2, x3, x4, ()), (x9, x10, x11, ()), ())) fun y_5 =>
 cond (!y_5.1.1)
 (some (((false, ()), ())))
 (Option.bind (zku fuel ((x5, x6, ()), (x12, x13, ()), ())) fun y_7 =>
 cond (!y_7.1.1)
 (some (((false, ()), ())))
 (some (((true, ()), ()))))))
def zl (fuel : Nat) (x : (SumY × (SumY × Unit))) : Option ((Bool × Unit) × Unit) := zo3 fuel x.1.1 x.1.2.1 x.1.2.2.1 x.1.2.2.2.1 x.1.2.2.2.2.1 x.1.2.2.2.2.2.1 x.1.2.2.2.2.2.2.1 x.2.1.1 x.2.1.2.1 x.2.1.2.2.1 x.2.1.2.2.2.1 x.2.1.2.2.2.2.1 x.2.1.2.2.2.2.2.1 x.2.1.2.2.2.2.2.2.1
theorem zJD (fuel : Nat) (x : PsT zo2) : run (zxp fuel) 0 fuel zxs (env0 (svPs zo2 x) 0) [] (endF zxt zxq) = zl fuel x := by kernel_rfl
def zkv (fuel : Nat) : TF := ⟨zo2, zxq, true, zl fuel⟩
theorem zJE (fuel : Nat) : FnSpec Tryz.prog 69 (zkv fuel) :=
  fn_spec (T := zxp fuel) (c := bodyOf Tryz.f69) (fn := Tryz.f69) (TabOK.of (entCons (zI7 fuel) (entCons (zJb fuel) (entCons (zJo fuel) (entCons (zJB fuel) entNil)))) (methNil)) mixed (by kernel_rfl) (by kernel_rfl) zJC (by kernel_rfl) (Nat.le_of_ble_eq_true (by kernel_rfl)) (rv := zxt) (by kernel_rfl) (zJD fuel)
theorem zxu (fuel : Nat) : EntryOK Tryz.prog 69 (zkv fuel).te := EntryOK.tf rfl (zJE fuel) (isFn (fn := Tryz.f69) (by kernel_rfl) (by kernel_rfl) (by kernel_rfl))
abbrev zbD := Option ((List Int) × ((Int × Unit) × Unit))
def zgB (fuel : Nat) : Tab := Tab.of [] []
abbrev zkw : List Pm := [{ cs := [(I6, false)], ag := false }]
abbrev zgC : List Pm := [{ cs := [(I6, false)], ag := false }]
def zxv : List Norm := [{ live := [5, 0, 1], fix := [] }]
noncomputable def zgD : C := irOf Tryz.prog Tryz.f71 [] zxv []
theorem zJF : lightC Tryz.prog [] Tryz.f71.ntmps zxv [] 0 (bodyOf Tryz.f71) = some (zgD, 1) := by kernel_rfl
def zgE : List (Nat × Option (Nat × Bool)) := [(4, none)]
abbrev zc4 := (Int) × (Int) × (List Int)
def zxw (v : zc4) : Env × Heap := ([(5, SV.int .i64 v.1), (0, SV.own 0), (1, SV.int .i64 v.2.1)], [Blk.arr I6 v.2.2 0])
def zgF (fuel : Nat) (g0 : zc4 → zbD) (v : zc4) : zbD :=
 cond (decide (v.1 < (zz (List.length v.2.2))))
 (tst (decide (0 ≤ v.1)) <|
 tst (decide (v.1 < (zz (List.length v.2.2)))) <|
 tst (decide (Int.toNat v.1 < List.length v.2.2)) <|
 g0 (w64 (v.1 + (1 : Int)), w64 (v.2.1 + (1 : Int)), List.set v.2.2 (Int.toNat v.1) v.2.1))
 (some ((v.2.2, (v.2.1, ()), ())))
def zkx (fuel : Nat) (g0 : zc4 → zbD) : zc4 → zbD := zgF fuel g0
theorem zJG (fuel : Nat) (G) : zgD.lp (zgB fuel) 1 fuel G (endS zgE I6 false zgC) 0 zxw = iter (zkx fuel) fuel := C.lp_iter fun g v => by kernel_rfl
def zky (fuel : Nat) (X0 : zc4 → zbD) (d0 : List Int) (x0 : Int) : zbD :=
 X0 ((0 : Int), x0, d0)
def zy (fuel : Nat) (z : (List Int) × Unit × ((Int × Unit) × Unit)) : zbD := zky fuel (iter (zkx fuel) fuel) z.1 z.2.2.1.1
theorem zJH (fuel : Nat) (c : List (Kd.T I6)) (d : CsT []) (x : PsT zkw) : run (zgB fuel) 1 fuel zgD ((0, firstV false 0 (svCs [] d)) :: env0 (svPs zkw x) 1) [.arr I6 c 0] (endS zgE I6 false zgC) = zy fuel (c, d, x) :=
  (show run (zgB fuel) 1 fuel zgD ((0, firstV false 0 (svCs [] d)) :: env0 (svPs zkw x) 1) [.arr I6 c 0] (endS zgE I6 false zgC) = zky fuel (zgD.lp (zgB fuel) 1 fuel (fun _ _ _ => none) (endS zgE I6 false zgC) 0 zxw) c x.1.1 by kernel_rfl).trans (by rw [zJG]; rfl)
def zbE (fuel : Nat) : TFS := ⟨I6, false, [], zkw, zgC, false, zy fuel⟩
theorem zJI (fuel : Nat) : FnSpecS Tryz.prog 71 (zbE fuel) :=
  zl7 (T := zgB fuel) (c := bodyOf Tryz.f71) (fn := Tryz.f71) (TabOK.of (entNil) (methNil)) mixed (by kernel_rfl) (by kernel_rfl) zJF (by kernel_rfl) (Nat.le_of_ble_eq_true (by kernel_rfl)) (rv := zgE) (by kernel_rfl) (zJH fuel)
theorem zo4 (fuel : Nat) : EntryOK Tryz.prog 71 (zbE fuel).te := EntryOK.tfs (zJI fuel) (isFn (fn := Tryz.f71) (by kernel_rfl) (by kernel_rfl) (by kernel_rfl))
end Go.Proofs.YtdgdoeknpakmlaaGreat.Den
namespace Go.Proofs.YtdgdoeknpakmlaaGreat.Den
open Go Go.RowKit
def zgG (fuel : Nat) : Tab := Tab.of [] []
abbrev zkz : Sh := (.nls (.cell I6 0 .nil))
abbrev zgH : Sh := (.cell I6 0 .nil)
def zxx : List Norm := [{ live := [5, 0, 1], fix := [] }]
noncomputable def zgI : C := irOf Tryz.prog Tryz.f71 [] zxx []
theorem zJJ : lightC Tryz.prog [] Tryz.f71.ntmps zxx [] 0 (bodyOf Tryz.f71) = some (zgI, 1) := by kernel_rfl
def zgJ : List (Nat × Option (Nat × Bool)) := [(4, none)]
abbrev zc5 := (Int) × (Int)
def zxy (v : zc5) : Env × Heap := ([(5, SV.int .i64 v.1), (0, SV.nils), (1, SV.int .i64 v.2)], [])
def zJK (fuel : Nat) (g0 : zc5 → Option (Int × Unit)) (v : zc5) : Option (Int × Unit) :=
 cond (decide (v.1 < (zz 0)))
 (none)
 (some ((v.2, ())))
def zxz (fuel : Nat) (g0 : zc5 → Option (Int × Unit)) : zc5 → Option (Int × Unit) := zJK fuel g0
theorem zJL (fuel : Nat) (G) : zgI.lp (zgG fuel) 0 fuel G (endG zgJ zgH) 0 zxy = iter (zxz fuel) fuel := C.lp_iter fun g v => by kernel_rfl
def zxA (fuel : Nat) (X0 : zc5 → Option (Int × Unit)) (x0 : Int) : Option (Int × Unit) :=
 X0 ((0 : Int), x0)
def zkA (fuel : Nat) (x : (Int × Unit)) : Option (Int × Unit) := zxA fuel (iter (zxz fuel) fuel) x.1
theorem zJM (fuel : Nat) (x : Sh.T zkz) : run (zgG fuel) 0 fuel zgI (env0 (svS zkz x) 0) [] (endG zgJ zgH) = zkA fuel x :=
  (show run (zgG fuel) 0 fuel zgI (env0 (svS zkz x) 0) [] (endG zgJ zgH) = zxA fuel (zgI.lp (zgG fuel) 0 fuel (fun _ _ _ => none) (endG zgJ zgH) 0 zxy) x.1 by kernel_rfl).trans (by rw [zJL]; rfl)
def zgK (fuel : Nat) : TG := ⟨zkz, zgH, true, zkA fuel⟩
theorem zJN (fuel : Nat) : FnSpecG Tryz.prog 71 (zgK fuel) :=
  ze (T := zgG fuel) (c := bodyOf Tryz.f71) (fn := Tryz.f71) (TabOK.of (entNil) (methNil)) mixed (by kernel_rfl) (by kernel_rfl) zJJ (by kernel_rfl) (Nat.le_of_ble_eq_true (by kernel_rfl)) (rv := zgJ) (by kernel_rfl) (fun x y h => (zJM fuel x).trans h)
theorem zo5 (fuel : Nat) : EntryOK Tryz.prog 71 (zgK fuel).te := EntryOK.tg rfl (zJN fuel) (isFn (fn := Tryz.f71) (by kernel_rfl) (by kernel_rfl) (by kernel_rfl))
def zA (fuel : Nat) : Tab := Tab.of [(71, (zbE fuel).te), (71, (zgK fuel).te)] []
def zo6 : List Norm := [{ live := [5, 0, 1], fix := [] }]
noncomputable def zxB : C := irOf Tryz.prog Tryz.f168 [] zo6 []
theorem zJO : lightC Tryz.prog [] Tryz.f168.ntmps zo6 [] 0 (bodyOf Tryz.f168) = some (zxB, 1) := by kernel_rfl
def zax : List (Nat × Option (Nat × Bool)) := [(4, none)]
noncomputable def zxC (fuel : Nat) : IE := inlIE 2 (zA fuel) (fuel + 6) zxB zax
theorem zJP (fuel : Nat) : ISound Tryz.prog 168 (zxC fuel) :=
  zC (T := zA fuel) (c := bodyOf Tryz.f168) (fn := Tryz.f168) (TabOK.of (entCons (zo4 fuel) (entCons (zo5 fuel) entNil)) (methNil)) mixed (by kernel_rfl) (by kernel_rfl) zJO (by kernel_rfl) (Nat.le_of_ble_eq_true (by kernel_rfl)) (rv := zax) (by kernel_rfl) (isFn (fn := Tryz.f168) (by kernel_rfl) (by kernel_rfl) (by kernel_rfl))
def zxD (fuel : Nat) : Tab := Tab.of [(71, (zbE fuel).te), (71, (zgK fuel).te)] []
def zxE : List Norm := []
noncomputable def zxF : C := irOf Tryz.prog Tryz.f119 [] zxE []
theorem zJQ : lightC Tryz.prog [] Tryz.f119.ntmps zxE [] 0 (bodyOf Tryz.f119) = some (zxF, 0) := by kernel_rfl
def zxG : List (Nat × Option (Nat × Bool)) := [(4, none)]
noncomputable def zxH (fuel : Nat) : IE := inlIE 2 (zxD fuel) fuel zxF zxG
theorem zJR (fuel : Nat) : ISound Tryz.prog 119 (zxH fuel) :=
  zC (T := zxD fuel) (c := bodyOf Tryz.f119) (fn := Tryz.f119) (TabOK.of (entCons (zo4 fuel) (entCons (zo5 fuel) entNil)) (methNil)) mixed (by kernel_rfl) (by kernel_rfl) zJQ (by kernel_rfl) (Nat.le_of_ble_eq_true (by kernel_rfl)) (rv := zxG) (by kernel_rfl) (isFn (fn := Tryz.f119) (by kernel_rfl) (by kernel_rfl) (by kernel_rfl))
abbrev zbF := Option (LP × ((Int × Unit) × Unit))
def zgL (fuel : Nat) : Tab := Tab.of [] []
abbrev zkB : List Pm := [{ cs := [(I6, false)], ag := false }]
abbrev zgM : List Pm := [{ cs := [(I6, false)], ag := false }]
def zxI : List Norm := [{ live := [5, 0, 1], fix := [] }]
noncomputable def zgN : C := irOf Tryz.prog Tryz.f169 [] zxI []
theorem zJS : lightC Tryz.prog [] Tryz.f169.ntmps zxI [] 0 (bodyOf Tryz.f169) = some (zgN, 1) := by kernel_rfl
def zgO : List (Nat × Option (Nat × Bool)) := [(4, none)]
abbrev zc6 := (Int) × (Int) × LP
def zxJ (v : zc6) : Env × Heap := ([(5, SV.int .i64 v.1), (0, SV.own 0), (1, SV.int .i64 v.2.1)], [Blk.arr KP v.2.2 0])
def zgP (fuel : Nat) (g0 : zc6 → zbF) (v : zc6) : zbF :=
 cond (decide (v.1 < (zz (List.length v.2.2))))
 (tst (decide (0 ≤ v.1)) <|
 tst (decide (v.1 < (zz (List.length v.2.2)))) <|
 tst (decide (Int.toNat v.1 < List.length v.2.2)) <|
 tst (decide (0 ≤ v.1)) <|
 tst (decide (v.1 < (zz (List.length (List.set v.2.2 (Int.toNat v.1) (v.2.1, (List.getD v.2.2 (Int.toNat v.1) (0, (0, ()))).2.1, ())))))) <|
 tst (decide (Int.toNat v.1 < List.length (List.set v.2.2 (Int.toNat v.1) (v.2.1, (List.getD v.2.2 (Int.toNat v.1) (0, (0, ()))).2.1, ())))) <|
 g0 (w64 (v.1 + (1 : Int)), w64 (w64 (v.2.1 + (1 : Int)) + (1 : Int)), List.set (List.set v.2.2 (Int.toNat v.1) (v.2.1, (List.getD v.2.2 (Int.toNat v.1) (0, (0, ()))).2.1, ())) (Int.toNat v.1) ((List.getD (List.set v.2.2 (Int.toNat v.1) (v.2.1, (List.getD v.2.2 (Int.toNat v.1) (0, (0, ()))).2.1, ())) (Int.toNat v.1) (0, (0, ()))).1, w64 (v.2.1 + (1 : Int)), ())))
 (some ((v.2.2, (v.2.1, ()), ())))
def zkC (fuel : Nat) (g0 : zc6 → zbF) : zc6 → zbF := zgP fuel g0
theorem zJT (fuel : Nat) (G) : zgN.lp (zgL fuel) 1 fuel G (endS zgO KP false zgM) 0 zxJ = iter (zkC fuel) fuel := C.lp_iter fun g v => by kernel_rfl
def zkD (fuel : Nat) (X0 : zc6 → zbF) (d0 : LP) (x0 : Int) : zbF :=
 X0 ((0 : Int), x0, d0)
def zaX (fuel : Nat) (z : LP × Unit × ((Int × Unit) × Unit)) : zbF := zkD fuel (iter (zkC fuel) fuel) z.1 z.2.2.1.1
theorem zJU (fuel : Nat) (c : List (Kd.T KP)) (d : CsT []) (x : PsT zkB) : run (zgL fuel) 1 fuel zgN ((0, firstV false 0 (svCs [] d)) :: env0 (svPs zkB x) 1) [.arr KP c 0] (endS zgO KP false zgM) = zaX fuel (c, d, x) :=
  (show run (zgL fuel) 1 fuel zgN ((0, firstV false 0 (svCs [] d)) :: env0 (svPs zkB x) 1) [.arr KP c 0] (endS zgO KP false zgM) = zkD fuel (zgN.lp (zgL fuel) 1 fuel (fun _ _ _ => none) (endS zgO KP false zgM) 0 zxJ) c x.1.1 by kernel_rfl).trans (by rw [zJT]; rfl)
def zo7 (fuel : Nat) : TFS := ⟨KP, false, [], zkB, zgM, false, zaX fuel⟩
theorem zJV (fuel : Nat) : FnSpecS Tryz.prog 169 (zo7 fuel) :=
  zl7 (T := zgL fuel) (c := bodyOf Tryz.f169) (fn := Tryz.f169) (TabOK.of (entNil) (methNil)) mixed (by kernel_rfl) (by kernel_rfl) zJS (by kernel_rfl) (Nat.le_of_ble_eq_true (by kernel_rfl)) (rv := zgO) (by kernel_rfl) (zJU fuel)
theorem zJW (fuel : Nat) : EntryOK Tryz.prog 169 (zo7 fuel).te := EntryOK.tfs (zJV fuel) (isFn (fn := Tryz.f169) (by kernel_rfl) (by kernel_rfl) (by kernel_rfl))
def zgQ (fuel : Nat) : Tab := Tab.of [] []
abbrev zkE : Sh := (.nls (.cell I6 0 .nil))
abbrev zgR : Sh := (.cell I6 0 .nil)
def zxK : List Norm := [{ live := [5, 0, 1], fix := [] }]
noncomputable def zgS : C := irOf Tryz.prog Tryz.f169 [] zxK []
theorem zJX : lightC Tryz.prog [] Tryz.f169.ntmps zxK [] 0 (bodyOf Tryz.f169) = some (zgS, 1) := by kernel_rfl
def zgT : List (Nat × Option (Nat × Bool)) := [(4, none)]
abbrev zc7 := (Int) × (Int)
def zxL (v : zc7) : Env × Heap := ([(5, SV.int .i64 v.1), (0, SV.nils), (1, SV.int .i64 v.2)], [])
def zJY (fuel : Nat) (g0 : zc7 → Option (Int × Unit)) (v : zc7) : Option (Int × Unit) :=
 cond (decide (v.1 < (zz 0)))
 (none)
 (some ((v.2, ())))
def zxM (fuel : Nat) (g0 : zc7 → Option (Int × Unit)) : zc7 → Option (Int × Unit) := zJY fuel g0
theorem zJZ (fuel : Nat) (G) : zgS.lp (zgQ fuel) 0 fuel G (endG zgT zgR) 0 zxL = iter (zxM fuel) fuel := C.lp_iter fun g v => by kernel_rfl
def zxN (fuel : Nat) (X0 : zc7 → Option (Int × Unit)) (x0 : Int) : Option (Int × Unit) :=
 X0 ((0 : Int), x0)
def zkF (fuel : Nat) (x : (Int × Unit)) : Option (Int × Unit) := zxN fuel (iter (zxM fuel) fuel) x.1
theorem zJ0 (fuel : Nat) (x : Sh.T zkE) : run (zgQ fuel) 0 fuel zgS (env0 (svS zkE x) 0) [] (endG zgT zgR) = zkF fuel x :=
  (show run (zgQ fuel) 0 fuel zgS (env0 (svS zkE x) 0) [] (endG zgT zgR) = zxN fuel (zgS.lp (zgQ fuel) 0 fuel (fun _ _ _ => none) (endG zgT zgR) 0 zxL) x.1 by kernel_rfl).trans (by rw [zJZ]; rfl)
def zo8 (fuel : Nat) : TG := ⟨zkE, zgR, true, zkF fuel⟩
theorem zJ1 (fuel : Nat) : FnSpecG Tryz.prog 169 (zo8 fuel) :=
  ze (T := zgQ fuel) (c := bodyOf Tryz.f169) (fn := Tryz.f169) (TabOK.of (entNil) (methNil)) mixed (by kernel_rfl) (by kernel_rfl) zJX (by kernel_rfl) (Nat.le_of_ble_eq_true (by kernel_rfl)) (rv := zgT) (by kernel_rfl) (fun x y h => (zJ0 fuel x).trans h)
theorem zJ2 (fuel : Nat) : EntryOK Tryz.prog 169 (zo8 fuel).te := EntryOK.tg rfl (zJ1 fuel) (isFn (fn := Tryz.f169) (by kernel_rfl) (by kernel_rfl) (by kernel_rfl))
def zxO (fuel : Nat) : Tab := Tab.of [(169, (zo7 fuel).te), (169, (zo8 fuel).te)] []
def zxP : List Norm := []
noncomputable def zxQ : C := irOf Tryz.prog Tryz.f120 [] zxP []
theorem zJ3 : lightC Tryz.prog [] Tryz.f120.ntmps zxP [] 0 (bodyOf Tryz.f120) = some (zxQ, 0) := by kernel_rfl
def zxR : List (Nat × Option (Nat × Bool)) := [(4, none)]
noncomputable def zxS (fuel : Nat) : IE := inlIE 2 (zxO fuel) fuel zxQ zxR
theorem zJ4 (fuel : Nat) : ISound Tryz.prog 120 (zxS fuel) :=
  zC (T := zxO fuel) (c := bodyOf Tryz.f120) (fn := Tryz.f120) (TabOK.of (entCons (zJW fuel) (entCons (zJ2 fuel) entNil)) (methNil)) mixed (by kernel_rfl) (by kernel_rfl) zJ3 (by kernel_rfl) (Nat.le_of_ble_eq_true (by kernel_rfl)) (rv := zxR) (by kernel_rfl) (isFn (fn := Tryz.f120) (by kernel_rfl) (by kernel_rfl) (by kernel_rfl))
abbrev zbG := Option (LP × ((Int × Unit) × Unit))
def zgU (fuel : Nat) : Tab := Tab.of [] []
abbrev zkG : List Pm := [{ cs := [(I6, false)], ag := false }]
abbrev zgV : List Pm := [{ cs := [(I6, false)], ag := false }]
def zxT : List Norm := [{ live := [5, 0, 1], fix := [] }]
noncomputable def zgW : C := irOf Tryz.prog Tryz.f170 [] zxT []
theorem zJ5 : lightC Tryz.prog [] Tryz.f170.ntmps zxT [] 0 (bodyOf Tryz.f170) = some (zgW, 1) := by kernel_rfl
def zgX : List (Nat × Option (Nat × Bool)) := [(4, none)]
abbrev zc8 := (Int) × (Int) × LP
def zxU (v : zc8) : Env × Heap := ([(5, SV.int .i64 v.1), (0, SV.own 0), (1, SV.int .i64 v.2.1)], [Blk.arr KP v.2.2 0])
def zgY (fuel : Nat) (g0 : zc8 → zbG) (v : zc8) : zbG :=
 cond (decide (v.1 < (zz (List.length v.2.2))))
 (tst (decide (0 ≤ v.1)) <|
 tst (decide (v.1 < (zz (List.length v.2.2)))) <|
 tst (decide (Int.toNat v.1 < List.length v.2.2)) <|
 tst (decide (0 ≤ v.1)) <|
 tst (decide (v.1 < (zz (List.length (List.set v.2.2 (Int.toNat v.1) (v.2.1, (List.getD v.2.2 (Int.toNat v.1) (0, (0, ()))).2.1, ())))))) <|
 tst (decide (Int.toNat v.1 < List.length (List.set v.2.2 (Int.toNat v.1) (v.2.1, (List.getD v.2.2 (Int.toNat v.1) (0, (0, ()))).2.1, ())))) <|
 g0 (w64 (v.1 + (1 : Int)), w64 (w64 (v.2.1 + (1 : Int)) + (1 : Int)), List.set (List.set v.2.2 (Int.toNat v.1) (v.2.1, (List.getD v.2.2 (Int.toNat v.1) (0, (0, ()))).2.1, ())) (Int.toNat v.1) ((List.getD (List.set v.2.2 (Int.toNat v.1) (v.2.1, (List.getD v.2.2 (Int.toNat v.1) (0, (0, ()))).2.1, ())) (Int.toNat v.1) (0, (0, ()))).1, w64 (v.2.1 + (1 : Int)), ())))
 (some ((v.2.2, (v.2.1, ()), ())))
def zkH (fuel : Nat) (g0 : zc8 → zbG) : zc8 → zbG := zgY fuel g0
theorem zJ6 (fuel : Nat) (G) : zgW.lp (zgU fuel) 1 fuel G (endS zgX KP false zgV) 0 zxU = iter (zkH fuel) fuel := C.lp_iter fun g v => by kernel_rfl
def zkI (fuel : Nat) (X0 : zc8 → zbG) (d0 : LP) (x0 : Int) : zbG :=
 X0 ((0 : Int), x0, d0)
def zaY (fuel : Nat) (z : LP × Unit × ((Int × Unit) × Unit)) : zbG := zkI fuel (iter (zkH fuel) fuel) z.1 z.2.2.1.1
theorem zJ7 (fuel : Nat) (c : List (Kd.T KP)) (d : CsT []) (x : PsT zkG) : run (zgU fuel) 1 fuel zgW ((0, firstV false 0 (svCs [] d)) :: env0 (svPs zkG x) 1) [.arr KP c 0] (endS zgX KP false zgV) = zaY fuel (c, d, x) :=
  (show run (zgU fuel) 1 fuel zgW ((0, firstV false 0 (svCs [] d)) :: env0 (svPs zkG x) 1) [.arr KP c 0] (endS zgX KP false zgV) = zkI fuel (zgW.lp (zgU fuel) 1 fuel (fun _ _ _ => none) (endS zgX KP false zgV) 0 zxU) c x.1.1 by kernel_rfl).trans (by rw [zJ6]; rfl)
def zo9 (fuel : Nat) : TFS := ⟨KP, false, [], zkG, zgV, false, zaY fuel⟩
theorem zJ8 (fuel : Nat) : FnSpecS Tryz.prog 170 (zo9 fuel) :=
  zl7 (T := zgU fuel) (c := bodyOf Tryz.f170) (fn := Tryz.f170) (TabOK.of (entNil) (methNil)) mixed (by kernel_rfl) (by kernel_rfl) zJ5 (by kernel_rfl) (Nat.le_of_ble_eq_true (by kernel_rfl)) (rv := zgX) (by kernel_rfl) (zJ7 fuel)
theorem zJ9 (fuel : Nat) : EntryOK Tryz.prog 170 (zo9 fuel).te := EntryOK.tfs (zJ8 fuel) (isFn (fn := Tryz.f170) (by kernel_rfl) (by kernel_rfl) (by kernel_rfl))
def zgZ (fuel : Nat) : Tab := Tab.of [] []
abbrev zkJ : Sh := (.nls (.cell I6 0 .nil))
abbrev zg0 : Sh := (.cell I6 0 .nil)
def zxV : List Norm := [{ live := [5, 0, 1], fix := [] }]
noncomputable def zg1 : C := irOf Tryz.prog Tryz.f170 [] zxV []
theorem zKa : lightC Tryz.prog [] Tryz.f170.ntmps zxV [] 0 (bodyOf Tryz.f170) = some (zg1, 1) := by kernel_rfl
def zg2 : List (Nat × Option (Nat × Bool)) := [(4, none)]
abbrev zc9 := (Int) × (Int)
def zxW (v : zc9) : Env × Heap := ([(5, SV.int .i64 v.1), (0, SV.nils), (1, SV.int .i64 v.2)], [])
def zKb (fuel : Nat) (g0 : zc9 → Option (Int × Unit)) (v : zc9) : Option (Int × Unit) :=
 cond (decide (v.1 < (zz 0)))
 (none)
 (some ((v.2, ())))
def zxX (fuel : Nat) (g0 : zc9 → Option (Int × Unit)) : zc9 → Option (Int × Unit) := zKb fuel g0
theorem zKc (fuel : Nat) (G) : zg1.lp (zgZ fuel) 0 fuel G (endG zg2 zg0) 0 zxW = iter (zxX fuel) fuel := C.lp_iter fun g v => by kernel_rfl
def zxY (fuel : Nat) (X0 : zc9 → Option (Int × Unit)) (x0 : Int) : Option (Int × Unit) :=
 X0 ((0 : Int), x0)
def zkK (fuel : Nat) (x : (Int × Unit)) : Option (Int × Unit) := zxY fuel (iter (zxX fuel) fuel) x.1
theorem zKd (fuel : Nat) (x : Sh.T zkJ) : run (zgZ fuel) 0 fuel zg1 (env0 (svS zkJ x) 0) [] (endG zg2 zg0) = zkK fuel x :=
  (show run (zgZ fuel) 0 fuel zg1 (env0 (svS zkJ x) 0) [] (endG zg2 zg0) = zxY fuel (zg1.lp (zgZ fuel) 0 fuel (fun _ _ _ => none) (endG zg2 zg0) 0 zxW) x.1 by kernel_rfl).trans (by rw [zKc]; rfl)
def zpa (fuel : Nat) : TG := ⟨zkJ, zg0, true, zkK fuel⟩
theorem zKe (fuel : Nat) : FnSpecG Tryz.prog 170 (zpa fuel) :=
  ze (T := zgZ fuel) (c := bodyOf Tryz.f170) (fn := Tryz.f170) (TabOK.of (entNil) (methNil)) mixed (by kernel_rfl) (by kernel_rfl) zKa (by kernel_rfl) (Nat.le_of_ble_eq_true (by kernel_rfl)) (rv := zg2) (by kernel_rfl) (fun x y h => (zKd fuel x).trans h)
theorem zKf (fuel : Nat) : EntryOK Tryz.prog 170 (zpa fuel).te := EntryOK.tg rfl (zKe fuel) (isFn (fn := Tryz.f170) (by kernel_rfl) (by kernel_rfl) (by kernel_rfl))
def zxZ (fuel : Nat) : Tab := Tab.of [(170, (zo9 fuel).te), (170, (zpa fuel).te)] []
def zx0 : List Norm := []
noncomputable def zx1 : C := irOf Tryz.prog Tryz.f121 [] zx0 []
theorem zKg : lightC Tryz.prog [] Tryz.f121.ntmps zx0 [] 0 (bodyOf Tryz.f121) = some (zx1, 0) := by kernel_rfl
def zx2 : List (Nat × Option (Nat × Bool)) := [(4, none)]
noncomputable def zx3 (fuel : Nat) : IE := inlIE 2 (zxZ fuel) fuel zx1 zx2
theorem zKh (fuel : Nat) : ISound Tryz.prog 121 (zx3 fuel) :=
  zC (T := zxZ fuel) (c := bodyOf Tryz.f121) (fn := Tryz.f121) (TabOK.of (entCons (zJ9 fuel) (entCons (zKf fuel) entNil)) (methNil)) mixed (by kernel_rfl) (by kernel_rfl) zKg (by kernel_rfl) (Nat.le_of_ble_eq_true (by kernel_rfl)) (rv := zx2) (by kernel_rfl) (isFn (fn := Tryz.f121) (by kernel_rfl) (by kernel_rfl) (by kernel_rfl))
def zg3 (fuel : Nat) : Tab := Tab.of [] []
abbrev zkL : List Pm := [{ cs := [(Kd.list I6, false)], ag := false }, { cs := [(I6, false)], ag := false }]
abbrev zg4 : List Pm := [{ cs := [(I6, false)], ag := false }]
def zx4 : List Norm := [{ live := [5, 0, 1], fix := [] }]
noncomputable def zg5 : C := irOf Tryz.prog Tryz.f172 [] zx4 []
theorem zKi : lightC Tryz.prog [] Tryz.f172.ntmps zx4 [] 0 (bodyOf Tryz.f172) = some (zg5, 1) := by kernel_rfl
def zg6 : List (Nat × Option (Nat × Bool)) := [(4, none)]
abbrev zda := (Int) × (List Int) × (Int)
def zx5 (v : zda) : Env × Heap := ([(5, SV.int .i64 v.1), (0, SV.es I6 v.2.1), (1, SV.int .i64 v.2.2)], [])
def zg7 (fuel : Nat) (g0 : zda → Option ((Int × Unit) × Unit)) (v : zda) : Option ((Int × Unit) × Unit) :=
 cond (decide (v.1 < (zz (List.length v.2.1))))
 (tst (decide (0 ≤ v.1)) <|
 tst (decide (v.1 < (zz (List.length v.2.1)))) <|
 cond (List.getD v.2.1 (Int.toNat v.1) 0 != v.2.2)
 (some ((((-1 : Int), ()), ())))
 (g0 (w64 (v.1 + (1 : Int)), v.2.1, w64 (v.2.2 + (1 : Int)))))
 (some (((v.2.2, ()), ())))
def zkM (fuel : Nat) (g0 : zda → Option ((Int × Unit) × Unit)) : zda → Option ((Int × Unit) × Unit) := zg7 fuel g0
theorem zKj (fuel : Nat) (G) : zg5.lp (zg3 fuel) 0 fuel G (endF zg6 zg4) 0 zx5 = iter (zkM fuel) fuel := C.lp_iter fun g v => by kernel_rfl
def zkN (fuel : Nat) (X0 : zda → Option ((Int × Unit) × Unit)) (x0 : List Int) (x1 : Int) : Option ((Int × Unit) × Unit) :=
 X0 ((0 : Int), x0, x1)
def zg8 (fuel : Nat) (x : (((List Int) × Unit) × ((Int × Unit) × Unit))) : Option ((Int × Unit) × Unit) := zkN fuel (iter (zkM fuel) fuel) x.1.1 x.2.1.1
theorem zKk (fuel : Nat) (x : PsT zkL) : run (zg3 fuel) 0 fuel zg5 (env0 (svPs zkL x) 0) [] (endF zg6 zg4) = zg8 fuel x :=
  (show run (zg3 fuel) 0 fuel zg5 (env0 (svPs zkL x) 0) [] (endF zg6 zg4) = zkN fuel (zg5.lp (zg3 fuel) 0 fuel (fun _ _ _ => none) (endF zg6 zg4) 0 zx5) x.1.1 x.2.1.1 by kernel_rfl).trans (by rw [zKj]; rfl)
def zkO (fuel : Nat) : TF := ⟨zkL, zg4, true, zg8 fuel⟩
theorem zKl (fuel : Nat) : FnSpec Tryz.prog 172 (zkO fuel) :=
  fn_spec (T := zg3 fuel) (c := bodyOf Tryz.f172) (fn := Tryz.f172) (TabOK.of (entNil) (methNil)) mixed (by kernel_rfl) (by kernel_rfl) zKi (by kernel_rfl) (Nat.le_of_ble_eq_true (by kernel_rfl)) (rv := zg6) (by kernel_rfl) (zKk fuel)
theorem zx6 (fuel : Nat) : EntryOK Tryz.prog 172 (zkO fuel).te := EntryOK.tf rfl (zKl fuel) (isFn (fn := Tryz.f172) (by kernel_rfl) (by kernel_rfl) (by kernel_rfl))
def zg9 (fuel : Nat) : Tab := Tab.of [(172, (zkO fuel).te)] []
abbrev zkP : List Pm := [{ cs := [(Kd.list (Kd.list I6), false)], ag := false }, { cs := [(I6, false)], ag := false }]
abbrev zha : List Pm := [{ cs := [(I6, false)], ag := false }]
def zx7 : List Norm := [{ live := [5, 0, 1], fix := [] }]
noncomputable def zhb : C := irOf Tryz.prog Tryz.f171 [] zx7 []
theorem zKm : lightC Tryz.prog [] Tryz.f171.ntmps zx7 [] 0 (bodyOf Tryz.f171) = some (zhb, 1) := by kernel_rfl
def zhc : List (Nat × Option (Nat × Bool)) := [(4, none)]
abbrev zdb := (Int) × (List (List Int)) × (Int)
def zx8 (v : zdb) : Env × Heap := ([(5, SV.int .i64 v.1), (0, SV.es (Kd.list I6) v.2.1), (1, SV.int .i64 v.2.2)], [])
def zay (fuel : Nat) (g0 : zdb → Option ((Int × Unit) × Unit)) (v : zdb) : Option ((Int × Unit) × Unit) :=
 cond (decide (v.1 < (zz (List.length v.2.1))))
 (tst (decide (0 ≤ v.1)) <|
 tst (decide (v.1 < (zz (List.length v.2.1)))) <|
 Option.bind (zg8 fuel ((List.getD v.2.1 (Int.toNat v.1) [], ()), (v.2.2, ()), ())) fun y_2 =>
 cond (decide (y_2.1.1 < (0 : Int)))
 (some ((((-1 : Int), ()), ())))
 (g0 (w64 (v.1 + (1 : Int)), v.2.1, y_2.1.1)))
 (some (((v.2.2, ()), ())))
def zpb (fuel : Nat) (g0 : zdb → Option ((Int × Unit) × Unit)) : zdb → Option ((Int × Unit) × Unit) := zay fuel g0
theorem zKn (fuel : Nat) (G) : zhb.lp (zg9 fuel) 0 fuel G (endF zhc zha) 0 zx8 = iter (zpb fuel) fuel := C.lp_iter fun g v => by kernel_rfl
def zkQ (fuel : Nat) (X0 : zdb → Option ((Int × Unit) × Unit)) (x0 : List (List Int)) (x1 : Int) : Option ((Int × Unit) × Unit) :=
 X0 ((0 : Int), x0, x1)
def zkR (fuel : Nat) (x : (((List (List Int)) × Unit) × ((Int × Unit) × Unit))) : Option ((Int × Unit) × Unit) := zkQ fuel (iter (zpb fuel) fuel) x.1.1 x.2.1.1
theorem zKo (fuel : Nat) (x : PsT zkP) : run (zg9 fuel) 0 fuel zhb (env0 (svPs zkP x) 0) [] (endF zhc zha) = zkR fuel x :=
  (show run (zg9 fuel) 0 fuel zhb (env0 (svPs zkP x) 0) [] (endF zhc zha) = zkQ fuel (zhb.lp (zg9 fuel) 0 fuel (fun _ _ _ => none) (endF zhc zha) 0 zx8) x.1.1 x.2.1.1 by kernel_rfl).trans (by rw [zKn]; rfl)
def zpc (fuel : Nat) : TF := ⟨zkP, zha, true, zkR fuel⟩
theorem zKp (fuel : Nat) : FnSpec Tryz.prog 171 (zpc fuel) :=
  fn_spec (T := zg9 fuel) (c := bodyOf Tryz.f171) (fn := Tryz.f171) (TabOK.of (entCons (zx6 fuel) entNil) (methNil)) mixed (by kernel_rfl) (by kernel_rfl) zKm (by kernel_rfl) (Nat.le_of_ble_eq_true (by kernel_rfl)) (rv := zhc) (by kernel_rfl) (zKo fuel)
theorem zKq (fuel : Nat) : EntryOK Tryz.prog 171 (zpc fuel).te := EntryOK.tf rfl (zKp fuel) (isFn (fn := Tryz.f171) (by kernel_rfl) (by kernel_rfl) (by kernel_rfl))
def zx9 (fuel : Nat) : Tab := Tab.of [(171, (zpc fuel).te)] []
abbrev zpd : List Pm := [{ cs := [(Kd.list (Kd.list I6), false)], ag := true }, { cs := [(I6, false)], ag := false }]
abbrev zya : List Pm := [{ cs := [(I6, false)], ag := false }]
def zyb : List Norm := []
noncomputable def zyc : C := irOf Tryz.prog Tryz.f122 [] zyb []
theorem zKr : lightC Tryz.prog [] Tryz.f122.ntmps zyb [] 0 (bodyOf Tryz.f122) = some (zyc, 0) := by kernel_rfl
def zyd : List (Nat × Option (Nat × Bool)) := [(4, none)]
def zpe (fuel : Nat) (x0 : List (List Int)) (x1 : Int) : Option ((Int × Unit) × Unit) :=
 Option.bind (zkR fuel ((x0, ()), (x1, ()), ())) fun y_1 =>
 cond (decide (y_1.1.1 < (0 : Int)))
 (some ((((-1 : Int), ()), ())))
 (some (((y_1.1.1, ()), ())))
def zkS (fuel : Nat) (x : (((List (List Int)) × Unit) × ((Int × Unit) × Unit))) : Option ((Int × Unit) × Unit) := zpe fuel x.1.1 x.2.1.1
theorem zKs (fuel : Nat) (x : PsT zpd) : run (zx9 fuel) 0 fuel zyc (env0 (svPs zpd x) 0) [] (endF zyd zya) = zkS fuel x := by kernel_rfl
def zpf (fuel : Nat) : TF := ⟨zpd, zya, true, zkS fuel⟩
theorem zKt (fuel : Nat) : FnSpec Tryz.prog 122 (zpf fuel) :=
  fn_spec (T := zx9 fuel) (c := bodyOf Tryz.f122) (fn := Tryz.f122) (TabOK.of (entCons (zKq fuel) entNil) (methNil)) mixed (by kernel_rfl) (by kernel_rfl) zKr (by kernel_rfl) (Nat.le_of_ble_eq_true (by kernel_rfl)) (rv := zyd) (by kernel_rfl) (zKs fuel)
theorem zKu (fuel : Nat) : EntryOK Tryz.prog 122 (zpf fuel).te := EntryOK.tf rfl (zKt fuel) (isFn (fn := Tryz.f122) (by kernel_rfl) (by kernel_rfl) (by kernel_rfl))
end Go.Proofs.YtdgdoeknpakmlaaGreat.Den
namespace Go.Proofs.YtdgdoeknpakmlaaGreat.Den
open Go Go.RowKit
def zye (fuel : Nat) : Tab := Tab.of [(172, (zkO fuel).te)] []
abbrev zpg : List Pm := [{ cs := [(Kd.list I6, false)], ag := true }, { cs := [(I6, false)], ag := false }]
abbrev zyf : List Pm := [{ cs := [(I6, false)], ag := false }]
def zyg : List Norm := []
noncomputable def zyh : C := irOf Tryz.prog Tryz.f123 [] zyg []
theorem zKv : lightC Tryz.prog [] Tryz.f123.ntmps zyg [] 0 (bodyOf Tryz.f123) = some (zyh, 0) := by kernel_rfl
def zyi : List (Nat × Option (Nat × Bool)) := [(4, none)]
def zph (fuel : Nat) (x0 : List Int) (x1 : Int) : Option ((Int × Unit) × Unit) :=
 Option.bind (zg8 fuel ((x0, ()), (x1, ()), ())) fun y_1 =>
 cond (decide (y_1.1.1 < (0 : Int)))
 (some ((((-1 : Int), ()), ())))
 (some (((y_1.1.1, ()), ())))
def zkT (fuel : Nat) (x : (((List Int) × Unit) × ((Int × Unit) × Unit))) : Option ((Int × Unit) × Unit) := zph fuel x.1.1 x.2.1.1
theorem zKw (fuel : Nat) (x : PsT zpg) : run (zye fuel) 0 fuel zyh (env0 (svPs zpg x) 0) [] (endF zyi zyf) = zkT fuel x := by kernel_rfl
def zpi (fuel : Nat) : TF := ⟨zpg, zyf, true, zkT fuel⟩
theorem zKx (fuel : Nat) : FnSpec Tryz.prog 123 (zpi fuel) :=
  fn_spec (T := zye fuel) (c := bodyOf Tryz.f123) (fn := Tryz.f123) (TabOK.of (entCons (zx6 fuel) entNil) (methNil)) mixed (by kernel_rfl) (by kernel_rfl) zKv (by kernel_rfl) (Nat.le_of_ble_eq_true (by kernel_rfl)) (rv := zyi) (by kernel_rfl) (zKw fuel)
theorem zKy (fuel : Nat) : EntryOK Tryz.prog 123 (zpi fuel).te := EntryOK.tf rfl (zKx fuel) (isFn (fn := Tryz.f123) (by kernel_rfl) (by kernel_rfl) (by kernel_rfl))
def zhd (fuel : Nat) : Tab := Tab.of [] []
abbrev zkU : List Pm := [{ cs := [(Kd.list KP, false)], ag := false }, { cs := [(I6, false)], ag := false }]
abbrev zhe : List Pm := [{ cs := [(I6, false)], ag := false }]
def zyj : List Norm := [{ live := [5, 0, 1], fix := [] }]
noncomputable def zhf : C := irOf Tryz.prog Tryz.f173 [] zyj []
theorem zKz : lightC Tryz.prog [] Tryz.f173.ntmps zyj [] 0 (bodyOf Tryz.f173) = some (zhf, 1) := by kernel_rfl
def zhg : List (Nat × Option (Nat × Bool)) := [(4, none)]
abbrev zdc := (Int) × LP × (Int)
def zyk (v : zdc) : Env × Heap := ([(5, SV.int .i64 v.1), (0, SV.es KP v.2.1), (1, SV.int .i64 v.2.2)], [])
def zhh (fuel : Nat) (g0 : zdc → Option ((Int × Unit) × Unit)) (v : zdc) : Option ((Int × Unit) × Unit) :=
 cond (decide (v.1 < (zz (List.length v.2.1))))
 (tst (decide (0 ≤ v.1)) <|
 tst (decide (v.1 < (zz (List.length v.2.1)))) <|
 cond ((List.getD v.2.1 (Int.toNat v.1) (0, (0, ()))).1 != v.2.2)
 (some ((((-1 : Int), ()), ())))
 (tst (decide (0 ≤ v.1)) <|
 tst (decide (v.1 < (zz (List.length v.2.1)))) <|
 cond ((List.getD v.2.1 (Int.toNat v.1) (0, (0, ()))).2.1 != w64 (v.2.2 + (1 : Int)))
 (some ((((-1 : Int), ()), ())))
 (g0 (w64 (v.1 + (1 : Int)), v.2.1, w64 (w64 (v.2.2 + (1 : Int)) + (1 : Int))))))
 (some (((v.2.2, ()), ())))
def zkV (fuel : Nat) (g0 : zdc → Option ((Int × Unit) × Unit)) : zdc → Option ((Int × Unit) × Unit) := zhh fuel g0
theorem zKA (fuel : Nat) (G) : zhf.lp (zhd fuel) 0 fuel G (endF zhg zhe) 0 zyk = iter (zkV fuel) fuel := C.lp_iter fun g v => by kernel_rfl
def zkW (fuel : Nat) (X0 : zdc → Option ((Int × Unit) × Unit)) (x0 : LP) (x1 : Int) : Option ((Int × Unit) × Unit) :=
 X0 ((0 : Int), x0, x1)
def zkX (fuel : Nat) (x : ((LP × Unit) × ((Int × Unit) × Unit))) : Option ((Int × Unit) × Unit) := zkW fuel (iter (zkV fuel) fuel) x.1.1 x.2.1.1
theorem zKB (fuel : Nat) (x : PsT zkU) : run (zhd fuel) 0 fuel zhf (env0 (svPs zkU x) 0) [] (endF zhg zhe) = zkX fuel x :=
  (show run (zhd fuel) 0 fuel zhf (env0 (svPs zkU x) 0) [] (endF zhg zhe) = zkW fuel (zhf.lp (zhd fuel) 0 fuel (fun _ _ _ => none) (endF zhg zhe) 0 zyk) x.1.1 x.2.1.1 by kernel_rfl).trans (by rw [zKA]; rfl)
def zpj (fuel : Nat) : TF := ⟨zkU, zhe, true, zkX fuel⟩
theorem zKC (fuel : Nat) : FnSpec Tryz.prog 173 (zpj fuel) :=
  fn_spec (T := zhd fuel) (c := bodyOf Tryz.f173) (fn := Tryz.f173) (TabOK.of (entNil) (methNil)) mixed (by kernel_rfl) (by kernel_rfl) zKz (by kernel_rfl) (Nat.le_of_ble_eq_true (by kernel_rfl)) (rv := zhg) (by kernel_rfl) (zKB fuel)
theorem zKD (fuel : Nat) : EntryOK Tryz.prog 173 (zpj fuel).te := EntryOK.tf rfl (zKC fuel) (isFn (fn := Tryz.f173) (by kernel_rfl) (by kernel_rfl) (by kernel_rfl))
def zyl (fuel : Nat) : Tab := Tab.of [(173, (zpj fuel).te)] []
abbrev zpk : List Pm := [{ cs := [(Kd.list KP, false), (I6, false), (I6, false)], ag := true }, { cs := [(I6, false)], ag := false }]
abbrev zym : List Pm := [{ cs := [(I6, false)], ag := false }]
def zyn : List Norm := []
noncomputable def zyo : C := irOf Tryz.prog Tryz.f124 [] zyn []
theorem zKE : lightC Tryz.prog [] Tryz.f124.ntmps zyn [] 0 (bodyOf Tryz.f124) = some (zyo, 0) := by kernel_rfl
def zyp : List (Nat × Option (Nat × Bool)) := [(4, none)]
def zpl (fuel : Nat) (x0 : LP) (x1 : Int) (x2 : Int) (x3 : Int) : Option ((Int × Unit) × Unit) :=
 Option.bind (zkX fuel ((x0, ()), (x3, ()), ())) fun y_1 =>
 cond (decide (y_1.1.1 < (0 : Int)))
 (some ((((-1 : Int), ()), ())))
 (some (((y_1.1.1, ()), ())))
def zkY (fuel : Nat) (x : ((LP × (Int × (Int × Unit))) × ((Int × Unit) × Unit))) : Option ((Int × Unit) × Unit) := zpl fuel x.1.1 x.1.2.1 x.1.2.2.1 x.2.1.1
theorem zKF (fuel : Nat) (x : PsT zpk) : run (zyl fuel) 0 fuel zyo (env0 (svPs zpk x) 0) [] (endF zyp zym) = zkY fuel x := by kernel_rfl
def zpm (fuel : Nat) : TF := ⟨zpk, zym, true, zkY fuel⟩
theorem zKG (fuel : Nat) : FnSpec Tryz.prog 124 (zpm fuel) :=
  fn_spec (T := zyl fuel) (c := bodyOf Tryz.f124) (fn := Tryz.f124) (TabOK.of (entCons (zKD fuel) entNil) (methNil)) mixed (by kernel_rfl) (by kernel_rfl) zKE (by kernel_rfl) (Nat.le_of_ble_eq_true (by kernel_rfl)) (rv := zyp) (by kernel_rfl) (zKF fuel)
theorem zKH (fuel : Nat) : EntryOK Tryz.prog 124 (zpm fuel).te := EntryOK.tf rfl (zKG fuel) (isFn (fn := Tryz.f124) (by kernel_rfl) (by kernel_rfl) (by kernel_rfl))
def zhi (fuel : Nat) : Tab := Tab.of [] []
abbrev zkZ : List Pm := [{ cs := [(Kd.list KP, false)], ag := false }, { cs := [(I6, false)], ag := false }]
abbrev zhj : List Pm := [{ cs := [(I6, false)], ag := false }]
def zyq : List Norm := [{ live := [5, 0, 1], fix := [] }]
noncomputable def zhk : C := irOf Tryz.prog Tryz.f174 [] zyq []
theorem zKI : lightC Tryz.prog [] Tryz.f174.ntmps zyq [] 0 (bodyOf Tryz.f174) = some (zhk, 1) := by kernel_rfl
def zhl : List (Nat × Option (Nat × Bool)) := [(4, none)]
abbrev zdd := (Int) × LP × (Int)
def zyr (v : zdd) : Env × Heap := ([(5, SV.int .i64 v.1), (0, SV.es KP v.2.1), (1, SV.int .i64 v.2.2)], [])
def zhm (fuel : Nat) (g0 : zdd → Option ((Int × Unit) × Unit)) (v : zdd) : Option ((Int × Unit) × Unit) :=
 cond (decide (v.1 < (zz (List.length v.2.1))))
 (tst (decide (0 ≤ v.1)) <|
 tst (decide (v.1 < (zz (List.length v.2.1)))) <|
 cond ((List.getD v.2.1 (Int.toNat v.1) (0, (0, ()))).1 != v.2.2)
 (some ((((-1 : Int), ()), ())))
 (tst (decide (0 ≤ v.1)) <|
 tst (decide (v.1 < (zz (List.length v.2.1)))) <|
 cond ((List.getD v.2.1 (Int.toNat v.1) (0, (0, ()))).2.1 != w64 (v.2.2 + (1 : Int)))
 (some ((((-1 : Int), ()), ())))
 (g0 (w64 (v.1 + (1 : Int)), v.2.1, w64 (w64 (v.2.2 + (1 : Int)) + (1 : Int))))))
 (some (((v.2.2, ()), ())))
def zk0 (fuel : Nat) (g0 : zdd → Option ((Int × Unit) × Unit)) : zdd → Option ((Int × Unit) × Unit) := zhm fuel g0
theorem zKJ (fuel : Nat) (G) : zhk.lp (zhi fuel) 0 fuel G (endF zhl zhj) 0 zyr = iter (zk0 fuel) fuel := C.lp_iter fun g v => by kernel_rfl
def zk1 (fuel : Nat) (X0 : zdd → Option ((Int × Unit) × Unit)) (x0 : LP) (x1 : Int) : Option ((Int × Unit) × Unit) :=
 X0 ((0 : Int), x0, x1)
def zk2 (fuel : Nat) (x : ((LP × Unit) × ((Int × Unit) × Unit))) : Option ((Int × Unit) × Unit) := zk1 fuel (iter (zk0 fuel) fuel) x.1.1 x.2.1.1
theorem zKK (fuel : Nat) (x : PsT zkZ) : run (zhi fuel) 0 fuel zhk (env0 (svPs zkZ x) 0) [] (endF zhl zhj) = zk2 fuel x :=
  (show run (zhi fuel) 0 fuel zhk (env0 (svPs zkZ x) 0) [] (endF zhl zhj) = zk1 fuel (zhk.lp (zhi fuel) 0 fuel (fun _ _ _ => none) (endF zhl zhj) 0 zyr) x.1.1 x.2.1.1 by kernel_rfl).trans (by rw [zKJ]; rfl)
def zpn (fuel : Nat) : TF := ⟨zkZ, zhj, true, zk2 fuel⟩
theorem zKL (fuel : Nat) : FnSpec Tryz.prog 174 (zpn fuel) :=
  fn_spec (T := zhi fuel) (c := bodyOf Tryz.f174) (fn := Tryz.f174) (TabOK.of (entNil) (methNil)) mixed (by kernel_rfl) (by kernel_rfl) zKI (by kernel_rfl) (Nat.le_of_ble_eq_true (by kernel_rfl)) (rv := zhl) (by kernel_rfl) (zKK fuel)
theorem zKM (fuel : Nat) : EntryOK Tryz.prog 174 (zpn fuel).te := EntryOK.tf rfl (zKL fuel) (isFn (fn := Tryz.f174) (by kernel_rfl) (by kernel_rfl) (by kernel_rfl))
def zys (fuel : Nat) : Tab := Tab.of [(174, (zpn fuel).te)] []
abbrev zpo : List Pm := [{ cs := [(Kd.list KP, false), (I6, false)], ag := true }, { cs := [(I6, false)], ag := false }]
abbrev zyt : List Pm := [{ cs := [(I6, false)], ag := false }]
def zyu : List Norm := []
noncomputable def zyv : C := irOf Tryz.prog Tryz.f125 [] zyu []
theorem zKN : lightC Tryz.prog [] Tryz.f125.ntmps zyu [] 0 (bodyOf Tryz.f125) = some (zyv, 0) := by kernel_rfl
def zyw : List (Nat × Option (Nat × Bool)) := [(4, none)]
def zpp (fuel : Nat) (x0 : LP) (x1 : Int) (x2 : Int) : Option ((Int × Unit) × Unit) :=
 Option.bind (zk2 fuel ((x0, ()), (x2, ()), ())) fun y_1 =>
 cond (decide (y_1.1.1 < (0 : Int)))
 (some ((((-1 : Int), ()), ())))
 (some (((y_1.1.1, ()), ())))
def zk3 (fuel : Nat) (x : ((LP × (Int × Unit)) × ((Int × Unit) × Unit))) : Option ((Int × Unit) × Unit) := zpp fuel x.1.1 x.1.2.1 x.2.1.1
theorem zKO (fuel : Nat) (x : PsT zpo) : run (zys fuel) 0 fuel zyv (env0 (svPs zpo x) 0) [] (endF zyw zyt) = zk3 fuel x := by kernel_rfl
def zpq (fuel : Nat) : TF := ⟨zpo, zyt, true, zk3 fuel⟩
theorem zKP (fuel : Nat) : FnSpec Tryz.prog 125 (zpq fuel) :=
  fn_spec (T := zys fuel) (c := bodyOf Tryz.f125) (fn := Tryz.f125) (TabOK.of (entCons (zKM fuel) entNil) (methNil)) mixed (by kernel_rfl) (by kernel_rfl) zKN (by kernel_rfl) (Nat.le_of_ble_eq_true (by kernel_rfl)) (rv := zyw) (by kernel_rfl) (zKO fuel)
theorem zKQ (fuel : Nat) : EntryOK Tryz.prog 125 (zpq fuel).te := EntryOK.tf rfl (zKP fuel) (isFn (fn := Tryz.f125) (by kernel_rfl) (by kernel_rfl) (by kernel_rfl))
def zyx (fuel : Nat) : Tab := Tab.of [(122, (zpf fuel).te), (123, (zpi fuel).te), (124, (zpm fuel).te), (125, (zpq fuel).te)] []
abbrev zpr : List Pm := [{ cs := [(Kd.list (Kd.list I6), false), (Kd.list I6, false), (Kd.list KP, false), (I6, false), (I6, false), (Kd.list KP, false), (I6, false)], ag := true }, { cs := [(I6, false)], ag := false }]
abbrev zyy : List Pm := [{ cs := [(I6, false)], ag := false }]
def zyz : List Norm := []
noncomputable def zyA : C := irOf Tryz.prog Tryz.f73 [] zyz []
theorem zKR : lightC Tryz.prog [] Tryz.f73.ntmps zyz [] 0 (bodyOf Tryz.f73) = some (zyA, 0) := by kernel_rfl
def zyB : List (Nat × Option (Nat × Bool)) := [(4, none)]
def zps (fuel : Nat) (x0 : List (List Int)) (x1 : List Int) (x2 : LP) (x3 : Int) (x4 : Int) (x5 : LP) (x6 : Int) (x7 : Int) : Option ((Int × Unit) × Unit) :=
 Option.bind (zkS fuel ((x0, ()), (x7, ()), ())) fun y_1 =>
 cond (decide (y_1.1.1 < (0 : Int)))
 (some ((((-1 : Int), ()), ())))
 (Option.bind (zkT fuel ((x1, ()), (y_1.1.1, ()), ())) fun y_3 =>
 cond (decide (y_3.1.1 < (0 : Int)))
 (some ((((-1 : Int), ()), ())))
 (Option.bind (zkY fuel ((x2, x3, x4, ()), (y_3.1.1, ()), ())) fun y_5 =>
 cond (decide (y_5.1.1 < (0 : Int)))
 (some ((((-1 : Int), ()), ())))
 (Option.bind (zk3 fuel ((x5, x6, ()), (y_5.1.1, ()), ())) fun y_7 =>
 cond (decide (y_7.1.1 < (0 : Int)))
 (some ((((-1 : Int), ()), ())))
 (some (((y_7.1.1, ()), ()))))))
def zaZ (fuel : Nat) (x : (SumY × ((Int × Unit) × Unit))) : Option ((Int × Unit) × Unit) := zps fuel x.1.1 x.1.2.1 x.1.2.2.1 x.1.2.2.2.1 x.1.2.2.2.2.1 x.1.2.2.2.2.2.1 x.1.2.2.2.2.2.2.1 x.2.1.1
theorem zKS (fuel : Nat) (x : PsT zpr) : run (zyx fuel) 0 fuel zyA (env0 (svPs zpr x) 0) [] (endF zyB zyy) = zaZ fuel x := by kernel_rfl
def zk4 (fuel : Nat) : TF := ⟨zpr, zyy, true, zaZ fuel⟩
theorem zKT (fuel : Nat) : FnSpec Tryz.prog 73 (zk4 fuel) :=
  fn_spec (T := zyx fuel) (c := bodyOf Tryz.f73) (fn := Tryz.f73) (TabOK.of (entCons (zKu fuel) (entCons (zKy fuel) (entCons (zKH fuel) (entCons (zKQ fuel) entNil)))) (methNil)) mixed (by kernel_rfl) (by kernel_rfl) zKR (by kernel_rfl) (Nat.le_of_ble_eq_true (by kernel_rfl)) (rv := zyB) (by kernel_rfl) (zKS fuel)
theorem zyC (fuel : Nat) : EntryOK Tryz.prog 73 (zk4 fuel).te := EntryOK.tf rfl (zKT fuel) (isFn (fn := Tryz.f73) (by kernel_rfl) (by kernel_rfl) (by kernel_rfl))
end Go.Proofs.YtdgdoeknpakmlaaGreat.Den
namespace Go.Proofs.YtdgdoeknpakmlaaGreat.Den
open Go Go.RowKit
abbrev aR (y : List Int) : Blk := .arr I6 y 0
theorem rowsAt (c : Blk) (ys : List (List Int)) {i : Nat} (h : i < ys.length) : (c :: ys.map aR)[1 + i]? = some (aR (ys[i])) := by
  rw [Nat.add_comm, List.getElem?_cons_succ, List.getElem?_map, List.getElem?_eq_getElem h]; rfl
def owns (a : Nat) : Nat → List SV
  | 0 => []
  | n + 1 => .own a :: owns (a + 1) n
theorem za8 : ∀ {n a : Nat}, (owns a n).length = n
  | 0, _ => rfl
  | n + 1, a => by simp [owns, za8]
theorem zrg : ∀ {n a i : Nat}, i < n → (owns a n)[i]? = some (.own (a + i))
  | n + 1, a, 0, _ => rfl
  | n + 1, a, i + 1, h => by
    rw [owns, List.getElem?_cons_succ, zrg (by omega)]
    congr 2; omega
theorem zrh : ∀ {n a : Nat}, SV.refsL (owns a n) = List.range' a n
  | 0, _ => rfl
  | n + 1, a => by simp [owns, SV.refsL, SV.refs, zrh, List.range'_succ]
theorem zCy : ∀ {n a : Nat}, owns a n ++ [.own (a + n)] = owns a (n + 1)
  | 0, _ => rfl
  | n + 1, a => by
    rw [owns, List.cons_append, show a + (n + 1) = a + 1 + n by omega, zCy]; rfl
theorem zCz : ∀ {n : Nat}, SV.refsL (List.replicate n .nils) = []
  | 0 => rfl
  | n + 1 => by rw [List.replicate_succ]; simp [SV.refsL, SV.refs, zCz]
theorem zCA : ∀ {a b : List SV}, SV.refsL (a ++ b) = SV.refsL a ++ SV.refsL b
  | [], b => rfl
  | c :: a, b => by simp [SV.refsL, zCA]
theorem zCB {f : Nat → Option Nat} : ∀ {a b : List SV}, SV.renL f (a ++ b) = SV.renL f a ++ SV.renL f b
  | [], b => rfl
  | c :: a, b => by simp [SV.renL, zCB]
theorem zri {f : Nat → Option Nat} : ∀ {n a : Nat}, (∀ i, i < a + n → f i = some i) → SV.renL f (owns a n) = owns a n
  | 0, _, _ => rfl
  | n + 1, a, h => by
    rw [owns, SV.renL, zri (fun i hi => h i (by omega))]
    simp [SV.ren, h a (by omega)]
theorem zCC {f : Nat → Option Nat} : ∀ {n : Nat}, SV.renL f (List.replicate n .nils) = List.replicate n .nils
  | 0 => rfl
  | n + 1 => by rw [List.replicate_succ, SV.renL, zCC]; simp [SV.ren]
theorem zCD : ∀ {n a β k : Nat}, a ≤ β → β < a + n → idxIn β (List.range' a n) k = some (k + (β - a))
  | 0, a, β, k, h1, h2 => by omega
  | n + 1, a, β, k, h1, h2 => by
    rw [List.range'_succ, idxIn]
    by_cases e : a = β
    · subst e
      simp
    · rw [show Nat.beq a β = false by cases hb : Nat.beq a β with
        | false => rfl
        | true => exact absurd (Nat.eq_of_beq_eq_true hb) e, cond_false, zCD (by omega) (by omega)]
      congr 1; omega
theorem blt0 (n : Nat) : Nat.blt n 0 = false := rfl
theorem zOi {n β : Nat} (h : β < n) : renF 0 (List.range' 0 n) β = some β := by
  unfold renF
  rw [blt0, cond_false, zCD (Nat.zero_le _) (by omega)]
  simp
theorem zCE : ∀ {n a : Nat}, nodupB (List.range' a n) = true
  | 0, _ => rfl
  | n + 1, a => by
    rw [List.range'_succ, nodupB, zCE, Bool.and_true, Bool.not_eq_true', List.contains_eq_mem]
    simp only [decide_eq_false_iff_not, List.mem_range'_1]
    omega
theorem zCF (H : Heap) : ∀ (m a : Nat) (fuel : Nat), 0 < a → (∀ i, i < m → ∃ y, H[a + i]? = some (aR y)) → gcOrder 0 H (fuel + m) (List.range' a m) (List.range' 0 a) = List.range' 0 (a + m)
  | 0, a, fuel, _, _ => by
    cases fuel with
    | zero => rfl
    | succ f => rfl
  | m + 1, a, fuel, h0, h => by
    obtain ⟨y, hy⟩ := h 0 (by omega)
    rw [Nat.add_zero] at hy
    rw [show fuel + (m + 1) = (fuel + m) + 1 by omega, List.range'_succ, gcOrder]
    have h1 : (Nat.blt a 0 || (List.range' 0 a).contains a) = false := by
      rw [blt0, Bool.false_or, List.contains_eq_mem]
      simp
    rw [h1, cond_false, hy]
    simp only [Blk.refs, List.append_nil]
    have h2 : List.range' 0 a ++ [a] = List.range' 0 (a + 1) := by
      rw [List.range'_concat]; simp
    rw [h2, zCF H m (a + 1) fuel (by omega) (fun i hi => by
      obtain ⟨y, h3⟩ := h (i + 1) (by omega)
      exact ⟨y, by rw [← h3]; congr 1; omega⟩)]
    congr 1; omega
theorem zOj {m : Nat} (h : m + 1 ≤ 4294967296) : ∃ f, LIM = (f + m) + 1 := ⟨4294967296 - m - 1, by show 4294967296 = _; omega⟩
theorem gc_of {n0 : Nat} {τ : Env} {H : Heap} {σ : List Nat} (h : gcOrder n0 H LIM (τ.flatMap (fun p => p.2.refs) ++ (H.take n0).flatMap Blk.refs) [] = σ)
    (hc : (nodupB σ && (σ.all (fun β => Nat.ble n0 β && Nat.blt β H.length) && Nat.ble n0 H.length)) = true) :
    gc n0 τ H = some (τ.map (fun p => (p.1, p.2.ren (renF n0 σ))), (H.take n0).map (Blk.ren (renF n0 σ)) ++ σ.map (fun β => match H[β]? with | some x => x.ren (renF n0 σ) | none => .dead)) := by
  unfold gc
  simp only [h]
  rw [hc]; rfl
abbrev rowsH (ys : List (List Int)) (m : Nat) (t : Nat) : Heap := .cells (owns 1 ys.length ++ List.replicate m .nils) t 1 :: ys.map aR
theorem gc_rows {xss : List (List Int)} {ys : List (List Int)} {m t : Nat} {n : Int} (hl : ys.length + 1 ≤ 4294967295) :
    gc 0 [(4, .int .i64 n), (0, .es (.list I6) xss), (3, .own 0)] (rowsH ys m t) = some ([(4, .int .i64 n), (0, .es (.list I6) xss), (3, .own 0)], rowsH ys m 0) := by
  have hord : gcOrder 0 (rowsH ys m t) LIM [0] [] = List.range' 0 (ys.length + 1) := by
    obtain ⟨f, hf⟩ := zOj (m := ys.length) (by omega)
    rw [hf, gcOrder]
    have h1 : (Nat.blt 0 0 || ([] : List Nat).contains 0) = false := rfl
    rw [h1, cond_false]
    show gcOrder 0 (rowsH ys m t) (f + ys.length) ([] ++ SV.refsL (owns 1 ys.length ++ List.replicate m .nils)) [0] = _
    rw [zCA, zrh, zCz, List.append_nil, List.nil_append]
    have h2 := zCF (rowsH ys m t) ys.length 1 f (by omega) (fun i hi => ⟨_, rowsAt _ ys hi⟩)
    rw [Nat.add_comm 1] at h2
    exact h2
  have hc : (nodupB (List.range' 0 (ys.length + 1)) && ((List.range' 0 (ys.length + 1)).all (fun β => Nat.ble 0 β && Nat.blt β (rowsH ys m t).length) && Nat.ble 0 (rowsH ys m t).length)) = true := by
    rw [zCE, Bool.true_and, Bool.and_eq_true, List.all_eq_true]
    refine ⟨fun β hβ => ?_, by simp⟩
    have := List.mem_range'_1.1 hβ
    simp [Nat.ble_eq, Nat.blt_eq]; omega
  have hren : ∀ β, β < ys.length + 1 → renF 0 (List.range' 0 (ys.length + 1)) β = some β := fun β h => zOi h
  have e1 : (List.range' 0 (ys.length + 1)).map (fun β => match (rowsH ys m t)[β]? with | some x => x.ren (renF 0 (List.range' 0 (ys.length + 1))) | none => .dead) = rowsH ys m 0 := by
    refine List.ext_getElem? fun i => ?_
    rw [List.getElem?_map]
    rcases Nat.lt_or_ge i (ys.length + 1) with h | h
    · rw [List.getElem?_range' h]
      simp only [Nat.zero_add, Nat.one_mul, Option.map_some]
      cases i with
      | zero =>
        simp only [List.getElem?_cons_zero, Blk.ren]
        rw [zCB, zri (fun j hj => hren j (by omega)), zCC]
      | succ i =>
        have hi : i < ys.length := by omega
        rw [Nat.add_comm i 1, rowsAt _ ys hi, rowsAt _ ys hi]; rfl
    · rw [List.getElem?_eq_none (by simpa using h), List.getElem?_eq_none (by simpa using h)]; rfl
  have h0 := hren 0 (by omega)
  rw [gc_of (σ := List.range' 0 (ys.length + 1)) hord hc, e1]
  simp only [List.map_cons, List.map_nil, SV.ren, h0, List.take_zero, List.nil_append]
def zaa (fuel : Nat) : Tab := Tab.of [(68, (zcZ fuel).te)] []
def zKU : List Norm := [{ live := [4, 0, 3], fix := [] }]
abbrev zde : C := C.seq (C.seq (C.reg false [{ d := some 8, g := none, i := I.mv (S.t 4) }, { d := some 9, g := none, i := I.mv (S.t 0) }, { d := some 10, g := none, i := I.len (S.t 9) }, { d := some 11, g := none, i := I.bin BinOp.lss (S.t 8) (S.t 10) }]) (C.cnd (S.t 11) C.skip (C.exit 0))) (C.seq (C.blk 1 (C.reg false [{ d := some 14, g := none, i := I.mv (S.t 3) }, { d := some 15, g := none, i := I.mv (S.t 4) }, { d := some 16, g := none, i := I.mv (S.t 0) }, { d := some 17, g := none, i := I.mv (S.t 4) }, { d := some 18, g := none, i := I.ia 1 (S.t 16) (S.t 17) }, { d := some 19, g := none, i := I.ld 1 false (S.t 18) }, { d := some 20, g := none, i := I.call 68 [S.t 19] }, { d := some 21, g := none, i := I.ia 1 (S.t 14) (S.t 15) }, { d := none, g := none, i := I.st 1 (S.t 21) (S.t 20) }])) (C.reg false [{ d := some 12, g := none, i := I.mv (S.t 4) }, { d := some 13, g := none, i := I.bin BinOp.add (S.t 12) (S.c (SV.int .i64 (Int.ofNat 1))) }, { d := some 4, g := none, i := I.mv (S.t 13) }]))
abbrev zdf : Norm := { live := [4, 0, 3], fix := [] }
def zpt : C := C.seq (C.reg false [{ d := some 2, g := none, i := I.mv (S.c SV.nils) }]) (C.seq (C.reg false [{ d := some 5, g := none, i := I.mv (S.t 0) }, { d := some 6, g := none, i := I.len (S.t 5) }, { d := some 7, g := none, i := I.mk none [SV.nils] 23 (S.t 6) (some (S.t 6)) }, { d := some 3, g := none, i := I.mv (S.t 7) }]) (C.seq (C.seq (C.reg false [{ d := some 4, g := none, i := I.mv (S.c (SV.int .i64 (Int.ofNat 0))) }]) (C.blk 0 (C.loop zdf zde))) (C.seq (C.reg false [{ d := some 22, g := none, i := I.mv (S.t 3) }, { d := some 2, g := none, i := I.mv (S.t 22) }]) C.ret)))
theorem zKV : lightC Tryz.prog [7] Tryz.f179.ntmps zKU [] 0 (bodyOf Tryz.f179) = some (zpt, 1) := by kernel_rfl
def zdg : List (Nat × Option (Nat × Bool)) := [(2, none)]
def zaz (fuel : Nat) (x : ((List (List Int)) × Unit)) : Option (List (List Int)) :=
  if x.1.length ≤ 1048576 ∧ ∀ r ∈ x.1, zF fuel ((r, ()), ()) = some ((r, ()), ()) then some x.1 else none
abbrev zpu : Sh := .cell (.list (.list I6)) 0 .nil
def zpv (fuel : Nat) : TR := ⟨zpu, I6, zaz fuel⟩
theorem zyD (fuel f2 : Nat) (R : Type) (i : Int) (xss : List (List Int)) (cs : List SV) (Rs : Heap) (K : Ex → Env → Heap → Option R) :
    run (zaa fuel) 0 f2 zde [(4, .int .i64 i), (0, .es (.list I6) xss), (3, .own 0)] (.cells cs 0 1 :: Rs) K =
    cond (decide (i < (zz xss.length)))
      (tst (decide (0 ≤ i)) <| tst (decide (i < (zz xss.length))) <| Option.bind (zF fuel ((xss.getD i.toNat [], ()), ())) fun y =>
        tst (decide (0 ≤ i)) <| tst (decide (i < (zz (cs.length / 1)))) <| if i.toNat * 1 + 1 ≤ cs.length ∧ [SV.own (Rs.length + 1)].all SV.oneB = true then
          K .normal [(4, .int .i64 (w64 (i + 1))), (13, .int .i64 (w64 (i + 1))), (12, .int .i64 i), (21, .ptr 0 (i.toNat * 1)), (20, .own (Rs.length + 1)), (19, .es I6 (xss.getD i.toNat [])), (18, .eptr (.list I6) (xss.getD i.toNat []) 0), (17, .int .i64 i), (16, .es (.list I6) xss), (15, .int .i64 i), (14, .own 0), (11, .bool (decide (i < (zz xss.length)))), (10, .int .i64 (zz xss.length)), (9, .es (.list I6) xss), (8, .int .i64 i), (4, .int .i64 i), (0, .es (.list I6) xss), (3, .own 0)] (.cells (setCells cs (i.toNat * 1) [.own (Rs.length + 1)]) 0 1 :: (Rs ++ [aR y.1.1]))
        else none)
      (K (.exit 0) [(11, .bool (decide (i < (zz xss.length)))), (10, .int .i64 (zz xss.length)), (9, .es (.list I6) xss), (8, .int .i64 i), (4, .int .i64 i), (0, .es (.list I6) xss), (3, .own 0)] (.cells cs 0 1 :: Rs)) := by
  kernel_rfl
theorem zz_cast (n : Nat) : zz n = (n : Int) := rfl
theorem w64_up2 {n : Nat} (h : n ≤ 1048576) : w64 ((n : Int) + 1) = ((n + 1 : Nat) : Int) := by
  rw [w64_up (show n < 4294967296 by omega)]
theorem zOk {i k : Nat} : setCells (owns 1 i ++ List.replicate (k + 1) .nils) (i * 1) [.own (i + 1)] = owns 1 (i + 1) ++ List.replicate k .nils := by
  unfold setCells
  have h1 : (owns 1 i ++ List.replicate (k + 1) SV.nils).take (i * 1) = owns 1 i := by
    rw [Nat.mul_one, List.take_append_of_le_length (by rw [za8]; exact Nat.le_refl _), List.take_of_length_le (by rw [za8]; exact Nat.le_refl _)]
  have h2 : (owns 1 i ++ List.replicate (k + 1) SV.nils).drop (i * 1 + [SV.own (i + 1)].length) = List.replicate k .nils := by
    rw [Nat.mul_one, show i + [SV.own (i + 1)].length = (owns 1 i).length + 1 by rw [za8]; rfl, List.drop_append, List.drop_of_length_le (by omega)]
    simp [List.replicate_succ]
  rw [h1, h2, ← zCy, Nat.add_comm i 1]
  simp
theorem zCG (fuel f2 : Nat) {R : Type} (xss : List (List Int)) (hx : ∀ r ∈ xss, zF fuel ((r, ()), ()) = some ((r, ()), ())) (hl : xss.length ≤ 1048576) (K : Ex → Env → Heap → Option R) :
    ∀ (k i : Nat), i + k = xss.length → ∃ τ, Tm.get τ 3 = .own 0 ∧ loopN (run (zaa fuel) 0 f2 zde) 0 zdf (k + 1) [(4, .int .i64 (i : Int)), (0, .es (.list I6) xss), (3, .own 0)] (rowsH (xss.take i) k 0) K =
      K (.exit 0) τ (rowsH xss 0 0)
  | 0, i, hi => by
    refine ⟨[(11, .bool false), (10, .int .i64 (zz xss.length)), (9, .es (.list I6) xss), (8, .int .i64 i), (4, .int .i64 i), (0, .es (.list I6) xss), (3, .own 0)], rfl, ?_⟩
    rw [loopN]
    refine (zyD fuel f2 R i xss _ _ _).trans ?_
    have h1 : decide ((i : Int) < zz xss.length) = false := by rw [zz_cast]; simp; omega
    rw [h1, cond_false, List.take_of_length_le (by omega)]
    rfl
  | k + 1, i, hi => by
    have hlt : i < xss.length := by omega
    obtain ⟨τ, h3, ih⟩ := zCG fuel f2 xss hx hl K k (i + 1) (by omega)
    refine ⟨τ, h3, ?_⟩
    rw [loopN]
    refine (zyD fuel f2 R i xss _ _ _).trans ?_
    have h1 : decide ((i : Int) < zz xss.length) = true := by rw [zz_cast]; simp; omega
    have h2 : decide ((0 : Int) ≤ (i : Int)) = true := by simp
    have hg : xss.getD i [] = xss[i] := by rw [List.getD_eq_getElem?_getD, List.getElem?_eq_getElem hlt]; rfl
    have hcl : (owns 1 (xss.take i).length ++ List.replicate (k + 1) SV.nils).length = xss.length := by
      rw [List.length_append, za8, List.length_replicate, List.length_take]; omega
    have h4 : decide ((i : Int) < zz ((owns 1 (xss.take i).length ++ List.replicate (k + 1) SV.nils).length / 1)) = true := by
      rw [hcl, Nat.div_one]; exact h1
    rw [h1, cond_true, h2, h4]
    simp only [cond_true, Int.toNat_natCast, hg, hx _ (List.getElem_mem hlt), Option.bind_some]
    rw [if_pos ⟨by rw [hcl]; omega, rfl⟩]
    have htl : (xss.take i).length = i := by rw [List.length_take]; omega
    have htk : xss.take i ++ [xss[i]] = xss.take (i + 1) := by rw [List.take_succ_eq_append_getElem hlt]
    have hheap : (Blk.cells (setCells (owns 1 (xss.take i).length ++ List.replicate (k + 1) SV.nils) (i * 1) [SV.own (((xss.take i).map aR).length + 1)]) 0 1 :: ((xss.take i).map aR ++ [aR xss[i]])) = rowsH (xss.take (i + 1)) k 0 := by
      have e1 : ((xss.take i).map aR).length = i := by rw [List.length_map, htl]
      rw [e1, htl, zOk, ← htk]
      show _ = Blk.cells (owns 1 (xss.take i ++ [xss[i]]).length ++ List.replicate k .nils) 0 1 :: (xss.take i ++ [xss[i]]).map aR
      rw [List.length_append, htl, List.map_append]; rfl
    refine (congrArg (fun H => loopK 0 zdf (fun τ H => loopN (run (zaa fuel) 0 f2 zde) 0 zdf (k + 1) τ H K) K .normal _ H) hheap).trans ?_
    have hw : w64 ((i : Int) + 1) = ((i + 1 : Nat) : Int) := w64_up2 (by omega)
    show (match gc 0 [(4, .int .i64 (w64 ((i : Int) + 1))), (0, .es (.list I6) xss), (3, .own 0)] (rowsH (xss.take (i + 1)) k 0) with
      | some (τ, H) => loopN (run (zaa fuel) 0 f2 zde) 0 zdf (k + 1) τ H K
      | none => none) = _
    rw [hw, gc_rows (by rw [List.length_take]; omega)]
    exact ih
theorem zrj : ∀ (ys : List (List Int)) (a : Nat) (H : Heap), (∀ (i : Nat) (y : List Int), ys[i]? = some y → H[a + i]? = some (aR y)) → ∃ H', takeL I6 (owns a ys.length) H = some (ys, H')
  | [], a, H, h => ⟨H, rfl⟩
  | y :: ys, a, H, h => by
    have h0 := h 0 y rfl
    rw [Nat.add_zero] at h0
    obtain ⟨H', h1⟩ := zrj ys (a + 1) (H.set a .dead) (fun i z hz => by
      rw [List.getElem?_set_ne (by omega), ← h (i + 1) z (by simpa using hz)]; congr 1; omega)
    refine ⟨H', ?_⟩
    rw [List.length_cons, owns, takeL, h0]
    simp only [dite_true, h1]
theorem zKW (fuel : Nat) (x : (List (List Int)) × Unit) (y : List (List Int)) (h : zaz fuel x = some y) : ∃ f2, run (zaa fuel) 0 f2 zpt (env0 (svS zpu x) 0) [] (endR zdg I6) = some y := by
  obtain ⟨xss, u⟩ := x
  unfold zaz at h
  split at h
  · rename_i hc
    obtain ⟨hl, hx⟩ := hc
    have hl : xss.length ≤ 1048576 := hl
    simp only [Option.some.injEq] at h
    subst h
    refine ⟨xss.length + 1, ?_⟩
    obtain ⟨τ, h3, hloop⟩ := zCG fuel (xss.length + 1) xss hx hl (blkK 0 (seqK (run (zaa fuel) 0 (xss.length + 1) (C.seq (C.reg false [{ d := some 22, g := none, i := I.mv (S.t 3) }, { d := some 2, g := none, i := I.mv (S.t 22) }]) C.ret)) (endR zdg I6))) xss.length 0 (by omega)
    have hpre : run (zaa fuel) 0 (xss.length + 1) zpt (env0 (svS zpu (xss, u)) 0) [] (endR zdg I6) =
        if xss.length ≤ xss.length ∧ xss.length < LIM then (match gc 0 [(4, .int .i64 (0 : Int)), (0, .es (.list I6) xss), (3, .own 0)] [.cells ((List.replicate xss.length [SV.nils]).flatten) 23 1] with
          | some (τ, H) => loopN (run (zaa fuel) 0 (xss.length + 1) zde) 0 zdf (xss.length + 1) τ H (blkK 0 (seqK (run (zaa fuel) 0 (xss.length + 1) (C.seq (C.reg false [{ d := some 22, g := none, i := I.mv (S.t 3) }, { d := some 2, g := none, i := I.mv (S.t 22) }]) C.ret)) (endR zdg I6)))
          | none => none) else none := by kernel_rfl
    rw [hpre, if_pos ⟨Nat.le_refl _, by show xss.length < 4294967296; omega⟩]
    have hflat : (List.replicate xss.length [SV.nils]).flatten = List.replicate xss.length SV.nils := by simp
    have hg := gc_rows (xss := xss) (ys := []) (m := xss.length) (t := 23) (n := 0) (by simp)
    rw [hflat]
    have hg' : gc 0 [(4, .int .i64 (0 : Int)), (0, .es (.list I6) xss), (3, .own 0)] [.cells (List.replicate xss.length SV.nils) 23 1] = some ([(4, .int .i64 (0 : Int)), (0, .es (.list I6) xss), (3, .own 0)], rowsH [] xss.length 0) := hg
    rw [hg']
    refine Eq.trans hloop ?_
    show (endR zdg I6) .ret ((2, Tm.get ((22, Tm.get τ 3) :: τ) 22) :: (22, Tm.get τ 3) :: τ) (rowsH xss 0 0) = some xss
    show (takeRR (rowsH xss 0 0) I6 (Tm.get τ 3)).map Prod.fst = some xss
    rw [h3]
    show (takeL I6 (owns 1 xss.length ++ List.replicate 0 SV.nils) ((rowsH xss 0 0).set 0 .dead)).map Prod.fst = some xss
    obtain ⟨H', ht⟩ := zrj xss 1 ((rowsH xss 0 0).set 0 .dead) (fun i z hz => by
      have hi : i < xss.length := (List.getElem?_eq_some_iff.1 hz).1
      rw [List.getElem?_set_ne (by omega), rowsAt _ xss hi]
      rw [List.getElem?_eq_getElem hi] at hz
      rw [Option.some.inj hz])
    rw [List.replicate_zero, List.append_nil, ht]; rfl
  · cases h
theorem zKX (fuel : Nat) : FnSpecR Tryz.prog 179 (zpv fuel) :=
  zOe (T := zaa fuel) (c := bodyOf Tryz.f179) (fn := Tryz.f179) rfl (TabOK.of (entCons (zj8 fuel) entNil) methNil) mixed (by kernel_rfl) (by kernel_rfl) zKV (by kernel_rfl) (Nat.le_of_ble_eq_true (by kernel_rfl)) (rv := zdg) (by kernel_rfl) (fun x y h => zKW fuel x y h)
theorem zKY (fuel : Nat) : EntryOK Tryz.prog 179 (zpv fuel).te := EntryOK.tr rfl (zKX fuel) (isFn (fn := Tryz.f179) (by kernel_rfl) (by kernel_rfl) (by kernel_rfl))
end Go.Proofs.YtdgdoeknpakmlaaGreat.Den
namespace Go.Proofs.YtdgdoeknpakmlaaGreat.Den
open Go Go.RowKit
def markRows (fuel : Nat) : List (List Int) → Int → Option (List (List Int) × Int)
  | [], k => some ([], k)
  | x :: r, k => (zy fuel (x, (), ((k, ()), ()))).bind fun y => (markRows fuel r y.2.1.1).map fun z => (y.1 :: z.1, z.2)
def zab (fuel : Nat) (z : List (List Int) × Int) : Option (List (List Int) × Int) := if z.1.length ≤ 1048576 then markRows fuel z.1 z.2 else none
def zpw (fuel : Nat) : TM := ⟨I6, zab fuel⟩
abbrev mm_bd : C := C.seq (C.seq (C.reg false [{ d := some 6, g := none, i := I.mv (S.t 5) }, { d := some 7, g := none, i := I.mv (S.t 0) }, { d := some 8, g := none, i := I.len (S.t 7) }, { d := some 9, g := none, i := I.bin BinOp.lss (S.t 6) (S.t 8) }]) (C.cnd (S.t 9) C.skip (C.exit 0))) (C.seq (C.blk 1 (C.reg false [{ d := some 12, g := none, i := I.mv (S.t 0) }, { d := some 13, g := none, i := I.mv (S.t 5) }, { d := some 14, g := none, i := I.ia 1 (S.t 12) (S.t 13) }, { d := some 15, g := none, i := I.ld 1 false (S.t 14) }, { d := some 16, g := none, i := I.mv (S.t 1) }, { d := some 17, g := none, i := I.call 71 [S.t 15, S.t 16] }, { d := some 1, g := none, i := I.mv (S.t 17) }])) (C.reg false [{ d := some 10, g := none, i := I.mv (S.t 5) }, { d := some 11, g := none, i := I.bin BinOp.add (S.t 10) (S.c (SV.int .i64 (Int.ofNat 1))) }, { d := some 5, g := none, i := I.mv (S.t 11) }]))
abbrev mm_nm : Norm := { live := [5, 0, 1], fix := [] }
abbrev mm_end : C := C.seq (C.reg false [{ d := some 18, g := none, i := I.mv (S.t 1) }, { d := some 4, g := none, i := I.mv (S.t 18) }]) C.ret
def mm_c : C := C.seq (C.reg false [{ d := some 4, g := none, i := I.mv (S.c (SV.int .i64 (Int.ofNat 0))) }]) (C.seq (C.seq (C.reg false [{ d := some 5, g := none, i := I.mv (S.c (SV.int .i64 (Int.ofNat 0))) }]) (C.blk 0 (C.loop mm_nm mm_bd))) mm_end)
theorem mm_l : lightC Tryz.prog [] Tryz.f168.ntmps zo6 [] 0 (bodyOf Tryz.f168) = some (mm_c, 1) := by kernel_rfl
theorem zCH (fuel n0 f2 : Nat) (R : Type) (i k : Int) (cs : List SV) (Rs : Heap) (K : Ex → Env → Heap → Option R) :
    run (zA fuel) n0 f2 mm_bd [(5, .int .i64 i), (0, .own 0), (1, .int .i64 k)] (.cells cs 0 1 :: Rs) K =
    cond (decide (i < (zz (cs.length / 1))))
      (tst (decide (0 ≤ i)) <| tst (decide (i < (zz (cs.length / 1)))) <| match cs[i.toNat * 1]? with
        | some s => callI (zA fuel) 71 [s, .int .i64 k] (.cells cs 0 1 :: Rs) fun v H =>
          K .normal [(5, .int .i64 (w64 (i + 1))), (11, .int .i64 (w64 (i + 1))), (10, .int .i64 i), (1, v), (17, v), (16, .int .i64 k), (15, s), (14, .ptr 0 (i.toNat * 1)), (13, .int .i64 i), (12, .own 0), (9, .bool (decide (i < (zz (cs.length / 1))))), (8, .int .i64 (zz (cs.length / 1))), (7, .own 0), (6, .int .i64 i), (5, .int .i64 i), (0, .own 0), (1, .int .i64 k)] H
        | none => none)
      (K (.exit 0) [(9, .bool (decide (i < (zz (cs.length / 1))))), (8, .int .i64 (zz (cs.length / 1))), (7, .own 0), (6, .int .i64 i), (5, .int .i64 i), (0, .own 0), (1, .int .i64 k)] (.cells cs 0 1 :: Rs)) := by
  kernel_rfl
theorem mm_call (fuel : Nat) {R : Type} {b : Nat} {x : List Int} {k : Int} {H : Heap} {kk : SV → Heap → Option R} (h : H[b]? = some (aR x)) :
    callI (zA fuel) 71 [.own b, .int .i64 k] H kk = (zy fuel (x, (), ((k, ()), ()))).bind fun y => kk (.int .i64 y.2.1.1) (H.set b (aR y.1)) := by
  show callL [(zbE fuel).te, (zgK fuel).te] [.own b, .int .i64 k] H kk = _
  rw [callL]
  have hv : (zbE fuel).te.view [.own b, .int .i64 k] H = some (x, (), ((k, ()), ())) := by
    simp only [TFS.te, zbE, firstOf, h]; rfl
  rw [hv]
  rfl
theorem zCI (n0 : Nat) (H : Heap) : ∀ (l : List Nat) (f : Nat), (∀ β ∈ l, β < n0) → gcOrder n0 H f l [] = []
  | l, 0, _ => by cases l <;> rfl
  | [], f + 1, _ => rfl
  | β :: r, f + 1, h => by
    rw [gcOrder]
    have h1 : Nat.blt β n0 = true := by rw [Nat.blt_eq]; exact h β (by simp)
    rw [h1, Bool.true_or, cond_true]
    exact zCI n0 H r f fun γ hγ => h γ (by simp [hγ])
abbrev mmH (n : Nat) (ys : List (List Int)) : Heap := .cells (owns 1 n) 0 1 :: ys.map aR
theorem gc_mm {ys : List (List Int)} {n : Nat} {i k : Int} (hn : ys.length = n) :
    gc (n + 1) [(5, .int .i64 i), (0, .own 0), (1, .int .i64 k)] (mmH n ys) = some ([(5, .int .i64 i), (0, .own 0), (1, .int .i64 k)], mmH n ys) := by
  subst hn
  have htake : (mmH ys.length ys).take (ys.length + 1) = mmH ys.length ys := List.take_of_length_le (by simp)
  have hord : gcOrder (ys.length + 1) (mmH ys.length ys) LIM (([(5, .int .i64 i), (0, .own 0), (1, .int .i64 k)] : Env).flatMap (fun p => p.2.refs) ++ ((mmH ys.length ys).take (ys.length + 1)).flatMap Blk.refs) [] = [] := by
    refine zCI _ _ _ _ fun β hβ => ?_
    rw [htake] at hβ
    have hβ : β ∈ [0] ++ (SV.refsL (owns 1 ys.length) ++ (ys.map aR).flatMap Blk.refs) := hβ
    rw [zrh] at hβ
    simp only [List.mem_append, List.mem_singleton, List.mem_range'_1, List.mem_flatMap, List.mem_map] at hβ
    rcases hβ with h | h | ⟨_, ⟨y, _, rfl⟩, h⟩
    · omega
    · omega
    · simp [Blk.refs] at h
  rw [gc_of (σ := []) hord (by simp [nodupB])]
  have hren : ∀ β, β < ys.length + 1 → renF (ys.length + 1) [] β = some β := fun β h => by
    unfold renF
    rw [show Nat.blt β (ys.length + 1) = true by rw [Nat.blt_eq]; exact h, cond_true]
  have h0 := hren 0 (by omega)
  have e1 : (mmH ys.length ys).map (Blk.ren (renF (ys.length + 1) [])) = mmH ys.length ys := by
    rw [List.map_cons, Blk.ren, zri (fun j hj => hren j (by omega)), List.map_map]
    rfl
  rw [htake, e1]
  simp only [List.map_cons, List.map_nil, SV.ren, h0, List.append_nil]
theorem mm_loop (fuel f2 : Nat) {R : Type} (n : Nat) (hn : n ≤ 1048576) (K : Ex → Env → Heap → Option R) :
    ∀ (xs ys : List (List Int)) (k k' : Int) (zs : List (List Int)), ys.length + xs.length = n → markRows fuel xs k = some (zs, k') →
      ∃ τ, Tm.get τ 1 = .int .i64 k' ∧ loopN (run (zA fuel) (n + 1) f2 mm_bd) (n + 1) mm_nm (xs.length + 1) [(5, .int .i64 (ys.length : Int)), (0, .own 0), (1, .int .i64 k)] (mmH n (ys ++ xs)) K = K (.exit 0) τ (mmH n (ys ++ zs))
  | [], ys, k, k', zs, hl, hm => by
    simp only [markRows, Option.some.injEq, Prod.mk.injEq] at hm
    obtain ⟨rfl, rfl⟩ := hm
    refine ⟨[(9, .bool false), (8, .int .i64 (zz ((owns 1 n).length / 1))), (7, .own 0), (6, .int .i64 (ys.length : Int)), (5, .int .i64 (ys.length : Int)), (0, .own 0), (1, .int .i64 k)], rfl, ?_⟩
    rw [loopN]
    refine (zCH fuel (n + 1) f2 R _ _ _ _ _).trans ?_
    have h1 : decide ((ys.length : Int) < zz ((owns 1 n).length / 1)) = false := by rw [zz_cast, za8]; simp at hl ⊢; omega
    rw [h1, cond_false]
    rfl
  | x :: xs, ys, k, k', zs, hl, hm => by
    simp only [markRows, Option.bind_eq_some_iff, Option.map_eq_some_iff] at hm
    obtain ⟨y, hy, ⟨zs', k2⟩, hz, he⟩ := hm
    simp only [Prod.mk.injEq] at he
    obtain ⟨rfl, rfl⟩ := he
    simp only [List.length_cons] at hl
    have hlt : ys.length < n := by omega
    obtain ⟨τ, h3, ih⟩ := mm_loop fuel f2 n hn K xs (ys ++ [y.1]) y.2.1.1 k2 zs' (by simp; omega) hz
    refine ⟨τ, h3, ?_⟩
    rw [loopN]
    refine (zCH fuel (n + 1) f2 R _ _ _ _ _).trans ?_
    have h1 : decide ((ys.length : Int) < zz ((owns 1 n).length / 1)) = true := by rw [zz_cast, za8]; simp; omega
    have h2 : decide ((0 : Int) ≤ (ys.length : Int)) = true := by simp
    rw [h1, cond_true, h2]
    simp only [cond_true, Int.toNat_natCast, Nat.mul_one, zrg hlt]
    have hrow : (mmH n (ys ++ x :: xs))[1 + ys.length]? = some (aR x) := by
      rw [rowsAt _ _ (by simp)]; simp
    rw [mm_call fuel hrow, hy, Option.bind_some]
    have hheap : (mmH n (ys ++ x :: xs)).set (1 + ys.length) (aR y.1) = mmH n (ys ++ [y.1] ++ xs) := by
      rw [Nat.add_comm, List.set_cons_succ]
      congr 1
      rw [List.map_append, List.map_cons, show ys.length = (ys.map aR).length by simp, set_midR]
      simp
    rw [hheap]
    have hw : w64 ((ys.length : Int) + 1) = ((ys ++ [y.1]).length : Int) := by rw [w64_up2 (by omega)]; simp
    show (match gc (n + 1) [(5, .int .i64 (w64 ((ys.length : Int) + 1))), (0, .own 0), (1, .int .i64 y.2.1.1)] (mmH n (ys ++ [y.1] ++ xs)) with
      | some (τ, H) => loopN (run (zA fuel) (n + 1) f2 mm_bd) (n + 1) mm_nm (xs.length + 1) τ H K
      | none => none) = _
    rw [hw, gc_mm (by simp; omega)]
    rw [show ys ++ y.1 :: zs' = ys ++ [y.1] ++ zs' by simp]
    exact ih
where
  set_midR {α : Type} {x y : α} {r : List α} : ∀ {p : List α}, (p ++ x :: r).set p.length y = p ++ y :: r
    | [] => rfl
    | z :: p => by simp [set_midR (p := p)]
theorem zCJ {fuel : Nat} : ∀ {xs : List (List Int)} {k : Int} {y : List (List Int) × Int}, markRows fuel xs k = some y → y.1.length = xs.length
  | [], k, y, h => by simp only [markRows, Option.some.injEq] at h; subst h; rfl
  | x :: xs, k, y, h => by
    simp only [markRows, Option.bind_eq_some_iff, Option.map_eq_some_iff] at h
    obtain ⟨y, hy, z, hz, rfl⟩ := h
    simp [zCJ hz]
theorem zOl (n : Nat) : ownRow 0 n = .cells (owns 1 n) 0 1 := by
  unfold ownRow
  congr 1
  refine List.ext_getElem? fun i => ?_
  rw [List.getElem?_map]
  rcases Nat.lt_or_ge i n with h | h
  · rw [List.getElem?_range h, zrg h]; simp
  · rw [List.getElem?_eq_none (by simpa using h), List.getElem?_eq_none (by rw [za8]; exact h)]; rfl
theorem mm_run (fuel : Nat) (xss : List (List Int)) (k : Int) (y : List (List Int) × Int) (h : zab fuel (xss, k) = some y) :
    ∃ f2, run (zA fuel) (xss.length + 1) f2 mm_c (env0 [.own 0, .int .i64 k] 0) (ownRow 0 xss.length :: innerB I6 xss) (endM zax I6 xss.length) = some y := by
  unfold zab at h
  split at h
  · rename_i hl
    have hl : xss.length ≤ 1048576 := hl
    obtain ⟨zs, k'⟩ := y
    have hlen : zs.length = xss.length := zCJ h
    refine ⟨xss.length + 1, ?_⟩
    obtain ⟨τ, h3, hloop⟩ := mm_loop fuel (xss.length + 1) xss.length hl (blkK 0 (seqK (run (zA fuel) (xss.length + 1) (xss.length + 1) mm_end) (endM zax I6 xss.length))) xss [] k k' zs (by simp) h
    rw [zOl]
    show (match gc (xss.length + 1) [(5, .int .i64 (0 : Int)), (0, .own 0), (1, .int .i64 k)] (mmH xss.length xss) with
      | some (τ, H) => loopN (run (zA fuel) (xss.length + 1) (xss.length + 1) mm_bd) (xss.length + 1) mm_nm (xss.length + 1) τ H (blkK 0 (seqK (run (zA fuel) (xss.length + 1) (xss.length + 1) mm_end) (endM zax I6 xss.length)))
      | none => none) = _
    rw [gc_mm rfl]
    refine Eq.trans hloop ?_
    show endM zax I6 xss.length .ret ((4, Tm.get ((18, Tm.get τ 1) :: τ) 18) :: (18, Tm.get τ 1) :: τ) (mmH xss.length zs) = some (zs, k')
    have e : evalRes ((4, Tm.get ((18, Tm.get τ 1) :: τ) 18) :: (18, Tm.get τ 1) :: τ) (mmH xss.length zs) zax = some [.int .i64 k'] := by
      show some [Tm.get τ 1] = _
      rw [h3]
    unfold endM
    simp only [e]
    rw [if_pos (by simp [hlen])]
    obtain ⟨H', ht⟩ := zrj zs 1 ((mmH xss.length zs).set 0 .dead) (fun i z hz => by
      have hi : i < zs.length := (List.getElem?_eq_some_iff.1 hz).1
      rw [List.getElem?_set_ne (by omega), rowsAt _ zs hi]
      rw [List.getElem?_eq_getElem hi] at hz
      rw [Option.some.inj hz])
    show (takeL I6 (owns 1 xss.length) ((mmH xss.length zs).set 0 .dead)).map (fun p => (p.1, k')) = _
    rw [← hlen, ← hlen] at *
    rw [ht]; rfl
  · cases h
theorem mm_run0 (fuel : Nat) (k : Int) (y : List (List Int) × Int) (h : zab fuel ([], k) = some y) : y.1 = [] ∧ ∃ f2, run (zA fuel) 0 f2 mm_c (env0 [.es (.list I6) [], .int .i64 k] 0) [] (fun ex τ H => match ex with
      | .exit _ => none
      | _ => evalRes τ H zax) = some [.int .i64 y.2] := by
  have h : (if (0 : Nat) ≤ 1048576 then some (([] : List (List Int)), k) else none) = some y := h
  rw [if_pos (by omega)] at h
  simp only [Option.some.injEq] at h
  subst h
  exact ⟨rfl, 1, by kernel_rfl⟩
theorem zKZ (fuel : Nat) : FnSpecM Tryz.prog 168 (zpw fuel) :=
  zOf (T := zA fuel) (c := bodyOf Tryz.f168) (fn := Tryz.f168) rfl (TabOK.of (entCons (zo4 fuel) (entCons (zo5 fuel) entNil)) methNil) mixed (by kernel_rfl) (by kernel_rfl) mm_l (by kernel_rfl) (Nat.le_of_ble_eq_true (by kernel_rfl)) (rv := zax) (by kernel_rfl) (fun k y h => mm_run0 fuel k y h) (fun xss k y _ h => mm_run fuel xss k y h)
theorem zK0 (fuel : Nat) : EntryOK Tryz.prog 168 (zpw fuel).te := EntryOK.tm rfl (zKZ fuel) (isFn (fn := Tryz.f168) (by kernel_rfl) (by kernel_rfl) (by kernel_rfl))
end Go.Proofs.YtdgdoeknpakmlaaGreat.Den
namespace Go.Proofs.YtdgdoeknpakmlaaGreat.Den
open Go Go.RowKit
noncomputable def zyE (fuel : Nat) : IE := vwIE (zpw fuel).te (zxC fuel)
theorem zK1 (fuel : Nat) : ISound Tryz.prog 168 (zyE fuel) := zOd (zK0 fuel) (zJP fuel)
noncomputable def zyF (fuel : Nat) : Tab := Tab.ofI [] [] [(168, zyE fuel)]
def zyG : List Norm := []
noncomputable def zyH : C := irOf Tryz.prog Tryz.f118 [8] zyG []
theorem zK2 : lightC Tryz.prog [8] Tryz.f118.ntmps zyG [] 0 (bodyOf Tryz.f118) = some (zyH, 0) := by kernel_rfl
def zyI : List (Nat × Option (Nat × Bool)) := [(4, none)]
noncomputable def zyJ (fuel : Nat) : IE := inlIE 2 (zyF fuel) fuel zyH zyI
theorem zK3 (fuel : Nat) : ISound Tryz.prog 118 (zyJ fuel) :=
  zC (T := zyF fuel) (c := bodyOf Tryz.f118) (fn := Tryz.f118) (TabOK.ofI (entNil) (methNil) (inlCons (zK1 fuel) (inlNil))) mixed (by kernel_rfl) (by kernel_rfl) zK2 (by kernel_rfl) (Nat.le_of_ble_eq_true (by kernel_rfl)) (rv := zyI) (by kernel_rfl) (isFn (fn := Tryz.f118) (by kernel_rfl) (by kernel_rfl) (by kernel_rfl))
noncomputable def zyK (fuel : Nat) : Tab := Tab.ofI [] [] [(118, zyJ fuel), (119, zxH fuel), (120, zxS fuel), (121, zx3 fuel)]
def zyL : List Norm := []
noncomputable def zyM : C := irOf Tryz.prog Tryz.f72 [8, 12, 16, 20] zyL []
theorem zK4 : lightC Tryz.prog [8, 12, 16, 20] Tryz.f72.ntmps zyL [] 0 (bodyOf Tryz.f72) = some (zyM, 0) := by kernel_rfl
def zyN : List (Nat × Option (Nat × Bool)) := [(4, none)]
noncomputable def zpx (fuel : Nat) : IE := inlIE 2 (zyK fuel) fuel zyM zyN
theorem zyO (fuel : Nat) : ISound Tryz.prog 72 (zpx fuel) :=
  zC (T := zyK fuel) (c := bodyOf Tryz.f72) (fn := Tryz.f72) (TabOK.ofI (entNil) (methNil) (inlCons (zK3 fuel) (inlCons (zJR fuel) (inlCons (zJ4 fuel) (inlCons (zKh fuel) (inlNil)))))) mixed (by kernel_rfl) (by kernel_rfl) zK4 (by kernel_rfl) (Nat.le_of_ble_eq_true (by kernel_rfl)) (rv := zyN) (by kernel_rfl) (isFn (fn := Tryz.f72) (by kernel_rfl) (by kernel_rfl) (by kernel_rfl))
def zyP (fuel : Nat) : Tab := Tab.of [] []
abbrev zpy : List Pm := [{ cs := [(Kd.list I6, false)], ag := false }, { cs := [(I6, false)], ag := false }]
abbrev zyQ : List Pm := [{ cs := [(I6, false)], ag := false }]
def zyR : List Norm := []
noncomputable def zyS : C := irOf Tryz.prog Tryz.f176 [] zyR []
theorem zK5 : lightC Tryz.prog [] Tryz.f176.ntmps zyR [] 0 (bodyOf Tryz.f176) = some (zyS, 0) := by kernel_rfl
def zyT : List (Nat × Option (Nat × Bool)) := [(4, none)]
def zpz (fuel : Nat) (x0 : List Int) (x1 : Int) : Option ((Int × Unit) × Unit) :=
 cond (decide (w64 (x1 - (zz (List.length x0))) < (0 : Int)))
 (some ((((-1 : Int), ()), ())))
 (some (((w64 (x1 - (zz (List.length x0))), ()), ())))
def zdh (fuel : Nat) (x : (((List Int) × Unit) × ((Int × Unit) × Unit))) : Option ((Int × Unit) × Unit) := zpz fuel x.1.1 x.2.1.1
theorem zK6 (fuel : Nat) (x : PsT zpy) : run (zyP fuel) 0 fuel zyS (env0 (svPs zpy x) 0) [] (endF zyT zyQ) = zdh fuel x := by kernel_rfl
def zk5 (fuel : Nat) : TF := ⟨zpy, zyQ, true, zdh fuel⟩
theorem zK7 (fuel : Nat) : FnSpec Tryz.prog 176 (zk5 fuel) :=
  fn_spec (T := zyP fuel) (c := bodyOf Tryz.f176) (fn := Tryz.f176) (TabOK.of (entNil) (methNil)) mixed (by kernel_rfl) (by kernel_rfl) zK5 (by kernel_rfl) (Nat.le_of_ble_eq_true (by kernel_rfl)) (rv := zyT) (by kernel_rfl) (zK6 fuel)
theorem zyU (fuel : Nat) : EntryOK Tryz.prog 176 (zk5 fuel).te := EntryOK.tf rfl (zK7 fuel) (isFn (fn := Tryz.f176) (by kernel_rfl) (by kernel_rfl) (by kernel_rfl))
def zhn (fuel : Nat) : Tab := Tab.of [(176, (zk5 fuel).te)] []
abbrev zk6 : List Pm := [{ cs := [(Kd.list (Kd.list I6), false)], ag := false }, { cs := [(I6, false)], ag := false }]
abbrev zho : List Pm := [{ cs := [(I6, false)], ag := false }]
def zyV : List Norm := [{ live := [5, 0, 1], fix := [] }]
noncomputable def zhp : C := irOf Tryz.prog Tryz.f175 [] zyV []
theorem zK8 : lightC Tryz.prog [] Tryz.f175.ntmps zyV [] 0 (bodyOf Tryz.f175) = some (zhp, 1) := by kernel_rfl
def zhq : List (Nat × Option (Nat × Bool)) := [(4, none)]
abbrev zdi := (Int) × (List (List Int)) × (Int)
def zyW (v : zdi) : Env × Heap := ([(5, SV.int .i64 v.1), (0, SV.es (Kd.list I6) v.2.1), (1, SV.int .i64 v.2.2)], [])
def zhr (fuel : Nat) (g0 : zdi → Option ((Int × Unit) × Unit)) (v : zdi) : Option ((Int × Unit) × Unit) :=
 cond (decide (v.1 < (zz (List.length v.2.1))))
 (tst (decide (0 ≤ v.1)) <|
 tst (decide (v.1 < (zz (List.length v.2.1)))) <|
 Option.bind (zdh fuel ((List.getD v.2.1 (Int.toNat v.1) [], ()), (v.2.2, ()), ())) fun y_2 =>
 cond (decide (y_2.1.1 < (0 : Int)))
 (some ((((-1 : Int), ()), ())))
 (g0 (w64 (v.1 + (1 : Int)), v.2.1, y_2.1.1)))
 (some (((v.2.2, ()), ())))
def zk7 (fuel : Nat) (g0 : zdi → Option ((Int × Unit) × Unit)) : zdi → Option ((Int × Unit) × Unit) := zhr fuel g0
theorem zK9 (fuel : Nat) (G) : zhp.lp (zhn fuel) 0 fuel G (endF zhq zho) 0 zyW = iter (zk7 fuel) fuel := C.lp_iter fun g v => by kernel_rfl
def zk8 (fuel : Nat) (X0 : zdi → Option ((Int × Unit) × Unit)) (x0 : List (List Int)) (x1 : Int) : Option ((Int × Unit) × Unit) :=
 cond (decide (w64 (x1 - (zz (List.length x0))) < (0 : Int)))
 (some ((((-1 : Int), ()), ())))
 (X0 ((0 : Int), x0, w64 (x1 - (zz (List.length x0)))))
def zk9 (fuel : Nat) (x : (((List (List Int)) × Unit) × ((Int × Unit) × Unit))) : Option ((Int × Unit) × Unit) := zk8 fuel (iter (zk7 fuel) fuel) x.1.1 x.2.1.1
theorem zLa (fuel : Nat) (x : PsT zk6) : run (zhn fuel) 0 fuel zhp (env0 (svPs zk6 x) 0) [] (endF zhq zho) = zk9 fuel x :=
  (show run (zhn fuel) 0 fuel zhp (env0 (svPs zk6 x) 0) [] (endF zhq zho) = zk8 fuel (zhp.lp (zhn fuel) 0 fuel (fun _ _ _ => none) (endF zhq zho) 0 zyW) x.1.1 x.2.1.1 by kernel_rfl).trans (by rw [zK9]; rfl)
def zpA (fuel : Nat) : TF := ⟨zk6, zho, true, zk9 fuel⟩
theorem zLb (fuel : Nat) : FnSpec Tryz.prog 175 (zpA fuel) :=
  fn_spec (T := zhn fuel) (c := bodyOf Tryz.f175) (fn := Tryz.f175) (TabOK.of (entCons (zyU fuel) entNil) (methNil)) mixed (by kernel_rfl) (by kernel_rfl) zK8 (by kernel_rfl) (Nat.le_of_ble_eq_true (by kernel_rfl)) (rv := zhq) (by kernel_rfl) (zLa fuel)
theorem zLc (fuel : Nat) : EntryOK Tryz.prog 175 (zpA fuel).te := EntryOK.tf rfl (zLb fuel) (isFn (fn := Tryz.f175) (by kernel_rfl) (by kernel_rfl) (by kernel_rfl))
def zyX (fuel : Nat) : Tab := Tab.of [(175, (zpA fuel).te)] []
abbrev zpB : List Pm := [{ cs := [(Kd.list (Kd.list I6), false)], ag := true }, { cs := [(I6, false)], ag := false }]
abbrev zyY : List Pm := [{ cs := [(I6, false)], ag := false }]
def zyZ : List Norm := []
noncomputable def zy0 : C := irOf Tryz.prog Tryz.f126 [] zyZ []
theorem zLd : lightC Tryz.prog [] Tryz.f126.ntmps zyZ [] 0 (bodyOf Tryz.f126) = some (zy0, 0) := by kernel_rfl
def zy1 : List (Nat × Option (Nat × Bool)) := [(4, none)]
def zpC (fuel : Nat) (x0 : List (List Int)) (x1 : Int) : Option ((Int × Unit) × Unit) :=
 Option.bind (zk9 fuel ((x0, ()), (x1, ()), ())) fun y_1 =>
 cond (decide (y_1.1.1 < (0 : Int)))
 (some ((((-1 : Int), ()), ())))
 (some (((y_1.1.1, ()), ())))
def zhs (fuel : Nat) (x : (((List (List Int)) × Unit) × ((Int × Unit) × Unit))) : Option ((Int × Unit) × Unit) := zpC fuel x.1.1 x.2.1.1
theorem zLe (fuel : Nat) (x : PsT zpB) : run (zyX fuel) 0 fuel zy0 (env0 (svPs zpB x) 0) [] (endF zy1 zyY) = zhs fuel x := by kernel_rfl
def zpD (fuel : Nat) : TF := ⟨zpB, zyY, true, zhs fuel⟩
theorem zLf (fuel : Nat) : FnSpec Tryz.prog 126 (zpD fuel) :=
  fn_spec (T := zyX fuel) (c := bodyOf Tryz.f126) (fn := Tryz.f126) (TabOK.of (entCons (zLc fuel) entNil) (methNil)) mixed (by kernel_rfl) (by kernel_rfl) zLd (by kernel_rfl) (Nat.le_of_ble_eq_true (by kernel_rfl)) (rv := zy1) (by kernel_rfl) (zLe fuel)
theorem zLg (fuel : Nat) : EntryOK Tryz.prog 126 (zpD fuel).te := EntryOK.tf rfl (zLf fuel) (isFn (fn := Tryz.f126) (by kernel_rfl) (by kernel_rfl) (by kernel_rfl))
def zy2 (fuel : Nat) : Tab := Tab.of [(176, (zk5 fuel).te)] []
abbrev zpE : List Pm := [{ cs := [(Kd.list I6, false)], ag := true }, { cs := [(I6, false)], ag := false }]
abbrev zy3 : List Pm := [{ cs := [(I6, false)], ag := false }]
def zy4 : List Norm := []
noncomputable def zy5 : C := irOf Tryz.prog Tryz.f127 [] zy4 []
theorem zLh : lightC Tryz.prog [] Tryz.f127.ntmps zy4 [] 0 (bodyOf Tryz.f127) = some (zy5, 0) := by kernel_rfl
def zy6 : List (Nat × Option (Nat × Bool)) := [(4, none)]
def zpF (fuel : Nat) (x0 : List Int) (x1 : Int) : Option ((Int × Unit) × Unit) :=
 Option.bind (zdh fuel ((x0, ()), (x1, ()), ())) fun y_1 =>
 cond (decide (y_1.1.1 < (0 : Int)))
 (some ((((-1 : Int), ()), ())))
 (some (((y_1.1.1, ()), ())))
def zla (fuel : Nat) (x : (((List Int) × Unit) × ((Int × Unit) × Unit))) : Option ((Int × Unit) × Unit) := zpF fuel x.1.1 x.2.1.1
theorem zLi (fuel : Nat) (x : PsT zpE) : run (zy2 fuel) 0 fuel zy5 (env0 (svPs zpE x) 0) [] (endF zy6 zy3) = zla fuel x := by kernel_rfl
def zpG (fuel : Nat) : TF := ⟨zpE, zy3, true, zla fuel⟩
theorem zLj (fuel : Nat) : FnSpec Tryz.prog 127 (zpG fuel) :=
  fn_spec (T := zy2 fuel) (c := bodyOf Tryz.f127) (fn := Tryz.f127) (TabOK.of (entCons (zyU fuel) entNil) (methNil)) mixed (by kernel_rfl) (by kernel_rfl) zLh (by kernel_rfl) (Nat.le_of_ble_eq_true (by kernel_rfl)) (rv := zy6) (by kernel_rfl) (zLi fuel)
theorem zLk (fuel : Nat) : EntryOK Tryz.prog 127 (zpG fuel).te := EntryOK.tf rfl (zLj fuel) (isFn (fn := Tryz.f127) (by kernel_rfl) (by kernel_rfl) (by kernel_rfl))
def zy7 (fuel : Nat) : Tab := Tab.of [] []
abbrev zpH : List Pm := [{ cs := [(Kd.list KP, false)], ag := false }, { cs := [(I6, false)], ag := false }]
abbrev zy8 : List Pm := [{ cs := [(I6, false)], ag := false }]
def zy9 : List Norm := []
noncomputable def zza : C := irOf Tryz.prog Tryz.f177 [] zy9 []
theorem zLl : lightC Tryz.prog [] Tryz.f177.ntmps zy9 [] 0 (bodyOf Tryz.f177) = some (zza, 0) := by kernel_rfl
def zzb : List (Nat × Option (Nat × Bool)) := [(4, none)]
def zpI (fuel : Nat) (x0 : LP) (x1 : Int) : Option ((Int × Unit) × Unit) :=
 cond (decide (w64 (x1 - (zz (List.length x0))) < (0 : Int)))
 (some ((((-1 : Int), ()), ())))
 (some (((w64 (x1 - (zz (List.length x0))), ()), ())))
def zlb (fuel : Nat) (x : ((LP × Unit) × ((Int × Unit) × Unit))) : Option ((Int × Unit) × Unit) := zpI fuel x.1.1 x.2.1.1
theorem zLm (fuel : Nat) (x : PsT zpH) : run (zy7 fuel) 0 fuel zza (env0 (svPs zpH x) 0) [] (endF zzb zy8) = zlb fuel x := by kernel_rfl
def zpJ (fuel : Nat) : TF := ⟨zpH, zy8, true, zlb fuel⟩
theorem zLn (fuel : Nat) : FnSpec Tryz.prog 177 (zpJ fuel) :=
  fn_spec (T := zy7 fuel) (c := bodyOf Tryz.f177) (fn := Tryz.f177) (TabOK.of (entNil) (methNil)) mixed (by kernel_rfl) (by kernel_rfl) zLl (by kernel_rfl) (Nat.le_of_ble_eq_true (by kernel_rfl)) (rv := zzb) (by kernel_rfl) (zLm fuel)
theorem zLo (fuel : Nat) : EntryOK Tryz.prog 177 (zpJ fuel).te := EntryOK.tf rfl (zLn fuel) (isFn (fn := Tryz.f177) (by kernel_rfl) (by kernel_rfl) (by kernel_rfl))
def zzc (fuel : Nat) : Tab := Tab.of [(177, (zpJ fuel).te)] []
abbrev zpK : List Pm := [{ cs := [(Kd.list KP, false), (I6, false), (I6, false)], ag := true }, { cs := [(I6, false)], ag := false }]
abbrev zzd : List Pm := [{ cs := [(I6, false)], ag := false }]
def zze : List Norm := []
noncomputable def zzf : C := irOf Tryz.prog Tryz.f128 [] zze []
theorem zLp : lightC Tryz.prog [] Tryz.f128.ntmps zze [] 0 (bodyOf Tryz.f128) = some (zzf, 0) := by kernel_rfl
def zzg : List (Nat × Option (Nat × Bool)) := [(4, none)]
def zpL (fuel : Nat) (x0 : LP) (x1 : Int) (x2 : Int) (x3 : Int) : Option ((Int × Unit) × Unit) :=
 Option.bind (zlb fuel ((x0, ()), (x3, ()), ())) fun y_1 =>
 cond (decide (y_1.1.1 < (0 : Int)))
 (some ((((-1 : Int), ()), ())))
 (some (((y_1.1.1, ()), ())))
def zlc (fuel : Nat) (x : ((LP × (Int × (Int × Unit))) × ((Int × Unit) × Unit))) : Option ((Int × Unit) × Unit) := zpL fuel x.1.1 x.1.2.1 x.1.2.2.1 x.2.1.1
theorem zLq (fuel : Nat) (x : PsT zpK) : run (zzc fuel) 0 fuel zzf (env0 (svPs zpK x) 0) [] (endF zzg zzd) = zlc fuel x := by kernel_rfl
def zpM (fuel : Nat) : TF := ⟨zpK, zzd, true, zlc fuel⟩
theorem zLr (fuel : Nat) : FnSpec Tryz.prog 128 (zpM fuel) :=
  fn_spec (T := zzc fuel) (c := bodyOf Tryz.f128) (fn := Tryz.f128) (TabOK.of (entCons (zLo fuel) entNil) (methNil)) mixed (by kernel_rfl) (by kernel_rfl) zLp (by kernel_rfl) (Nat.le_of_ble_eq_true (by kernel_rfl)) (rv := zzg) (by kernel_rfl) (zLq fuel)
theorem zLs (fuel : Nat) : EntryOK Tryz.prog 128 (zpM fuel).te := EntryOK.tf rfl (zLr fuel) (isFn (fn := Tryz.f128) (by kernel_rfl) (by kernel_rfl) (by kernel_rfl))
def zzh (fuel : Nat) : Tab := Tab.of [] []
abbrev zpN : List Pm := [{ cs := [(Kd.list KP, false)], ag := false }, { cs := [(I6, false)], ag := false }]
abbrev zzi : List Pm := [{ cs := [(I6, false)], ag := false }]
def zzj : List Norm := []
noncomputable def zzk : C := irOf Tryz.prog Tryz.f178 [] zzj []
theorem zLt : lightC Tryz.prog [] Tryz.f178.ntmps zzj [] 0 (bodyOf Tryz.f178) = some (zzk, 0) := by kernel_rfl
def zzl : List (Nat × Option (Nat × Bool)) := [(4, none)]
def zpO (fuel : Nat) (x0 : LP) (x1 : Int) : Option ((Int × Unit) × Unit) :=
 cond (decide (w64 (x1 - (zz (List.length x0))) < (0 : Int)))
 (some ((((-1 : Int), ()), ())))
 (some (((w64 (x1 - (zz (List.length x0))), ()), ())))
def zld (fuel : Nat) (x : ((LP × Unit) × ((Int × Unit) × Unit))) : Option ((Int × Unit) × Unit) := zpO fuel x.1.1 x.2.1.1
theorem zLu (fuel : Nat) (x : PsT zpN) : run (zzh fuel) 0 fuel zzk (env0 (svPs zpN x) 0) [] (endF zzl zzi) = zld fuel x := by kernel_rfl
def zpP (fuel : Nat) : TF := ⟨zpN, zzi, true, zld fuel⟩
theorem zLv (fuel : Nat) : FnSpec Tryz.prog 178 (zpP fuel) :=
  fn_spec (T := zzh fuel) (c := bodyOf Tryz.f178) (fn := Tryz.f178) (TabOK.of (entNil) (methNil)) mixed (by kernel_rfl) (by kernel_rfl) zLt (by kernel_rfl) (Nat.le_of_ble_eq_true (by kernel_rfl)) (rv := zzl) (by kernel_rfl) (zLu fuel)
theorem zLw (fuel : Nat) : EntryOK Tryz.prog 178 (zpP fuel).te := EntryOK.tf rfl (zLv fuel) (isFn (fn := Tryz.f178) (by kernel_rfl) (by kernel_rfl) (by kernel_rfl))
def zzm (fuel : Nat) : Tab := Tab.of [(178, (zpP fuel).te)] []
abbrev zpQ : List Pm := [{ cs := [(Kd.list KP, false), (I6, false)], ag := true }, { cs := [(I6, false)], ag := false }]
abbrev zzn : List Pm := [{ cs := [(I6, false)], ag := false }]
def zzo : List Norm := []
noncomputable def zzp : C := irOf Tryz.prog Tryz.f129 [] zzo []
theorem zLx : lightC Tryz.prog [] Tryz.f129.ntmps zzo [] 0 (bodyOf Tryz.f129) = some (zzp, 0) := by kernel_rfl
def zzq : List (Nat × Option (Nat × Bool)) := [(4, none)]
def zpR (fuel : Nat) (x0 : LP) (x1 : Int) (x2 : Int) : Option ((Int × Unit) × Unit) :=
 Option.bind (zld fuel ((x0, ()), (x2, ()), ())) fun y_1 =>
 cond (decide (y_1.1.1 < (0 : Int)))
 (some ((((-1 : Int), ()), ())))
 (some (((y_1.1.1, ()), ())))
def zle (fuel : Nat) (x : ((LP × (Int × Unit)) × ((Int × Unit) × Unit))) : Option ((Int × Unit) × Unit) := zpR fuel x.1.1 x.1.2.1 x.2.1.1
theorem zLy (fuel : Nat) (x : PsT zpQ) : run (zzm fuel) 0 fuel zzp (env0 (svPs zpQ x) 0) [] (endF zzq zzn) = zle fuel x := by kernel_rfl
def zpS (fuel : Nat) : TF := ⟨zpQ, zzn, true, zle fuel⟩
theorem zLz (fuel : Nat) : FnSpec Tryz.prog 129 (zpS fuel) :=
  fn_spec (T := zzm fuel) (c := bodyOf Tryz.f129) (fn := Tryz.f129) (TabOK.of (entCons (zLw fuel) entNil) (methNil)) mixed (by kernel_rfl) (by kernel_rfl) zLx (by kernel_rfl) (Nat.le_of_ble_eq_true (by kernel_rfl)) (rv := zzq) (by kernel_rfl) (zLy fuel)
theorem zLA (fuel : Nat) : EntryOK Tryz.prog 129 (zpS fuel).te := EntryOK.tf rfl (zLz fuel) (isFn (fn := Tryz.f129) (by kernel_rfl) (by kernel_rfl) (by kernel_rfl))
def zzr (fuel : Nat) : Tab := Tab.of [(126, (zpD fuel).te), (127, (zpG fuel).te), (128, (zpM fuel).te), (129, (zpS fuel).te)] []
abbrev zpT : List Pm := [{ cs := [(Kd.list (Kd.list I6), false), (Kd.list I6, false), (Kd.list KP, false), (I6, false), (I6, false), (Kd.list KP, false), (I6, false)], ag := true }, { cs := [(I6, false)], ag := false }]
abbrev zzs : List Pm := [{ cs := [(I6, false)], ag := false }]
def zzt : List Norm := []
noncomputable def zzu : C := irOf Tryz.prog Tryz.f74 [] zzt []
theorem zLB : lightC Tryz.prog [] Tryz.f74.ntmps zzt [] 0 (bodyOf Tryz.f74) = some (zzu, 0) := by kernel_rfl
def zzv : List (Nat × Option (Nat × Bool)) := [(4, none)]
def zpU (fuel : Nat) (x0 : List (List Int)) (x1 : List Int) (x2 : LP) (x3 : Int) (x4 : Int) (x5 : LP) (x6 : Int) (x7 : Int) : Option ((Int × Unit) × Unit) :=
 Option.bind (zhs fuel ((x0, ()), (x7, ()), ())) fun y_1 =>
 cond (decide (y_1.1.1 < (0 : Int)))
 (some ((((-1 : Int), ()), ())))
 (Option.bind (zla fuel ((x1, ()), (y_1.1.1, ()), ())) fun y_3 =>
 cond (decide (y_3.1.1 < (0 : Int)))
 (some ((((-1 : Int), ()), ())))
 (Option.bind (zlc fuel ((x2, x3, x4, ()), (y_3.1.1, ()), ())) fun y_5 =>
 cond (decide (y_5.1.1 < (0 : Int)))
 (some ((((-1 : Int), ()), ())))
 (Option.bind (zle fuel ((x5, x6, ()), (y_5.1.1, ()), ())) fun y_7 =>
 cond (decide (y_7.1.1 < (0 : Int)))
 (some ((((-1 : Int), ()), ())))
 (some (((y_7.1.1, ()), ()))))))
def zbH (fuel : Nat) (x : (SumY × ((Int × Unit) × Unit))) : Option ((Int × Unit) × Unit) := zpU fuel x.1.1 x.1.2.1 x.1.2.2.1 x.1.2.2.2.1 x.1.2.2.2.2.1 x.1.2.2.2.2.2.1 x.1.2.2.2.2.2.2.1 x.2.1.1
theorem zLC (fuel : Nat) (x : PsT zpT) : run (zzr fuel) 0 fuel zzu (env0 (svPs zpT x) 0) [] (endF zzv zzs) = zbH fuel x := by kernel_rfl
def zlf (fuel : Nat) : TF := ⟨zpT, zzs, true, zbH fuel⟩
theorem zLD (fuel : Nat) : FnSpec Tryz.prog 74 (zlf fuel) :=
  fn_spec (T := zzr fuel) (c := bodyOf Tryz.f74) (fn := Tryz.f74) (TabOK.of (entCons (zLg fuel) (entCons (zLk fuel) (entCons (zLs fuel) (entCons (zLA fuel) entNil)))) (methNil)) mixed (by kernel_rfl) (by kernel_rfl) zLB (by kernel_rfl) (Nat.le_of_ble_eq_true (by kernel_rfl)) (rv := zzv) (by kernel_rfl) (zLC fuel)
theorem zzw (fuel : Nat) : EntryOK Tryz.prog 74 (zlf fuel).te := EntryOK.tf rfl (zLD fuel) (isFn (fn := Tryz.f74) (by kernel_rfl) (by kernel_rfl) (by kernel_rfl))
def zzx (fuel : Nat) : Tab := Tab.of [(179, (zpv fuel).te)] []
def zzy : List Norm := []
noncomputable def zzz : C := irOf Tryz.prog Tryz.f130 [] zzy []
theorem zLE : lightC Tryz.prog [] Tryz.f130.ntmps zzy [] 0 (bodyOf Tryz.f130) = some (zzz, 0) := by kernel_rfl
def zzA : List (Nat × Option (Nat × Bool)) := [(2, some (1, true))]
noncomputable def zzB (fuel : Nat) : IE := inlIE 1 (zzx fuel) fuel zzz zzA
theorem zLF (fuel : Nat) : ISound Tryz.prog 130 (zzB fuel) :=
  zC (T := zzx fuel) (c := bodyOf Tryz.f130) (fn := Tryz.f130) (TabOK.of (entCons (zKY fuel) entNil) (methNil)) mixed (by kernel_rfl) (by kernel_rfl) zLE (by kernel_rfl) (Nat.le_of_ble_eq_true (by kernel_rfl)) (rv := zzA) (by kernel_rfl) (isFn (fn := Tryz.f130) (by kernel_rfl) (by kernel_rfl) (by kernel_rfl))
end Go.Proofs.YtdgdoeknpakmlaaGreat.Den
