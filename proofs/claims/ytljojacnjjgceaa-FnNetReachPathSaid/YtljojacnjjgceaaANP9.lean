/- Part 9 of the texts behind the row. -/
import Derived.Test.YtljojacnjjgceaaANP8
set_option linter.unusedVariables false
set_option linter.unusedSimpArgs false
namespace Go.Proofs.Ytljojacnjjgceaa.Den
open Go Go.RowKit
def zpd (fuel : Nat) : Tab := Tab.of [(15, (zm fuel).te), (34, (zim fuel).te), (35, (zin fuel).te), (48, (zkG fuel).te), (49, (zkJ fuel).te), (50, (zkE fuel).te)] []
def zpe : List Norm := []
noncomputable def zw0 : C := irOf Try.prog Try.f41 [] zpe []
def zpf : List (Nat × Option (Nat × Bool)) := [(4, none)]
abbrev zw1 : Sx := .agg (.dat I6 (.dat I6 (.dat I6 .nil))) .nil
abbrev zw2 : Sx := .grp (.dat Kd.bool .nil) .nil
abbrev zw3 : Rt := .cells (.own 1 KN (.own 0 Kd.bool (.own 0 KW (.own 2 (Kd.list (Kd.list I6)) .nil))))
abbrev zf5 : LF := .ref zw3 zw1 zw2 false
def zkK (fuel : Nat) (d0 : List NY) (d1 : List Bool) (d2 : List WY) (d3 : List (List (List Int))) (x0 : Int) (x1 : Int) (x2 : Int) : Option (((List NY) × ((List Bool) × ((List WY) × ((List (List (List Int))) × Unit)))) × ((Bool × Unit) × Unit)) :=
 cond (x0 == (1 : Int))
 (Option.bind (zf1 fuel ((d0, d1, d2, d3, ()), (x1, ()), (x2, ()), ())) fun y_2 =>
 some (((y_2.1.1, y_2.1.2.1, y_2.1.2.2.1, y_2.1.2.2.2.1, ()), (y_2.2.1.1, ()), ())))
 (cond (x0 == (2 : Int))
 (Option.bind (zdn fuel ((d0, d1, d2, d3, ()), (x1, ()), ())) fun y_3 =>
 some (((y_3.1.1, y_3.1.2.1, y_3.1.2.2.1, y_3.1.2.2.2.1, ()), (y_3.2.1.1, ()), ())))
 (cond (x0 == (3 : Int))
 (Option.bind (zdo fuel ((d0, d1, d2, d3, ()), (x1, ()), ())) fun y_4 =>
 some (((y_4.1.1, y_4.1.2.1, y_4.1.2.2.1, y_4.1.2.2.2.1, ()), (y_4.2.1.1, ()), ())))
 (cond (x0 == (7 : Int))
 (Option.bind (zf4 fuel ((d0, d1, d2, d3, ()), (x1, ()), ())) fun y_5 =>
 some (((y_5.1.1, y_5.1.2.1, y_5.1.2.2.1, y_5.1.2.2.2.1, ()), (y_5.2.1.1, ()), ())))
 (cond (x0 == (9 : Int))
 (Option.bind (zc fuel ((x2, ()), ((0 : Int), ()), ((4 : Int), ()), ())) fun y_6 =>
 cond (y_6.1.1)
 (Option.bind (zb1 fuel ((d0, d1, d2, d3, ()), (x1, ()), (x2, ()), (x0 == (10 : Int), ()), ())) fun y_8 =>
 some (((y_8.1.1, y_8.1.2.1, y_8.1.2.2.1, y_8.1.2.2.2.1, ()), (y_8.2.1.1, ()), ())))
 (some (((d0, d1, d2, d3, ()), (false, ()), ()))))
 (cond (x0 == (10 : Int))
 (Option.bind (zc fuel ((x2, ()), ((0 : Int), ()), ((4 : Int), ()), ())) fun y_7 =>
 cond (y_7.1.1)
 (Option.bind (zb1 fuel ((d0, d1, d2, d3, ()), (x1, ()), (x2, ()), (x0 == (10 : Int), ()), ())) fun y_9 =>
 some (((y_9.1.1, y_9.1.2.1, y_9.1.2.2.1, y_9.1.2.2.2.1, ()), (y_9.2.1.1, ()), ())))
 (some (((d0, d1, d2, d3, ()), (false, ()), ()))))
 (some (((d0, d1, d2, d3, ()), (false, ()), ()))))))))
def zf6 (fuel : Nat) (z : (((List NY) × ((List Bool) × ((List WY) × ((List (List (List Int))) × Unit)))) × ((Int × (Int × (Int × Unit))) × Unit))) : Option (((List NY) × ((List Bool) × ((List WY) × ((List (List (List Int))) × Unit)))) × ((Bool × Unit) × Unit)) := zkK fuel z.1.1 z.1.2.1 z.1.2.2.1 z.1.2.2.2.1 z.2.1.1 z.2.1.2.1 z.2.1.2.2.1
theorem zw4 (fuel : Nat) (xa : zf5.rt.T) (xd : zf5.D.T) : zf5.go (zpd fuel) fuel zw0 zpf xa xd = zf6 fuel (zf5.xb (xa, xd)) := by kernel_rfl
abbrev zkL (fuel : Nat) : LE := ⟨zf5, zf6 fuel⟩
theorem zw5 (fuel : Nat) : EntryOK Try.prog 41 (zkL fuel).te := okF (T := zpd fuel) (fn := Try.f41) (le := zkL fuel) (frz := []) (ann := zpe) (cuts := []) (rv := zpf) (TabOK.of (entCons (zq fuel) (entCons (zoR fuel) (entCons (zoV fuel) (entCons (zwO fuel) (entCons (zwZ fuel) (entCons (zwI fuel) entNil)))))) (methNil)) mixed (by kernel_rfl) (by kernel_rfl) (by kernel_rfl) (fun _ => rfl) (fun _ => rfl) (fun xa xd y h => ⟨fuel, (zw4 fuel xa xd).trans h⟩)
def zpg (fuel : Nat) : Tab := Tab.of [(15, (zm fuel).te), (40, (zir fuel).te), (41, (zkL fuel).te)] []
def zph : List Norm := []
noncomputable def zw6 : C := irOf Try.prog Try.f31 [] zph []
def zpi : List (Nat × Option (Nat × Bool)) := [(4, none)]
abbrev zw7 : Sx := .agg (.dat I6 (.dat I6 (.dat I6 .nil))) .nil
abbrev zw8 : Sx := .grp (.dat Kd.bool .nil) .nil
abbrev zw9 : Rt := .cells (.own 1 KN (.own 0 Kd.bool (.own 0 KW (.own 2 (Kd.list (Kd.list I6)) .nil))))
abbrev zf7 : LF := .ref zw9 zw7 zw8 false
def zkM (fuel : Nat) (d0 : List NY) (d1 : List Bool) (d2 : List WY) (d3 : List (List (List Int))) (x0 : Int) (x1 : Int) (x2 : Int) : Option (((List NY) × ((List Bool) × ((List WY) × ((List (List (List Int))) × Unit)))) × ((Bool × Unit) × Unit)) :=
 cond (x0 == (4 : Int))
 (Option.bind (zby fuel ((d0, d1, d2, d3, ()), (x1, ()), (true, ()), (false, ()), ())) fun y_2 =>
 some (((y_2.1.1, y_2.1.2.1, y_2.1.2.2.1, y_2.1.2.2.2.1, ()), (y_2.2.1.1, ()), ())))
 (cond (x0 == (5 : Int))
 (Option.bind (zby fuel ((d0, d1, d2, d3, ()), (x1, ()), (true, ()), (true, ()), ())) fun y_3 =>
 some (((y_3.1.1, y_3.1.2.1, y_3.1.2.2.1, y_3.1.2.2.2.1, ()), (y_3.2.1.1, ()), ())))
 (cond (x0 == (6 : Int))
 (Option.bind (zby fuel ((d0, d1, d2, d3, ()), (x1, ()), (false, ()), (false, ()), ())) fun y_4 =>
 some (((y_4.1.1, y_4.1.2.1, y_4.1.2.2.1, y_4.1.2.2.2.1, ()), (y_4.2.1.1, ()), ())))
 (cond (x0 == (8 : Int))
 (tst (decide ((0 : Int) < (zz (List.length d0)))) <|
 tst (decide (Int.toNat (0 : Int) < List.length d0)) <|
 tst (decide ((0 : Int) < (zz (List.length d0)))) <|
 tst (decide (Int.toNat (0 : Int) < List.length d0)) <|
 tst (decide ((0 : Int) < (zz (List.length d0)))) <|
 some (((List.set d0 (Int.toNat (0 : Int)) ((List.getD d0 (Int.toNat (0 : Int)) (0, ([], (0, (0, (0, ())))))).1, (List.getD d0 (Int.toNat (0 : Int)) (0, ([], (0, (0, (0, ())))))).2.1, w64 ((List.getD d0 (Int.toNat (0 : Int)) (0, ([], (0, (0, (0, ())))))).2.2.1 + (1 : Int)), (List.getD d0 (Int.toNat (0 : Int)) (0, ([], (0, (0, (0, ())))))).2.2.2.1, (List.getD d0 (Int.toNat (0 : Int)) (0, ([], (0, (0, (0, ())))))).2.2.2.2.1, ()), d1, d2, d3, ()), (decide (w64 ((List.getD d0 (Int.toNat (0 : Int)) (0, ([], (0, (0, (0, ())))))).2.2.1 + (1 : Int)) ≤ (1000 : Int)), ()), ())))
 (Option.bind (zc fuel ((x1, ()), ((0 : Int), ()), ((4 : Int), ()), ())) fun y_5 =>
 cond (y_5.1.1)
 (Option.bind (zf6 fuel ((d0, d1, d2, d3, ()), (x0, x1, x2, ()), ())) fun y_7 =>
 some (((y_7.1.1, y_7.1.2.1, y_7.1.2.2.1, y_7.1.2.2.2.1, ()), (y_7.2.1.1, ()), ())))
 (some (((d0, d1, d2, d3, ()), (false, ()), ())))))))
def zf8 (fuel : Nat) (z : (((List NY) × ((List Bool) × ((List WY) × ((List (List (List Int))) × Unit)))) × ((Int × (Int × (Int × Unit))) × Unit))) : Option (((List NY) × ((List Bool) × ((List WY) × ((List (List (List Int))) × Unit)))) × ((Bool × Unit) × Unit)) := zkM fuel z.1.1 z.1.2.1 z.1.2.2.1 z.1.2.2.2.1 z.2.1.1 z.2.1.2.1 z.2.1.2.2.1
theorem zxa (fuel : Nat) (xa : zf7.rt.T) (xd : zf7.D.T) : zf7.go (zpg fuel) fuel zw6 zpi xa xd = zf8 fuel (zf7.xb (xa, xd)) := by kernel_rfl
abbrev zkN (fuel : Nat) : LE := ⟨zf7, zf8 fuel⟩
theorem zxb (fuel : Nat) : EntryOK Try.prog 31 (zkN fuel).te := okF (T := zpg fuel) (fn := Try.f31) (le := zkN fuel) (frz := []) (ann := zph) (cuts := []) (rv := zpi) (TabOK.of (entCons (zq fuel) (entCons (zo8 fuel) (entCons (zw5 fuel) entNil))) (methNil)) mixed (by kernel_rfl) (by kernel_rfl) (by kernel_rfl) (fun _ => rfl) (fun _ => rfl) (fun xa xd y h => ⟨fuel, (zxa fuel xa xd).trans h⟩)
abbrev zb2 := Option (((List NY) × ((List Bool) × ((List WY) × ((List (List (List Int))) × Unit)))) × ((Bool × Unit) × Unit))
def zf9 (fuel : Nat) : Tab := Tab.of [(9, (zfS fuel).te), (30, (zii fuel).te), (31, (zkN fuel).te)] []
def zpj : List Norm := [{ live := [7, 1, 6, 4], fix := [], tr := [(6, some 0, KN, 1), (6, some 2, KW, 0)] }]
def zpk : List (Nat × Norm) := [(1000008, { live := [8, 1, 7, 4, 6], fix := [], tr := [(8, some 0, KN, 1), (8, some 2, KW, 0)] })]
noncomputable def zis : C := irOf Try.prog Try.f25 [] zpj zpk
def zga : List (Nat × Option (Nat × Bool)) := [(4, some (4, true)), (5, none)]
abbrev zxc : Sx := .agg (.dat (Kd.list KN) (.dat (Kd.list Kd.bool) (.dat (Kd.list KW) (.dat (Kd.list (Kd.list (Kd.list I6))) .nil)))) (.grp (.dat (Kd.list (Kd.pair I6 KP)) .nil) .nil)
abbrev zxd : Sx := .agg (.own 1 KN (.own 0 Kd.bool (.own 0 KW (.own 2 (Kd.list (Kd.list I6)) .nil)))) (.grp (.dat Kd.bool .nil) .nil)
abbrev zbz : LF := .pure zxc zxd false
abbrev zdr := (Int) × (List (Int × Int × Int × Unit)) × (List NY) × (List Bool) × (List WY) × (List (List (List Int)))
def zpl (v : zdr) : Env × Heap := ([(7, SV.int .i64 v.1), (1, SV.es (Kd.pair I6 KP) v.2.1), (6, SV.ptr 0 0), (4, SV.ptr 1 0)], [Blk.cells [SV.own 2, SV.own 3, SV.own 4, SV.own 5] 0 4, Blk.cells [SV.nils, SV.nils, SV.nils, SV.nils] 0 4, Blk.tree 1 KN v.2.2.1 none, Blk.arr Kd.bool v.2.2.2.1 0, Blk.arr KW v.2.2.2.2.1 0, Blk.tree 2 (Kd.list (Kd.list I6)) v.2.2.2.2.2 none])
def zkO (fuel : Nat) (g0 : zdr → zb2) (v : zdr) : zb2 :=
 cond (decide (v.1 < (zz (List.length v.2.1))))
 (Option.bind (zdk fuel ((v.2.2.1, v.2.2.2.1, v.2.2.2.2.1, v.2.2.2.2.2, ()), ())) fun y_2 =>
 tst (decide (0 ≤ v.1)) <|
 tst (decide (v.1 < (zz (List.length v.2.1)))) <|
 Option.bind (zf8 fuel ((y_2.1.1, y_2.1.2.1, y_2.1.2.2.1, y_2.1.2.2.2.1, ()), ((List.getD v.2.1 (Int.toNat v.1) (0, (0, (0, ())))).1, (List.getD v.2.1 (Int.toNat v.1) (0, (0, (0, ())))).2.1, (List.getD v.2.1 (Int.toNat v.1) (0, (0, (0, ())))).2.2.1, ()), ())) fun y_3 =>
 cond (y_3.2.1.1)
 (g0 (w64 (v.1 + (1 : Int)), v.2.1, y_3.1.1, y_3.1.2.1, y_3.1.2.2.1, y_3.1.2.2.2.1))
 (g0 (w64 (v.1 + (1 : Int)), v.2.1, v.2.2.1, v.2.2.2.1, v.2.2.2.2.1, v.2.2.2.2.2)))
 (some (((v.2.2.1, v.2.2.2.1, v.2.2.2.2.1, v.2.2.2.2.2, ()), (true, ()), ())))
def zkP (fuel : Nat) (g0 : zdr → zb2) : zdr → zb2 := zkO fuel g0
theorem zxe (fuel : Nat) (G) : zis.lp (zf9 fuel) 0 fuel G (endX zga zbz) 0 zpl = iter (zkP fuel) fuel := C.lp_iter fun g v => by kernel_rfl
def zit (fuel : Nat) (X0 : zdr → zb2) (x0 : List NY) (x1 : List Bool) (x2 : List WY) (x3 : List (List (List Int))) (x4 : List (Int × Int × Int × Unit)) : zb2 :=
 Option.bind (zc6 fuel ((x0, x1, x2, x3, ()), ())) fun y_1 =>
 cond (!y_1.1.1)
 (some ((([], [], [], [], ()), (false, ()), ())))
 (cond (decide ((zz (List.length x4)) > (200 : Int)))
 (some ((([], [], [], [], ()), (false, ()), ())))
 (Option.bind (zdk fuel ((x0, x1, x2, x3, ()), ())) fun y_4 =>
 X0 ((0 : Int), x4, y_4.1.1, y_4.1.2.1, y_4.1.2.2.1, y_4.1.2.2.2.1)))
def zds (fuel : Nat) (z : (((List NY) × ((List Bool) × ((List WY) × ((List (List (List Int))) × Unit)))) × (((List (Int × (Int × (Int × Unit)))) × Unit) × Unit))) : zb2 := zit fuel (iter (zkP fuel) fuel) z.1.1 z.1.2.1 z.1.2.2.1 z.1.2.2.2.1 z.2.1.1
theorem zxf (fuel : Nat) (xa : zbz.rt.T) (xd : zbz.D.T) : zbz.go (zf9 fuel) fuel zis zga xa xd = zds fuel (zbz.xb (xa, xd)) :=
  (show zbz.go (zf9 fuel) fuel zis zga xa xd = zit fuel (zis.lp (zf9 fuel) 0 fuel (fun _ _ _ => none) (endX zga zbz) 0 zpl) xd.1.1 xd.1.2.1 xd.1.2.2.1 xd.1.2.2.2.1 xd.2.1.1 by kernel_rfl).trans (by rw [zxe]; rfl)
abbrev zkQ (fuel : Nat) : LE := ⟨zbz, zds fuel⟩
theorem zxg (fuel : Nat) : EntryOK Try.prog 25 (zkQ fuel).te := okF (T := zf9 fuel) (fn := Try.f25) (le := zkQ fuel) (frz := []) (ann := zpj) (cuts := zpk) (rv := zga) (TabOK.of (entCons (zkr fuel) (entCons (zoK fuel) (entCons (zxb fuel) entNil))) (methNil)) mixed (by kernel_rfl) (by kernel_rfl) (by kernel_rfl) (fun _ => rfl) (fun _ => rfl) (fun xa xd y h => ⟨fuel, (zxf fuel xa xd).trans h⟩)
abbrev zb3 := Option (((List NY) × ((List Bool) × ((List WY) × ((List (List (List Int))) × Unit)))) × Unit)
def zgb (fuel : Nat) : Tab := Tab.of [(40, (zir fuel).te)] []
def zpm : List Norm := [⟨[0], [], [], []⟩]
noncomputable def ziu : C := irOf Try.prog Try.f33 [] zpm []
def zgc : List (Nat × Option (Nat × Bool)) := []
abbrev zxh : Sx := .nil
abbrev zxi : Sx := .nil
abbrev zxj : Rt := .cells (.own 1 KN (.own 0 Kd.bool (.own 0 KW (.own 2 (Kd.list (Kd.list I6)) .nil))))
abbrev zbA : LF := .ref zxj zxh zxi false
abbrev zdt := (List NY) × (List Bool) × (List WY) × (List (List (List Int)))
def zpn (v : zdt) : Env × Heap := ([(0, SV.ptr 0 0)], [Blk.cells [SV.own 1, SV.own 2, SV.own 3, SV.own 4] 0 4, Blk.tree 1 KN v.1 none, Blk.arr Kd.bool v.2.1 0, Blk.arr KW v.2.2.1 0, Blk.tree 2 (Kd.list (Kd.list I6)) v.2.2.2 none])
def zkR (fuel : Nat) (g0 : zdt → zb3) (v : zdt) : zb3 :=
 cond (decide ((zz (List.length v.2.2.1)) > (0 : Int)))
 (Option.bind (zby fuel ((v.1, v.2.1, v.2.2.1, v.2.2.2, ()), ((0 : Int), ()), (true, ()), (false, ()), ())) fun y_2 =>
 g0 (y_2.1.1, y_2.1.2.1, y_2.1.2.2.1, y_2.1.2.2.2.1))
 (some (((v.1, v.2.1, v.2.2.1, v.2.2.2, ()), ())))
def zkS (fuel : Nat) (g0 : zdt → zb3) : zdt → zb3 := zkR fuel g0
theorem zxk (fuel : Nat) (G) : ziu.lp (zgb fuel) 1 fuel G (endX zgc zbA) 0 zpn = iter (zkS fuel) fuel := C.lp_iter fun g v => by kernel_rfl
def zpo (fuel : Nat) (X0 : zdt → zb3) (d0 : List NY) (d1 : List Bool) (d2 : List WY) (d3 : List (List (List Int))) : zb3 :=
 X0 (d0, d1, d2, d3)
def zb4 (fuel : Nat) (z : (((List NY) × ((List Bool) × ((List WY) × ((List (List (List Int))) × Unit)))) × Unit)) : zb3 := zpo fuel (iter (zkS fuel) fuel) z.1.1 z.1.2.1 z.1.2.2.1 z.1.2.2.2.1
theorem zxl (fuel : Nat) (xa : zbA.rt.T) (xd : zbA.D.T) : zbA.go (zgb fuel) fuel ziu zgc xa xd = zb4 fuel (zbA.xb (xa, xd)) :=
  (show zbA.go (zgb fuel) fuel ziu zgc xa xd = zpo fuel (ziu.lp (zgb fuel) 1 fuel (fun _ _ _ => none) (endX zgc zbA) 0 zpn) xa.1 xa.2.1 xa.2.2.1 xa.2.2.2.1 by kernel_rfl).trans (by rw [zxk]; rfl)
abbrev zkT (fuel : Nat) : LE := ⟨zbA, zb4 fuel⟩
theorem zxm (fuel : Nat) : EntryOK Try.prog 33 (zkT fuel).te := okF (T := zgb fuel) (fn := Try.f33) (le := zkT fuel) (frz := []) (ann := zpm) (cuts := []) (rv := zgc) (TabOK.of (entCons (zo8 fuel) entNil) (methNil)) mixed (by kernel_rfl) (by kernel_rfl) (by kernel_rfl) (fun _ => rfl) (fun _ => rfl) (fun xa xd y h => ⟨fuel, (zxl fuel xa xd).trans h⟩)
abbrev zj := Option (((List NY) × ((List Bool) × ((List WY) × ((List (List (List Int))) × Unit)))) × ((Bool × Unit) × Unit))
def zw (fuel : Nat) : Tab := Tab.of [(9, (zfS fuel).te), (30, (zii fuel).te), (33, (zkT fuel).te), (34, (zim fuel).te), (35, (zin fuel).te)] []
def zpp : List Norm := [{ live := [5, 4, 2], fix := [], tr := [(4, some 0, KN, 1)] }, { live := [6, 4, 5, 2], fix := [], tr := [(4, some 0, KN, 1)] }, { live := [7, 4, 2], fix := [], tr := [(4, some 0, KN, 1)] }, { live := [8, 4, 7, 2], fix := [], tr := [(4, some 0, KN, 1)] }]
def zpq : List (Nat × Norm) := [(1000004, { live := [4, 2], fix := [], tr := [(4, some 0, KN, 1), (4, some 2, KW, 0)] })]
noncomputable def zo : C := irOf Try.prog Try.f27 [] zpp zpq
def zP : List (Nat × Option (Nat × Bool)) := [(2, some (4, true)), (3, none)]
abbrev zxn : Sx := .agg (.dat (Kd.list KN) (.dat (Kd.list Kd.bool) (.dat (Kd.list KW) (.dat (Kd.list (Kd.list (Kd.list I6))) .nil)))) .nil
abbrev zxo : Sx := .agg (.own 1 KN (.own 0 Kd.bool (.own 0 KW (.own 2 (Kd.list (Kd.list I6)) .nil)))) (.grp (.dat Kd.bool .nil) .nil)
abbrev zC : LF := .pure zxn zxo false
abbrev zbB := (Int) × (List NY) × (List Bool) × (List WY) × (List (List (List Int)))
abbrev zdu := (Int) × (Int) × (List NY) × (List Bool) × (List WY) × (List (List (List Int)))
abbrev zbC := (Int) × (List NY) × (List Bool) × (List WY) × (List (List (List Int)))
abbrev zdv := (Int) × (Int) × (List NY) × (List Bool) × (List WY) × (List (List (List Int)))
def zaz (v : zbB) : Env × Heap := ([(5, SV.int .i64 v.1), (4, SV.ptr 0 0), (2, SV.ptr 1 0)], [Blk.cells [SV.own 2, SV.own 3, SV.own 4, SV.own 5] 0 4, Blk.cells [SV.nils, SV.nils, SV.nils, SV.nils] 0 4, Blk.tree 1 KN v.2.1 none, Blk.arr Kd.bool v.2.2.1 0, Blk.arr KW v.2.2.2.1 0, Blk.tree 2 (Kd.list (Kd.list I6)) v.2.2.2.2 none])
def zdw (v : zdu) : Env × Heap := ([(6, SV.int .i64 v.1), (4, SV.ptr 0 0), (5, SV.int .i64 v.2.1), (2, SV.ptr 1 0)], [Blk.cells [SV.own 2, SV.own 3, SV.own 4, SV.own 5] 0 4, Blk.cells [SV.nils, SV.nils, SV.nils, SV.nils] 0 4, Blk.tree 1 KN v.2.2.1 none, Blk.arr Kd.bool v.2.2.2.1 0, Blk.arr KW v.2.2.2.2.1 0, Blk.tree 2 (Kd.list (Kd.list I6)) v.2.2.2.2.2 none])
def zaA (v : zbC) : Env × Heap := ([(7, SV.int .i64 v.1), (4, SV.ptr 0 0), (2, SV.ptr 1 0)], [Blk.cells [SV.own 2, SV.own 3, SV.own 4, SV.own 5] 0 4, Blk.cells [SV.nils, SV.nils, SV.nils, SV.nils] 0 4, Blk.tree 1 KN v.2.1 none, Blk.arr Kd.bool v.2.2.1 0, Blk.arr KW v.2.2.2.1 0, Blk.tree 2 (Kd.list (Kd.list I6)) v.2.2.2.2 none])
def zdx (v : zdv) : Env × Heap := ([(8, SV.int .i64 v.1), (4, SV.ptr 0 0), (7, SV.int .i64 v.2.1), (2, SV.ptr 1 0)], [Blk.cells [SV.own 2, SV.own 3, SV.own 4, SV.own 5] 0 4, Blk.cells [SV.nils, SV.nils, SV.nils, SV.nils] 0 4, Blk.tree 1 KN v.2.2.1 none, Blk.arr Kd.bool v.2.2.2.1 0, Blk.arr KW v.2.2.2.2.1 0, Blk.tree 2 (Kd.list (Kd.list I6)) v.2.2.2.2.2 none])
def ziv (fuel : Nat) (g0 : zbB → zj) (g1 : zdu → zj) (v : zdu) : zj :=
 cond (decide (v.1 < (5 : Int)))
 (Option.bind (zdn fuel ((v.2.2.1, v.2.2.2.1, v.2.2.2.2.1, v.2.2.2.2.2, ()), (v.1, ()), ())) fun y_2 =>
 Option.bind (zb4 fuel ((y_2.1.1, y_2.1.2.1, y_2.1.2.2.1, y_2.1.2.2.2.1, ()), ())) fun y_3 =>
 g1 (w64 (v.1 + (1 : Int)), v.2.1, y_3.1.1, y_3.1.2.1, y_3.1.2.2.1, y_3.1.2.2.2.1))
 (g0 (w64 (v.2.1 + (1 : Int)), v.2.2.1, v.2.2.2.1, v.2.2.2.2.1, v.2.2.2.2.2))
def zkU (fuel : Nat) (g0 : zbB → zj) (g1 : zdu → zj) : zdu → zj := ziv fuel g0 g1
theorem zxp (fuel : Nat) (G) : zo.lp (zw fuel) 0 fuel G (endX zP zC) 1 zdw = iter (zkU fuel (fun v => G 0 (zaz v).1 (zaz v).2)) fuel := C.lp_iter fun g v =>
  (show run (zw fuel) 0 fuel (zo.bdAt 1) (zdw v).1 (zdw v).2 (loopK 0 (zo.nmAt 1) g (zo.contAt (zw fuel) 0 fuel G 0 1 (endX zP zC))) = ziv fuel (fun v => G 0 (zaz v).1 (zaz v).2) (fun v => g (zdw v).1 (zdw v).2) v by kernel_rfl)
def ziw (fuel : Nat) (g2 : zbC → zj) (g3 : zdv → zj) (v : zdv) : zj :=
 cond (decide (v.1 < (5 : Int)))
 (Option.bind (zdo fuel ((v.2.2.1, v.2.2.2.1, v.2.2.2.2.1, v.2.2.2.2.2, ()), (v.1, ()), ())) fun y_2 =>
 Option.bind (zb4 fuel ((y_2.1.1, y_2.1.2.1, y_2.1.2.2.1, y_2.1.2.2.2.1, ()), ())) fun y_3 =>
 g3 (w64 (v.1 + (1 : Int)), v.2.1, y_3.1.1, y_3.1.2.1, y_3.1.2.2.1, y_3.1.2.2.2.1))
 (g2 (w64 (v.2.1 + (1 : Int)), v.2.2.1, v.2.2.2.1, v.2.2.2.2.1, v.2.2.2.2.2))
def zkV (fuel : Nat) (g2 : zbC → zj) (g3 : zdv → zj) : zdv → zj := ziw fuel g2 g3
theorem zxq (fuel : Nat) (G) : zo.lp (zw fuel) 0 fuel G (endX zP zC) 3 zdx = iter (zkV fuel (fun v => G 2 (zaA v).1 (zaA v).2)) fuel := C.lp_iter fun g v =>
  (show run (zw fuel) 0 fuel (zo.bdAt 3) (zdx v).1 (zdx v).2 (loopK 0 (zo.nmAt 3) g (zo.contAt (zw fuel) 0 fuel G 0 3 (endX zP zC))) = ziw fuel (fun v => G 2 (zaA v).1 (zaA v).2) (fun v => g (zdx v).1 (zdx v).2) v by kernel_rfl)
def zix (fuel : Nat) (X3 : zdv → zj) (g2 : zbC → zj) (v : zbC) : zj :=
 cond (decide (v.1 < (5 : Int)))
 (X3 ((0 : Int), v.1, v.2.1, v.2.2.1, v.2.2.2.1, v.2.2.2.2))
 (some (((v.2.1, v.2.2.1, v.2.2.2.1, v.2.2.2.2, ()), (true, ()), ())))
def zkW (fuel : Nat) (g2 : zbC → zj) : zbC → zj := zix fuel (iter (zkV fuel g2) fuel) g2
theorem zxr (fuel : Nat) (G) : zo.lp (zw fuel) 0 fuel G (endX zP zC) 2 zaA = iter (zkW fuel) fuel := C.lp_iter fun g v =>
  (show run (zw fuel) 0 fuel (zo.bdAt 2) (zaA v).1 (zaA v).2 (loopK 0 (zo.nmAt 2) g (zo.contAt (zw fuel) 0 fuel G 0 2 (endX zP zC))) = zix fuel (zo.lp (zw fuel) 0 fuel (fun m => bif Nat.beq m 2 then g else G m) (endX zP zC) 3 zdx) (fun v => g (zaA v).1 (zaA v).2) v by kernel_rfl).trans (by rw [zxq]; rfl)
def ziy (fuel : Nat) (X1 : zdu → zj) (X2 : zbC → zj) (g0 : zbB → zj) (v : zbB) : zj :=
 cond (decide (v.1 < (5 : Int)))
 (X1 ((0 : Int), v.1, v.2.1, v.2.2.1, v.2.2.2.1, v.2.2.2.2))
 (X2 ((0 : Int), v.2.1, v.2.2.1, v.2.2.2.1, v.2.2.2.2))
def ziz (fuel : Nat) (g0 : zbB → zj) : zbB → zj := ziy fuel (iter (zkU fuel g0) fuel) (iter (zkW fuel) fuel) g0
theorem zxs (fuel : Nat) (G) : zo.lp (zw fuel) 0 fuel G (endX zP zC) 0 zaz = iter (ziz fuel) fuel := C.lp_iter fun g v =>
  (show run (zw fuel) 0 fuel (zo.bdAt 0) (zaz v).1 (zaz v).2 (loopK 0 (zo.nmAt 0) g (zo.contAt (zw fuel) 0 fuel G 0 0 (endX zP zC))) = ziy fuel (zo.lp (zw fuel) 0 fuel (fun m => bif Nat.beq m 0 then g else G m) (endX zP zC) 1 zdw) (zo.lp (zw fuel) 0 fuel (fun m => bif Nat.beq m 0 then g else G m) (endX zP zC) 2 zaA) (fun v => g (zaz v).1 (zaz v).2) v by kernel_rfl).trans (by rw [zxp, zxr]; rfl)
def ziA (fuel : Nat) (X0 : zbB → zj) (x0 : List NY) (x1 : List Bool) (x2 : List WY) (x3 : List (List (List Int))) : zj :=
 Option.bind (zc6 fuel ((x0, x1, x2, x3, ()), ())) fun y_1 =>
 cond (!y_1.1.1)
 (some ((([], [], [], [], ()), (false, ()), ())))
 (tst (decide ((0 : Int) < (zz (List.length x0)))) <|
 cond (decide ((List.getD x0 (Int.toNat (0 : Int)) (0, ([], (0, (0, (0, ())))))).2.2.1 ≥ (1000 : Int)))
 (some ((([], [], [], [], ()), (false, ()), ())))
 (Option.bind (zdk fuel ((x0, x1, x2, x3, ()), ())) fun y_4 =>
 Option.bind (zb4 fuel ((y_4.1.1, y_4.1.2.1, y_4.1.2.2.1, y_4.1.2.2.2.1, ()), ())) fun y_5 =>
 tst (decide ((0 : Int) < (zz (List.length y_5.1.1)))) <|
 tst (decide (Int.toNat (0 : Int) < List.length y_5.1.1)) <|
 tst (decide ((0 : Int) < (zz (List.length y_5.1.1)))) <|
 tst (decide (Int.toNat (0 : Int) < List.length y_5.1.1)) <|
 X0 ((0 : Int), List.set y_5.1.1 (Int.toNat (0 : Int)) ((List.getD y_5.1.1 (Int.toNat (0 : Int)) (0, ([], (0, (0, (0, ())))))).1, (List.getD y_5.1.1 (Int.toNat (0 : Int)) (0, ([], (0, (0, (0, ())))))).2.1, w64 ((List.getD y_5.1.1 (Int.toNat (0 : Int)) (0, ([], (0, (0, (0, ())))))).2.2.1 + (1 : Int)), (List.getD y_5.1.1 (Int.toNat (0 : Int)) (0, ([], (0, (0, (0, ())))))).2.2.2.1, (List.getD y_5.1.1 (Int.toNat (0 : Int)) (0, ([], (0, (0, (0, ())))))).2.2.2.2.1, ()), y_5.1.2.1, y_5.1.2.2.1, y_5.1.2.2.2.1)))
def zgd (fuel : Nat) (z : (((List NY) × ((List Bool) × ((List WY) × ((List (List (List Int))) × Unit)))) × Unit)) : zj := ziA fuel (iter (ziz fuel) fuel) z.1.1 z.1.2.1 z.1.2.2.1 z.1.2.2.2.1
theorem zxt (fuel : Nat) (xa : zC.rt.T) (xd : zC.D.T) : zC.go (zw fuel) fuel zo zP xa xd = zgd fuel (zC.xb (xa, xd)) :=
  (show zC.go (zw fuel) fuel zo zP xa xd = ziA fuel (zo.lp (zw fuel) 0 fuel (fun _ _ _ => none) (endX zP zC) 0 zaz) xd.1.1 xd.1.2.1 xd.1.2.2.1 xd.1.2.2.2.1 by kernel_rfl).trans (by rw [zxs]; rfl)
abbrev zkX (fuel : Nat) : LE := ⟨zC, zgd fuel⟩
theorem zxu (fuel : Nat) : EntryOK Try.prog 27 (zkX fuel).te := okF (T := zw fuel) (fn := Try.f27) (le := zkX fuel) (frz := []) (ann := zpp) (cuts := zpq) (rv := zP) (TabOK.of (entCons (zkr fuel) (entCons (zoK fuel) (entCons (zxm fuel) (entCons (zoR fuel) (entCons (zoV fuel) entNil))))) (methNil)) mixed (by kernel_rfl) (by kernel_rfl) (by kernel_rfl) (fun _ => rfl) (fun _ => rfl) (fun xa xd y h => ⟨fuel, (zxt fuel xa xd).trans h⟩)
end Go.Proofs.Ytljojacnjjgceaa.Den
namespace Go.Proofs.Ytljojacnjjgceaa.Den
open Go Go.RowKit
def NetK (x : NetY) : Prop := NetT x.1 x.2.1 x.2.2.1 x.2.2.2.1
abbrev bc (N : List NY) : Int := (nd N 0).2.2.1
section
variable {f : Nat} {N : List NY} {L : List Bool} {W : List WY} {P : List (List (List Int))}
theorem zAZ (hT : NetT N L W P) {a : Nat} (ha : a < 5) (k b : Int) (hf : 2000 < f) :
    ∃ (x : NetY) (c : Bool), zf6 f ((N, L, W, P, ()), (k, (a : Int), b, ()), ()) = some (x, (c, ()), ()) ∧ NetK x ∧ bc x.1 = bc N := by
  have run : ∀ r, zkK f N L W P k (a : Int) b = r → zf6 f ((N, L, W, P, ()), (k, (a : Int), b, ()), ()) = r := fun r h => h
  unfold zkK at run
  have same : ∃ (x : NetY) (c : Bool), some (((N, L, W, P, ()) : NetY), (false, ()), ()) = some (x, (c, ()), ()) ∧ NetK x ∧ bc x.1 = bc N := ⟨_, false, rfl, hT, rfl⟩
  by_cases k1 : k = 1
  · rw [beqT k1, cond_true] at run
    obtain ⟨N', P', c, h1, h2, h3⟩ := zAX hT ha b hf
    rw [h1] at run
    exact ⟨_, c, run _ rfl, h2, h3⟩
  rw [beqF k1, cond_false] at run
  by_cases k2 : k = 2
  · rw [beqT k2, cond_true] at run
    obtain ⟨W', c, h1, h2⟩ := zrS (f := f) hT ha (by omega)
    rw [h1] at run
    exact ⟨_, c, run _ rfl, h2, rfl⟩
  rw [beqF k2, cond_false] at run
  by_cases k3 : k = 3
  · rw [beqT k3, cond_true] at run
    obtain ⟨W', c, h1, h2⟩ := tell_ok (f := f) hT ha (by omega)
    rw [h1] at run
    exact ⟨_, c, run _ rfl, h2, rfl⟩
  rw [beqF k3, cond_false] at run
  by_cases k7 : k = 7
  · rw [beqT k7, cond_true] at run
    obtain ⟨N', P', c, h1, h2, h3⟩ := zAY hT ha hf
    rw [h1] at run
    exact ⟨_, c, run _ rfl, h2, h3⟩
  rw [beqF k7, cond_false] at run
  have lk : ∃ (x : NetY) (c : Bool), (zc f ((b, ()), ((0 : Int), ()), ((4 : Int), ()), ())).bind (fun y_6 => cond (y_6.1.1) (Option.bind (zb1 f ((N, L, W, P, ()), ((a : Int), ()), (b, ()), (k == (10 : Int), ()), ())) fun y_8 =>
        some (((y_8.1.1, y_8.1.2.1, y_8.1.2.2.1, y_8.1.2.2.2.1, ()), (y_8.2.1.1, ()), ()))) (some (((N, L, W, P, ()), (false, ()), ())))) = some (x, (c, ()), ()) ∧ NetK x ∧ bc x.1 = bc N := by
    rw [in_dcd, Option.bind_some]
    by_cases hb : 0 ≤ b ∧ b ≤ 4
    · rw [dcd_pos hb]
      obtain ⟨bb, rfl, hb5⟩ := nat_of hb
      obtain ⟨L', c, h1, h2⟩ := zAU (f := f) hT ha hb5 (k == (10 : Int))
      simp only [cond_true]
      rw [h1]
      exact ⟨_, c, rfl, h2, rfl⟩
    · rw [dcd_neg hb]; exact same
  obtain ⟨x, c, h1, h2⟩ := lk
  by_cases k9 : k = 9
  · rw [beqT k9, cond_true] at run
    exact ⟨x, c, run _ h1, h2⟩
  rw [beqF k9, cond_false] at run
  by_cases k10 : k = 10
  · rw [beqT k10] at run h1
    exact ⟨x, c, run _ h1, h2⟩
  rw [beqF k10, cond_false] at run
  obtain ⟨x, c, h1, h2⟩ := same
  exact ⟨x, c, run _ h1, h2⟩
theorem do_ok (hT : NetT N L W P) (k a b : Int) (hf : 2000 < f) :
    ∃ (x : NetY) (c : Bool), zf8 f ((N, L, W, P, ()), (k, a, b, ()), ()) = some (x, (c, ()), ()) ∧ (c = true → NetK x ∧ bc x.1 ≤ bc N + 1) := by
  have hN := hT.nodes
  have run : ∀ r, zkM f N L W P k a b = r → zf8 f ((N, L, W, P, ()), (k, a, b, ()), ()) = r := fun r h => h
  unfold zkM at run
  by_cases k4 : k = 4
  · rw [beqT k4, cond_true] at run
    obtain ⟨N', W', c, h1, h2, h3, _⟩ := take_ok hT a true false hf
    rw [h1] at run
    exact ⟨_, c, run _ rfl, fun _ => ⟨h2, by show (nd N' 0).2.2.1 ≤ (nd N 0).2.2.1 + 1; omega⟩⟩
  rw [beqF k4, cond_false] at run
  by_cases k5 : k = 5
  · rw [beqT k5, cond_true] at run
    obtain ⟨N', W', c, h1, h2, h3, _⟩ := take_ok hT a true true hf
    rw [h1] at run
    exact ⟨_, c, run _ rfl, fun _ => ⟨h2, by show (nd N' 0).2.2.1 ≤ (nd N 0).2.2.1 + 1; omega⟩⟩
  rw [beqF k5, cond_false] at run
  by_cases k6 : k = 6
  · rw [beqT k6, cond_true] at run
    obtain ⟨N', W', c, h1, h2, h3, _⟩ := take_ok hT a false false hf
    rw [h1] at run
    exact ⟨_, c, run _ rfl, fun _ => ⟨h2, by show (nd N' 0).2.2.1 ≤ (nd N 0).2.2.1 + 1; omega⟩⟩
  rw [beqF k6, cond_false] at run
  by_cases k8 : k = 8
  · rw [beqT k8, cond_true] at run
    have hr := (hT.node 0 (by omega)).root rfl
    have hbe := hT.beacon
    have hrb := hr.beacon
    simp only [zz_eq, hN, show (0 : Int) < ((5 : Nat) : Int) by omega, show 0 < 5 by omega, Int.toNat_zero, decide_true, cond_true, w64_id (x := (nd N 0).2.2.1 + 1) (by omega) (by omega)] at run
    refine ⟨_, _, run _ rfl, fun h => ?_⟩
    have h1 : (nd N 0).2.2.1 + 1 ≤ 1000 := by simpa using h
    refine ⟨hT.updN (by omega) rfl rfl (hT.node 0 (by omega)).known (fun _ => ⟨⟨hr.level, hr.up, by show 0 ≤ (nd N 0).2.2.1 + 1; omega⟩, by show _ ≤ (nd N 0).2.2.1 + 1; omega, h1⟩) fun h => absurd rfl h, ?_⟩
    show (List.getD (N.set 0 _) 0 N0d).2.2.1 ≤ _
    rw [zM (by omega)]
    exact Int.le_refl _
  rw [beqF k8, cond_false, in_dcd, Option.bind_some] at run
  by_cases ha : 0 ≤ a ∧ a ≤ 4
  · rw [dcd_pos ha] at run
    obtain ⟨aa, rfl, ha5⟩ := nat_of ha
    obtain ⟨x, c, h1, h2, h3⟩ := zAZ hT ha5 k b hf
    simp only [cond_true] at run
    rw [h1] at run
    exact ⟨x, c, run _ rfl, fun _ => ⟨h2, by omega⟩⟩
  · rw [dcd_neg ha] at run
    exact ⟨_, false, run _ rfl, fun h => by cases h⟩
theorem run_ok (hT : NetT N L W P) (ds : List (Int × Int × Int × Unit)) (hd : ds.length ≤ 200) (hf : 2000 < f) :
    ∃ x : NetY, zds f ((N, L, W, P, ()), (ds, ()), ()) = some (x, (true, ()), ()) ∧ NetK x ∧ bc x.1 ≤ bc N + ds.length := by
  have key : Ret (zds f ((N, L, W, P, ()), (ds, ()), ())) fun r => ∃ x : NetY, r = (x, (true, ()), ()) ∧ NetK x ∧ bc x.1 ≤ bc N + ds.length := by
    show Ret (zit f (iter (zkP f) f) N L W P ds) _
    unfold zit
    rw [zl9 (n := 1000) (by omega) (by omega) (by omega) hT.full.small, dcd_pos hT, Option.bind_some]
    simp only [Bool.not_true, cond_false, zz_eq, show ¬ ((ds.length : Int) > 200) by omega, decide_false, zmb hf hT.full, Option.bind_some]
    refine Ret.loop (fun n v => ∃ (k : Nat) (x : NetY), v = ((k : Int), ds, x.1, x.2.1, x.2.2.1, x.2.2.2.1) ∧ k + n = ds.length ∧ NetK x ∧ bc x.1 ≤ bc N + k) ?_ f ds.length _ ⟨0, (N, L, W, P, ()), rfl, by omega, hT, by show bc N ≤ _; omega⟩ (by omega)
    rintro n v g ⟨k, x, rfl, hkn, hx, hb⟩ hg
    show Ret (zkO f g _) _
    unfold zkO
    by_cases hk : k < ds.length
    rotate_left
    · simp only [zz_eq, show ¬ ((k : Int) < (ds.length : Int)) by omega, decide_false, cond_false]
      exact Ret.ret ⟨x, rfl, hx, by omega⟩
    simp only [zz_eq, lt_cast hk, le_cast, decide_true, cond_true, Int.toNat_natCast, zmb hf (NetT.full hx), Option.bind_some, w64_up (show k < 4294967296 by omega)]
    obtain ⟨y, c, h1, h2⟩ := do_ok hx (List.getD ds k (0, 0, 0, ())).1 (List.getD ds k (0, 0, 0, ())).2.1 (List.getD ds k (0, 0, 0, ())).2.2.1 hf
    rw [h1, Option.bind_some]
    cases c with
    | true =>
      obtain ⟨h3, h4⟩ := h2 rfl
      exact hg (n - 1) _ (by omega) ⟨k + 1, y, rfl, by omega, h3, by omega⟩
    | false => exact hg (n - 1) _ (by omega) ⟨k + 1, x, rfl, by omega, hx, by omega⟩
  obtain ⟨r, h1, x, h2, h3⟩ := key
  exact ⟨x, by rw [h1, h2], h3⟩
theorem all_ok (hT : NetT N L W P) (hf : 2000 < f) : ∃ N', zb4 f ((N, L, W, P, ()), ()) = some ((N', L, [], P, ()), ()) ∧ NetT N' L [] P ∧ bc N' = bc N := by
  have key : Ret (zb4 f ((N, L, W, P, ()), ())) fun r => ∃ N', r = ((N', L, [], P, ()), ()) ∧ NetT N' L [] P ∧ bc N' = bc N := by
    show Ret (iter (zkS f) f (N, L, W, P)) _
    refine Ret.loop (fun n v => ∃ (N' : List NY) (W' : List WY), v = (N', L, W', P) ∧ W'.length = n ∧ NetT N' L W' P ∧ bc N' = bc N) ?_ f W.length _ ⟨N, W, rfl, rfl, hT, rfl⟩ (by have := hT.words; omega)
    rintro n v g ⟨N', W', rfl, hn, hT', hb⟩ hg
    show Ret (zkR f g _) _
    unfold zkR
    by_cases h0 : W'.length = 0
    · simp only [zz_eq, show ¬ ((W'.length : Int) > 0) by omega, decide_false, cond_false]
      obtain rfl := List.length_eq_zero_iff.1 h0
      exact Ret.ret ⟨N', rfl, hT', hb⟩
    simp only [zz_eq, show (W'.length : Int) > 0 by omega, decide_true, cond_true]
    obtain ⟨N2, W2, c, h1, h2, h3, h4⟩ := take_ok hT' 0 true false hf
    rw [h1, Option.bind_some]
    exact hg W2.length _ (by have := h4 ⟨by omega, by omega⟩ rfl; omega) ⟨N2, W2, rfl, rfl, h2, h3.trans hb⟩
  obtain ⟨r, h1, N', h2, h3⟩ := key
  exact ⟨N', by rw [h1, h2], h3⟩
theorem rest_ok (hT : NetT N L W P) (hb : bc N < 1000) (hf : 2000 < f) : ∃ x : NetY, zgd f ((N, L, W, P, ()), ()) = some (x, (true, ()), ()) ∧ NetK x ∧ bc x.1 = bc N + 1 := by
  have key : Ret (zgd f ((N, L, W, P, ()), ())) fun r => ∃ x : NetY, r = (x, (true, ()), ()) ∧ NetK x ∧ bc x.1 = bc N + 1 := by
    show Ret (ziA f (iter (ziz f) f) N L W P) _
    unfold ziA
    have hN := hT.nodes
    rw [zl9 (n := 1000) (by omega) (by omega) (by omega) hT.full.small, dcd_pos hT, Option.bind_some]
    obtain ⟨N1, h1, h2, h3⟩ := all_ok (f := f) hT hf
    have hN1 := h2.nodes
    have hr := (h2.node 0 (by omega)).root rfl
    have hrb := hr.beacon
    have hb1 : (nd N1 0).2.2.1 < 1000 := by show bc N1 < 1000; omega
    have hb' : ¬ ((List.getD N 0 N0d).2.2.1 ≥ 1000) := by show ¬ (bc N ≥ 1000); omega
    simp only [Bool.not_true, cond_false, zz_eq, hN, show (0 : Int) < ((5 : Nat) : Int) by omega, Int.toNat_zero, decide_true, cond_true, hb', decide_false, zmb hf hT.full, Option.bind_some, h1, hN1, show 0 < 5 by omega,
      w64_id (x := (nd N1 0).2.2.1 + 1) (by omega) (by omega)]
    have hT2 : NetT (N1.set 0 ((nd N1 0).1, (nd N1 0).2.1, (nd N1 0).2.2.1 + 1, (nd N1 0).2.2.2.1, (nd N1 0).2.2.2.2.1, ())) L [] P :=
      h2.updN (by omega) rfl rfl (h2.node 0 (by omega)).known (fun _ => ⟨⟨hr.level, hr.up, by show 0 ≤ (nd N1 0).2.2.1 + 1; omega⟩, by show _ ≤ (nd N1 0).2.2.1 + 1; omega, by show (nd N1 0).2.2.1 + 1 ≤ 1000; omega⟩) fun h => absurd rfl h
    have hbc : bc (N1.set 0 ((nd N1 0).1, (nd N1 0).2.1, (nd N1 0).2.2.1 + 1, (nd N1 0).2.2.2.1, (nd N1 0).2.2.2.2.1, ())) = bc N + 1 := by
      show (List.getD (N1.set 0 _) 0 N0d).2.2.1 = _
      rw [zM (by omega), ← h3]
    obtain ⟨N2, hN2⟩ : ∃ N2, N2 = N1.set 0 ((nd N1 0).1, (nd N1 0).2.1, (nd N1 0).2.2.1 + 1, (nd N1 0).2.2.2.1, (nd N1 0).2.2.2.2.1, ()) := ⟨_, rfl⟩
    rw [← hN2] at hT2 hbc
    show Ret (iter (ziz f) f ((0 : Int), N1.set 0 ((nd N1 0).1, (nd N1 0).2.1, (nd N1 0).2.2.1 + 1, (nd N1 0).2.2.2.1, (nd N1 0).2.2.2.2.1, ()), L, ([] : List WY), P)) _
    rw [← hN2]
    -- the second rounds
    have tells : ∀ y : NetY, NetK y → bc y.1 = bc N + 1 → Ret (iter (zkW f) f ((0 : Int), y.1, y.2.1, y.2.2.1, y.2.2.2.1)) fun r => ∃ x : NetY, r = (x, (true, ()), ()) ∧ NetK x ∧ bc x.1 = bc N + 1 := by
      intro y hy hyb
      refine Ret.loop (fun n v => ∃ (k : Nat) (x : NetY), v = ((k : Int), x.1, x.2.1, x.2.2.1, x.2.2.2.1) ∧ k + n = 5 ∧ NetK x ∧ bc x.1 = bc N + 1) ?_ f 5 _ ⟨0, y, rfl, rfl, hy, hyb⟩ (by omega)
      rintro n v g ⟨k, x, rfl, hkn, hx, hxb⟩ hg
      show Ret (zix f _ g _) _
      unfold zix
      by_cases hk : k < 5
      rotate_left
      · simp only [show ¬ ((k : Int) < 5) by omega, decide_false, cond_false]
        exact Ret.ret ⟨x, rfl, hx, hxb⟩
      simp only [za4 hk, decide_true, cond_true]
      refine Ret.loop (step := zkV f g) (fun n v => ∃ (i : Nat) (x : NetY), v = ((i : Int), (k : Int), x.1, x.2.1, x.2.2.1, x.2.2.2.1) ∧ i + n = 5 ∧ NetK x ∧ bc x.1 = bc N + 1) ?_ f 5 _ ⟨0, x, rfl, rfl, hx, hxb⟩ (by omega)
      rintro m v g' ⟨i, z, rfl, him, hz, hzb⟩ hg'
      show Ret (ziw f g g' _) _
      unfold ziw
      by_cases hi : i < 5
      rotate_left
      · simp only [show ¬ ((i : Int) < 5) by omega, decide_false, cond_false, w64_up (show k < 4294967296 by omega)]
        exact hg (n - 1) _ (by omega) ⟨k + 1, z, rfl, by omega, hz, hzb⟩
      simp only [za4 hi, decide_true, cond_true, w64_up (show i < 4294967296 by omega)]
      obtain ⟨W1, c, h1, h2⟩ := tell_ok (f := f) hz hi (by omega)
      rw [h1, Option.bind_some]
      obtain ⟨N4, h3, h4, h5⟩ := all_ok (f := f) h2 hf
      simp only
      rw [h3, Option.bind_some]
      exact hg' (m - 1) _ (by omega) ⟨i + 1, (N4, z.2.1, [], z.2.2.2.1, ()), rfl, by omega, h4, by show bc N4 = _; omega⟩
    refine Ret.loop (fun n v => ∃ (k : Nat) (x : NetY), v = ((k : Int), x.1, x.2.1, x.2.2.1, x.2.2.2.1) ∧ k + n = 5 ∧ NetK x ∧ bc x.1 = bc N + 1) ?_ f 5 _ ⟨0, (N2, L, [], P, ()), rfl, rfl, hT2, hbc⟩ (by omega)
    rintro n v g ⟨k, x, rfl, hkn, hx, hxb⟩ hg
    show Ret (ziy f _ _ g _) _
    unfold ziy
    by_cases hk : k < 5
    rotate_left
    · simp only [show ¬ ((k : Int) < 5) by omega, decide_false, cond_false]
      exact tells x hx hxb
    simp only [za4 hk, decide_true, cond_true]
    refine Ret.loop (step := zkU f g) (fun n v => ∃ (i : Nat) (x : NetY), v = ((i : Int), (k : Int), x.1, x.2.1, x.2.2.1, x.2.2.2.1) ∧ i + n = 5 ∧ NetK x ∧ bc x.1 = bc N + 1) ?_ f 5 _ ⟨0, x, rfl, rfl, hx, hxb⟩ (by omega)
    rintro m v g' ⟨i, z, rfl, him, hz, hzb⟩ hg'
    show Ret (ziv f g g' _) _
    unfold ziv
    by_cases hi : i < 5
    rotate_left
    · simp only [show ¬ ((i : Int) < 5) by omega, decide_false, cond_false, w64_up (show k < 4294967296 by omega)]
      exact hg (n - 1) _ (by omega) ⟨k + 1, z, rfl, by omega, hz, hzb⟩
    simp only [za4 hi, decide_true, cond_true, w64_up (show i < 4294967296 by omega)]
    obtain ⟨W1, c, h1, h2⟩ := zrS (f := f) hz hi (by omega)
    rw [h1, Option.bind_some]
    obtain ⟨N4, h3, h4, h5⟩ := all_ok (f := f) h2 hf
    simp only
    rw [h3, Option.bind_some]
    exact hg' (m - 1) _ (by omega) ⟨i + 1, (N4, z.2.1, [], z.2.2.2.1, ()), rfl, by omega, h4, by show bc N4 = _; omega⟩
  obtain ⟨r, h1, x, h2, h3⟩ := key
  exact ⟨x, by rw [h1, h2], h3⟩
end
end Go.Proofs.Ytljojacnjjgceaa.Den
namespace Go.Proofs.Ytljojacnjjgceaa.Den
open Go Go.RowKit
abbrev zb5 := Option (((List Int) × (Int × Unit)) × (((List Int) × Unit) × Unit))
def zge (fuel : Nat) : Tab := Tab.of [(20, (zbK fuel).te)] []
def zpr : List Norm := [{ live := [4, 0, 3], fix := [(3, none, I6, true)] }]
noncomputable def ziB : C := irOf Try.prog Try.f24 [] zpr []
def zgf : List (Nat × Option (Nat × Bool)) := [(2, none)]
abbrev zxv : Sx := .nil
abbrev zxw : Sx := .grp (.dat (Kd.list I6) .nil) .nil
abbrev zxx : Rt := .cells (.dat (Kd.list (Kd.int IntKind.u8)) (.dat I6 .nil))
abbrev zbD : LF := .ref zxx zxv zxw false
abbrev zdy := (Int) × (List Int) × (Int) × (List Int)
def zps (v : zdy) : Env × Heap := ([(4, SV.int .i64 v.1), (0, SV.ptr 0 0), (3, SV.own 1)], [Blk.cells [SV.es (Kd.int IntKind.u8) v.2.1, SV.int .i64 v.2.2.1] 0 2, Blk.arr I6 v.2.2.2 0])
def zkY (fuel : Nat) (g0 : zdy → zb5) (v : zdy) : zb5 :=
 cond (decide (v.1 < (5 : Int)))
 (Option.bind (zb fuel ((v.2.1, v.2.2.1, ()), ((8 : Int), ()), ())) fun y_2 =>
 cond (decide (y_2.2.1.1 > (0 : Int)))
 (Option.bind (zb fuel ((y_2.1.1, y_2.1.2.1, ()), (v.1, ()), ())) fun y_4 =>
 tst (decide (List.length v.2.2.2 + 2 < LIM)) <|
 Option.bind (zb fuel ((y_4.1.1, y_4.1.2.1, ()), ((3 : Int), ()), ())) fun y_5 =>
 cond (y_5.2.1.1 == (0 : Int))
 (Option.bind (zb fuel ((y_5.1.1, y_5.1.2.1, ()), ((5 : Int), ()), ())) fun y_7 =>
 cond (y_7.2.1.1 != v.1)
 (tst (decide (List.length (v.2.2.2 ++ [v.1, y_4.2.1.1]) + 2 < LIM)) <|
 g0 (w64 (v.1 + (1 : Int)), y_7.1.1, y_7.1.2.1, v.2.2.2 ++ [v.1, y_4.2.1.1] ++ [v.1, y_7.2.1.1]))
 (g0 (w64 (v.1 + (1 : Int)), y_7.1.1, y_7.1.2.1, v.2.2.2 ++ [v.1, y_4.2.1.1])))
 (g0 (w64 (v.1 + (1 : Int)), y_5.1.1, y_5.1.2.1, v.2.2.2 ++ [v.1, y_4.2.1.1])))
 (Option.bind (zb fuel ((y_2.1.1, y_2.1.2.1, ()), ((3 : Int), ()), ())) fun y_4 =>
 cond (y_4.2.1.1 == (0 : Int))
 (Option.bind (zb fuel ((y_4.1.1, y_4.1.2.1, ()), ((5 : Int), ()), ())) fun y_6 =>
 cond (y_6.2.1.1 != v.1)
 (tst (decide (List.length v.2.2.2 + 2 < LIM)) <|
 g0 (w64 (v.1 + (1 : Int)), y_6.1.1, y_6.1.2.1, v.2.2.2 ++ [v.1, y_6.2.1.1]))
 (g0 (w64 (v.1 + (1 : Int)), y_6.1.1, y_6.1.2.1, v.2.2.2)))
 (g0 (w64 (v.1 + (1 : Int)), y_4.1.1, y_4.1.2.1, v.2.2.2))))
 (some (((v.2.1, v.2.2.1, ()), (v.2.2.2, ()), ())))
def zkZ (fuel : Nat) (g0 : zdy → zb5) : zdy → zb5 := zkY fuel g0
theorem zxy (fuel : Nat) (G) : ziB.lp (zge fuel) 1 fuel G (endX zgf zbD) 0 zps = iter (zkZ fuel) fuel := C.lp_iter fun g v => by kernel_rfl
def zpt (fuel : Nat) (X0 : zdy → zb5) (d0 : List Int) (d1 : Int) : zb5 :=
 X0 ((1 : Int), d0, d1, [])
def ziC (fuel : Nat) (z : (((List Int) × (Int × Unit)) × Unit)) : zb5 := zpt fuel (iter (zkZ fuel) fuel) z.1.1 z.1.2.1
theorem zxz (fuel : Nat) (xa : zbD.rt.T) (xd : zbD.D.T) : zbD.go (zge fuel) fuel ziB zgf xa xd = ziC fuel (zbD.xb (xa, xd)) :=
  (show zbD.go (zge fuel) fuel ziB zgf xa xd = zpt fuel (ziB.lp (zge fuel) 1 fuel (fun _ _ _ => none) (endX zgf zbD) 0 zps) xa.1 xa.2.1 by kernel_rfl).trans (by rw [zxy]; rfl)
abbrev zk0 (fuel : Nat) : LE := ⟨zbD, ziC fuel⟩
theorem zxA (fuel : Nat) : EntryOK Try.prog 24 (zk0 fuel).te := okF (T := zge fuel) (fn := Try.f24) (le := zk0 fuel) (frz := []) (ann := zpr) (cuts := []) (rv := zgf) (TabOK.of (entCons (zex fuel) entNil) (methNil)) mixed (by kernel_rfl) (by kernel_rfl) (by kernel_rfl) (fun _ => rfl) (fun _ => rfl) (fun xa xd y h => ⟨fuel, (zxz fuel xa xd).trans h⟩)
def zpu (fuel : Nat) : Tab := Tab.of [(20, (zbK fuel).te)] []
def zpv : List Norm := []
noncomputable def zxB : C := irOf Try.prog Try.f32 [58, 61, 62] zpv []
def zpw : List (Nat × Option (Nat × Bool)) := [(2, some (3, true))]
abbrev zxC : Sx := .nil
abbrev zxD : Sx := .agg (.dat I6 (.dat I6 (.dat I6 .nil))) .nil
abbrev zxE : Rt := .cells (.dat (Kd.list (Kd.int IntKind.u8)) (.dat I6 .nil))
abbrev zgg : LF := .ref zxE zxC zxD false
def zk1 (fuel : Nat) (d0 : List Int) (d1 : Int) : Option (((List Int) × (Int × Unit)) × ((Int × (Int × (Int × Unit))) × Unit)) :=
 Option.bind (zb fuel ((d0, d1, ()), ((20 : Int), ()), ())) fun y_1 =>
 cond (y_1.2.1.1 == (0 : Int))
 (Option.bind (zb fuel ((y_1.1.1, y_1.1.2.1, ()), ((5 : Int), ()), ())) fun y_3 =>
 Option.bind (zb fuel ((y_3.1.1, y_3.1.2.1, ()), ((64 : Int), ()), ())) fun y_4 =>
 Option.bind (zb fuel ((y_4.1.1, y_4.1.2.1, ()), ((5 : Int), ()), ())) fun y_5 =>
 tst (decide (0 ≤ y_5.2.1.1)) <|
 tst (decide (y_5.2.1.1 < (zz 5))) <|
 tst (decide (Int.toNat y_5.2.1.1 < 5)) <|
 some (((y_5.1.1, y_5.1.2.1, ()), ((1 : Int), y_3.2.1.1, List.getD [(3 : Int), (5 : Int), (9 : Int), (17 : Int), y_4.2.1.1] (Int.toNat y_5.2.1.1) 0, ()), ())))
 (cond (y_1.2.1.1 == (1 : Int))
 (Option.bind (zb fuel ((y_1.1.1, y_1.1.2.1, ()), ((5 : Int), ()), ())) fun y_4 =>
 Option.bind (zb fuel ((y_4.1.1, y_4.1.2.1, ()), ((64 : Int), ()), ())) fun y_5 =>
 Option.bind (zb fuel ((y_5.1.1, y_5.1.2.1, ()), ((5 : Int), ()), ())) fun y_6 =>
 tst (decide (0 ≤ y_6.2.1.1)) <|
 tst (decide (y_6.2.1.1 < (zz 5))) <|
 tst (decide (Int.toNat y_6.2.1.1 < 5)) <|
 some (((y_6.1.1, y_6.1.2.1, ()), ((1 : Int), y_4.2.1.1, List.getD [(3 : Int), (5 : Int), (9 : Int), (17 : Int), y_5.2.1.1] (Int.toNat y_6.2.1.1) 0, ()), ())))
 (cond (y_1.2.1.1 == (2 : Int))
 (Option.bind (zb fuel ((y_1.1.1, y_1.1.2.1, ()), ((5 : Int), ()), ())) fun y_5 =>
 Option.bind (zb fuel ((y_5.1.1, y_5.1.2.1, ()), ((64 : Int), ()), ())) fun y_6 =>
 Option.bind (zb fuel ((y_6.1.1, y_6.1.2.1, ()), ((5 : Int), ()), ())) fun y_7 =>
 tst (decide (0 ≤ y_7.2.1.1)) <|
 tst (decide (y_7.2.1.1 < (zz 5))) <|
 tst (decide (Int.toNat y_7.2.1.1 < 5)) <|
 some (((y_7.1.1, y_7.1.2.1, ()), ((1 : Int), y_5.2.1.1, List.getD [(3 : Int), (5 : Int), (9 : Int), (17 : Int), y_6.2.1.1] (Int.toNat y_7.2.1.1) 0, ()), ())))
 (cond (y_1.2.1.1 == (3 : Int))
 (Option.bind (zb fuel ((y_1.1.1, y_1.1.2.1, ()), ((5 : Int), ()), ())) fun y_6 =>
 Option.bind (zb fuel ((y_6.1.1, y_6.1.2.1, ()), ((64 : Int), ()), ())) fun y_7 =>
 Option.bind (zb fuel ((y_7.1.1, y_7.1.2.1, ()), ((5 : Int), ()), ())) fun y_8 =>
 tst (decide (0 ≤ y_8.2.1.1)) <|
 tst (decide (y_8.2.1.1 < (zz 5))) <|
 tst (decide (Int.toNat y_8.2.1.1 < 5)) <|
 some (((y_8.1.1, y_8.1.2.1, ()), ((1 : Int), y_6.2.1.1, List.getD [(3 : Int), (5 : Int), (9 : Int), (17 : Int), y_7.2.1.1] (Int.toNat y_8.2.1.1) 0, ()), ())))
 (cond (y_1.2.1.1 == (4 : Int))
 (Option.bind (zb fuel ((y_1.1.1, y_1.1.2.1, ()), ((5 : Int), ()), ())) fun y_7 =>
 some (((y_7.1.1, y_7.1.2.1, ()), ((2 : Int), y_7.2.1.1, (0 : Int), ()), ())))
 (cond (y_1.2.1.1 == (5 : Int))
 (Option.bind (zb fuel ((y_1.1.1, y_1.1.2.1, ()), ((5 : Int), ()), ())) fun y_8 =>
 some (((y_8.1.1, y_8.1.2.1, ()), ((2 : Int), y_8.2.1.1, (0 : Int), ()), ())))
 (cond (y_1.2.1.1 == (6 : Int))
 (Option.bind (zb fuel ((y_1.1.1, y_1.1.2.1, ()), ((5 : Int), ()), ())) fun y_9 =>
 some (((y_9.1.1, y_9.1.2.1, ()), ((2 : Int), y_9.2.1.1, (0 : Int), ()), ())))
 (cond (y_1.2.1.1 == (7 : Int))
 (Option.bind (zb fuel ((y_1.1.1, y_1.1.2.1, ()), ((5 : Int), ()), ())) fun y_10 =>
 some (((y_10.1.1, y_10.1.2.1, ()), ((3 : Int), y_10.2.1.1, (0 : Int), ()), ())))
 (cond (y_1.2.1.1 == (8 : Int))
 (Option.bind (zb fuel ((y_1.1.1, y_1.1.2.1, ()), ((5 : Int), ()), ())) fun y_11 =>
 some (((y_11.1.1, y_11.1.2.1, ()), ((3 : Int), y_11.2.1.1, (0 : Int), ()), ())))
 (cond (y_1.2.1.1 == (9 : Int))
 (Option.bind (zb fuel ((y_1.1.1, y_1.1.2.1, ()), ((5 : Int), ()), ())) fun y_12 =>
 some (((y_12.1.1, y_12.1.2.1, ()), ((3 : Int), y_12.2.1.1, (0 : Int), ()), ())))
 (cond (y_1.2.1.1 == (10 : Int))
 (Option.bind (zb fuel ((y_1.1.1, y_1.1.2.1, ()), ((4 : Int), ()), ())) fun y_13 =>
 some (((y_13.1.1, y_13.1.2.1, ()), ((4 : Int), y_13.2.1.1, (0 : Int), ()), ())))
 (cond (y_1.2.1.1 == (11 : Int))
 (Option.bind (zb fuel ((y_1.1.1, y_1.1.2.1, ()), ((4 : Int), ()), ())) fun y_14 =>
 some (((y_14.1.1, y_14.1.2.1, ()), ((4 : Int), y_14.2.1.1, (0 : Int), ()), ())))
 (cond (y_1.2.1.1 == (12 : Int))
 (Option.bind (zb fuel ((y_1.1.1, y_1.1.2.1, ()), ((4 : Int), ()), ())) fun y_15 =>
 some (((y_15.1.1, y_15.1.2.1, ()), ((4 : Int), y_15.2.1.1, (0 : Int), ()), ())))
 (cond (y_1.2.1.1 == (13 : Int))
 (Option.bind (zb fuel ((y_1.1.1, y_1.1.2.1, ()), ((4 : Int), ()), ())) fun y_16 =>
 some (((y_16.1.1, y_16.1.2.1, ()), ((4 : Int), y_16.2.1.1, (0 : Int), ()), ())))
 (cond (y_1.2.1.1 == (14 : Int))
 (Option.bind (zb fuel ((y_1.1.1, y_1.1.2.1, ()), ((4 : Int), ()), ())) fun y_17 =>
 some (((y_17.1.1, y_17.1.2.1, ()), ((4 : Int), y_17.2.1.1, (0 : Int), ()), ())))
 (cond (y_1.2.1.1 == (15 : Int))
 (Option.bind (zb fuel ((y_1.1.1, y_1.1.2.1, ()), ((5 : Int), ()), ())) fun y_18 =>
 some (((y_18.1.1, y_18.1.2.1, ()), ((5 : Int), y_18.2.1.1, (0 : Int), ()), ())))
 (cond (y_1.2.1.1 == (16 : Int))
 (Option.bind (zb fuel ((y_1.1.1, y_1.1.2.1, ()), ((6 : Int), ()), ())) fun y_19 =>
 some (((y_19.1.1, y_19.1.2.1, ()), ((6 : Int), y_19.2.1.1, (0 : Int), ()), ())))
 (cond (y_1.2.1.1 == (17 : Int))
 (some (((y_1.1.1, y_1.1.2.1, ()), ((8 : Int), (0 : Int), (0 : Int), ()), ())))
 (cond (y_1.2.1.1 == (18 : Int))
 (Option.bind (zb fuel ((y_1.1.1, y_1.1.2.1, ()), ((3 : Int), ()), ())) fun y_21 =>
 tst (decide (0 ≤ y_21.2.1.1)) <|
 tst (decide (y_21.2.1.1 < (zz 3))) <|
 Option.bind (zb fuel ((y_21.1.1, y_21.1.2.1, ()), ((5 : Int), ()), ())) fun y_22 =>
 Option.bind (zb fuel ((y_22.1.1, y_22.1.2.1, ()), ((5 : Int), ()), ())) fun y_23 =>
 some (((y_23.1.1, y_23.1.2.1, ()), (List.getD [(9 : Int), (10 : Int), (10 : Int)] (Int.toNat y_21.2.1.1) 0, y_22.2.1.1, y_23.2.1.1, ()), ())))
 (Option.bind (zb fuel ((y_1.1.1, y_1.1.2.1, ()), ((5 : Int), ()), ())) fun y_21 =>
 some (((y_21.1.1, y_21.1.2.1, ()), ((7 : Int), y_21.2.1.1, (0 : Int), ()), ())))))))))))))))))))))
def ziD (fuel : Nat) (z : (((List Int) × (Int × Unit)) × Unit)) : Option (((List Int) × (Int × Unit)) × ((Int × (Int × (Int × Unit))) × Unit)) := zk1 fuel z.1.1 z.1.2.1
theorem zxF (fuel : Nat) (xa : zgg.rt.T) (xd : zgg.D.T) : zgg.go (zpu fuel) fuel zxB zpw xa xd = ziD fuel (zgg.xb (xa, xd)) := by kernel_rfl
abbrev zk2 (fuel : Nat) : LE := ⟨zgg, ziD fuel⟩
theorem zxG (fuel : Nat) : EntryOK Try.prog 32 (zk2 fuel).te := okF (T := zpu fuel) (fn := Try.f32) (le := zk2 fuel) (frz := [58, 61, 62]) (ann := zpv) (cuts := []) (rv := zpw) (TabOK.of (entCons (zex fuel) entNil) (methNil)) mixed (by kernel_rfl) (by kernel_rfl) (by kernel_rfl) (fun _ => rfl) (fun _ => rfl) (fun xa xd y h => ⟨fuel, (zxF fuel xa xd).trans h⟩)
abbrev zb6 := Option (((List Int) × (Int × Unit)) × (((List (Int × (Int × (Int × Unit)))) × Unit) × Unit))
def zgh (fuel : Nat) : Tab := Tab.of [(20, (zbK fuel).te), (32, (zk2 fuel).te)] []
def zpx : List Norm := [{ live := [6, 5, 0], fix := [(5, none, Kd.pair I6 KP, true)] }]
noncomputable def ziE : C := irOf Try.prog Try.f26 [] zpx []
def zgi : List (Nat × Option (Nat × Bool)) := [(4, none)]
abbrev zxH : Sx := .grp (.dat I6 .nil) .nil
abbrev zxI : Sx := .grp (.dat (Kd.list (Kd.pair I6 KP)) .nil) .nil
abbrev zxJ : Rt := .cells (.dat (Kd.list (Kd.int IntKind.u8)) (.dat I6 .nil))
abbrev zbE : LF := .ref zxJ zxH zxI false
abbrev zdz := (Int) × (List Int) × (Int) × (List (Int × Int × Int × Unit))
def zpy (v : zdz) : Env × Heap := ([(6, SV.int .i64 v.1), (5, SV.own 1), (0, SV.ptr 0 0)], [Blk.cells [SV.es (Kd.int IntKind.u8) v.2.1, SV.int .i64 v.2.2.1] 0 2, Blk.arr (Kd.pair I6 KP) v.2.2.2 0])
def zk3 (fuel : Nat) (g0 : zdz → zb6) (v : zdz) : zb6 :=
 cond (decide (v.1 > (0 : Int)))
 (Option.bind (ziD fuel ((v.2.1, v.2.2.1, ()), ())) fun y_2 =>
 tst (decide (List.length v.2.2.2 + 1 < LIM)) <|
 g0 (w64 (v.1 - (1 : Int)), y_2.1.1, y_2.1.2.1, v.2.2.2 ++ [(y_2.2.1.1, y_2.2.1.2.1, y_2.2.1.2.2.1, ())]))
 (some (((v.2.1, v.2.2.1, ()), (v.2.2.2, ()), ())))
def ziF (fuel : Nat) (g0 : zdz → zb6) : zdz → zb6 := zk3 fuel g0
theorem zxK (fuel : Nat) (G) : ziE.lp (zgh fuel) 1 fuel G (endX zgi zbE) 0 zpy = iter (ziF fuel) fuel := C.lp_iter fun g v => by kernel_rfl
def ziG (fuel : Nat) (X0 : zdz → zb6) (d0 : List Int) (d1 : Int) (x0 : Int) : zb6 :=
 Option.bind (zb fuel ((d0, d1, ()), ((2 : Int), ()), ())) fun y_1 =>
 cond (y_1.2.1.1 == (0 : Int))
 (Option.bind (zb fuel ((y_1.1.1, y_1.1.2.1, ()), (w64 (x0 + (1 : Int)), ()), ())) fun y_3 =>
 X0 (y_3.2.1.1, y_3.1.1, y_3.1.2.1, [] ++ [((2 : Int), (0 : Int), (0 : Int), ()), ((4 : Int), (0 : Int), (0 : Int), ()), ((2 : Int), (1 : Int), (0 : Int), ()), ((4 : Int), (0 : Int), (0 : Int), ())]))
 (Option.bind (zb fuel ((y_1.1.1, y_1.1.2.1, ()), (w64 (x0 + (1 : Int)), ()), ())) fun y_3 =>
 X0 (y_3.2.1.1, y_3.1.1, y_3.1.2.1, []))
def zgj (fuel : Nat) (z : (((List Int) × (Int × Unit)) × ((Int × Unit) × Unit))) : zb6 := ziG fuel (iter (ziF fuel) fuel) z.1.1 z.1.2.1 z.2.1.1
theorem zxL (fuel : Nat) (xa : zbE.rt.T) (xd : zbE.D.T) : zbE.go (zgh fuel) fuel ziE zgi xa xd = zgj fuel (zbE.xb (xa, xd)) :=
  (show zbE.go (zgh fuel) fuel ziE zgi xa xd = ziG fuel (ziE.lp (zgh fuel) 1 fuel (fun _ _ _ => none) (endX zgi zbE) 0 zpy) xa.1 xa.2.1 xd.1.1 by kernel_rfl).trans (by rw [zxK]; rfl)
abbrev zk4 (fuel : Nat) : LE := ⟨zbE, zgj fuel⟩
theorem zxM (fuel : Nat) : EntryOK Try.prog 26 (zk4 fuel).te := okF (T := zgh fuel) (fn := Try.f26) (le := zk4 fuel) (frz := []) (ann := zpx) (cuts := []) (rv := zgi) (TabOK.of (entCons (zex fuel) (entCons (zxG fuel) entNil)) (methNil)) mixed (by kernel_rfl) (by kernel_rfl) (by kernel_rfl) (fun _ => rfl) (fun _ => rfl) (fun xa xd y h => ⟨fuel, (zxL fuel xa xd).trans h⟩)
def zpz (fuel : Nat) : Tab := Tab.of [(20, (zbK fuel).te), (23, (zkv fuel).te), (24, (zk0 fuel).te), (25, (zkQ fuel).te), (26, (zk4 fuel).te), (27, (zkX fuel).te)] []
def zpA : List Norm := []
def zpB : List (Nat × Norm) := [(1000002, { live := [3, 0, 2], fix := [(3, some 0, KN, false), (3, some 1, Kd.bool, false), (3, some 2, KW, false), (3, some 3, Kd.list (Kd.list I6), false)] }), (1000004, { live := [5, 0, 2], fix := [(5, some 0, KN, false), (5, some 1, Kd.bool, false), (5, some 2, KW, false), (5, some 3, Kd.list (Kd.list I6), false)] }), (1000005, { live := [5, 0, 2], fix := [(5, some 0, KN, false), (5, some 1, Kd.bool, false), (5, some 2, KW, false), (5, some 3, Kd.list (Kd.list I6), false)] })]
noncomputable def zxN : C := irOf Try.prog Try.f19 [14, 32] zpA zpB
def zpC : List (Nat × Option (Nat × Bool)) := [(2, some (4, true))]
abbrev zxO : Sx := .nil
abbrev zxP : Sx := .agg (.own 1 KN (.own 0 Kd.bool (.own 0 KW (.own 2 (Kd.list (Kd.list I6)) .nil)))) .nil
abbrev zxQ : Rt := .cells (.dat (Kd.list (Kd.int IntKind.u8)) (.dat I6 .nil))
abbrev zgk : LF := .ref zxQ zxO zxP false
def zk5 (fuel : Nat) (d0 : List Int) (d1 : Int) : Option (((List Int) × (Int × Unit)) × (((List NY) × ((List Bool) × ((List WY) × ((List (List (List Int))) × Unit)))) × Unit)) :=
 Option.bind (ziC fuel ((d0, d1, ()), ())) fun y_1 =>
 Option.bind (zid fuel ((y_1.2.1.1, ()), ())) fun y_2 =>
 Option.bind (zgj fuel ((y_1.1.1, y_1.1.2.1, ()), ((40 : Int), ()), ())) fun y_3 =>
 Option.bind (zds fuel ((y_2.1.1, y_2.1.2.1, y_2.1.2.2.1, y_2.1.2.2.2.1, ()), (y_3.2.1.1, ()), ())) fun y_4 =>
 Option.bind (zb fuel ((y_3.1.1, y_3.1.2.1, ()), ((4 : Int), ()), ())) fun y_5 =>
 cond (y_5.2.1.1 == (0 : Int))
 (cond (y_4.2.1.1)
 (Option.bind (zgd fuel ((y_4.1.1, y_4.1.2.1, y_4.1.2.2.1, y_4.1.2.2.2.1, ()), ())) fun y_8 =>
 Option.bind (zgj fuel ((y_5.1.1, y_5.1.2.1, ()), ((12 : Int), ()), ())) fun y_9 =>
 Option.bind (zds fuel ((y_8.1.1, y_8.1.2.1, y_8.1.2.2.1, y_8.1.2.2.2.1, ()), (y_9.2.1.1, ()), ())) fun y_10 =>
 some (((y_9.1.1, y_9.1.2.1, ()), (y_10.1.1, y_10.1.2.1, y_10.1.2.2.1, y_10.1.2.2.2.1, ()), ())))
 (some (((y_5.1.1, y_5.1.2.1, ()), (y_4.1.1, y_4.1.2.1, y_4.1.2.2.1, y_4.1.2.2.2.1, ()), ()))))
 (some (((y_5.1.1, y_5.1.2.1, ()), (y_4.1.1, y_4.1.2.1, y_4.1.2.2.1, y_4.1.2.2.2.1, ()), ())))
def ziH (fuel : Nat) (z : (((List Int) × (Int × Unit)) × Unit)) : Option (((List Int) × (Int × Unit)) × (((List NY) × ((List Bool) × ((List WY) × ((List (List (List Int))) × Unit)))) × Unit)) := zk5 fuel z.1.1 z.1.2.1
theorem zxR (fuel : Nat) (xa : zgk.rt.T) (xd : zgk.D.T) : zgk.go (zpz fuel) fuel zxN zpC xa xd = ziH fuel (zgk.xb (xa, xd)) := by kernel_rfl
abbrev zk6 (fuel : Nat) : LE := ⟨zgk, ziH fuel⟩
theorem zxS (fuel : Nat) : EntryOK Try.prog 19 (zk6 fuel).te := okF (T := zpz fuel) (fn := Try.f19) (le := zk6 fuel) (frz := [14, 32]) (ann := zpA) (cuts := zpB) (rv := zpC) (TabOK.of (entCons (zex fuel) (entCons (zwa fuel) (entCons (zxA fuel) (entCons (zxg fuel) (entCons (zxM fuel) (entCons (zxu fuel) entNil)))))) (methNil)) mixed (by kernel_rfl) (by kernel_rfl) (by kernel_rfl) (fun _ => rfl) (fun _ => rfl) (fun xa xd y h => ⟨fuel, (zxR fuel xa xd).trans h⟩)
def zpD (fuel : Nat) : Tab := Tab.of [(19, (zk6 fuel).te), (20, (zbK fuel).te)] []
def zpE : List Norm := []
def zpF : List (Nat × Norm) := [(1000016, { live := [3, 4, 2], fix := [], op := [(3, 0, 4, none)] }), (1000006, { live := [3, 4, 0, 2], fix := [], op := [(3, 3, 4, none), (3, 1003, 1000001, none)] })]
noncomputable def zxT : C := irOf Try.prog Try.f11 [16, 18, 19, 21, 23, 24, 25, 26, 36, 38, 48, 57, 100, 116] zpE zpF
def zpG : List (Nat × Option (Nat × Bool)) := [(2, some (4, true))]
abbrev zxU : Sx := .nil
abbrev zxV : Sx := .agg (.own 1 KN (.own 0 Kd.bool (.own 0 KW (.own 2 (Kd.list (Kd.list I6)) .nil)))) .nil
abbrev zxW : Rt := .cells (.dat (Kd.list (Kd.int IntKind.u8)) (.dat I6 .nil))
abbrev zgl : LF := .ref zxW zxU zxV false
def zk7 (fuel : Nat) (d0 : List Int) (d1 : Int) : Option (((List Int) × (Int × Unit)) × (((List NY) × ((List Bool) × ((List WY) × ((List (List (List Int))) × Unit)))) × Unit)) :=
 Option.bind (ziH fuel ((d0, d1, ()), ())) fun y_1 =>
 Option.bind (zb fuel ((y_1.1.1, y_1.1.2.1, ()), ((14 : Int), ()), ())) fun y_2 =>
 cond (decide (y_2.2.1.1 > (0 : Int)))
 (some (((y_2.1.1, y_2.1.2.1, ()), (y_1.2.1.1, y_1.2.1.2.1, y_1.2.1.2.2.1, y_1.2.1.2.2.2.1, ()), ())))
 (Option.bind (zb fuel ((y_2.1.1, y_2.1.2.1, ()), ((5 : Int), ()), ())) fun y_4 =>
 Option.bind (zb fuel ((y_4.1.1, y_4.1.2.1, ()), ((8 : Int), ()), ())) fun y_5 =>
 cond (y_5.2.1.1 == (0 : Int))
 (Option.bind (zb fuel ((y_5.1.1, y_5.1.2.1, ()), ((3 : Int), ()), ())) fun y_7 =>
 tst (decide (0 ≤ y_7.2.1.1)) <|
 tst (decide (y_7.2.1.1 < (zz 3))) <|
 tst (decide (0 ≤ y_4.2.1.1)) <|
 tst (decide (y_4.2.1.1 < (zz (List.length y_1.2.1.1)))) <|
 tst (decide (Int.toNat y_4.2.1.1 < List.length y_1.2.1.1)) <|
 some (((y_7.1.1, y_7.1.2.1, ()), (List.set y_1.2.1.1 (Int.toNat y_4.2.1.1) (List.getD [(0 : Int), (21 : Int), (2 : Int)] (Int.toNat y_7.2.1.1) 0, (List.getD y_1.2.1.1 (Int.toNat y_4.2.1.1) (0, ([], (0, (0, (0, ())))))).2.1, (List.getD y_1.2.1.1 (Int.toNat y_4.2.1.1) (0, ([], (0, (0, (0, ())))))).2.2.1, (List.getD y_1.2.1.1 (Int.toNat y_4.2.1.1) (0, ([], (0, (0, (0, ())))))).2.2.2.1, (List.getD y_1.2.1.1 (Int.toNat y_4.2.1.1) (0, ([], (0, (0, (0, ())))))).2.2.2.2.1, ()), y_1.2.1.2.1, y_1.2.1.2.2.1, y_1.2.1.2.2.2.1, ()), ())))
 (cond (y_5.2.1.1 == (1 : Int))
 (Option.bind (zb fuel ((y_5.1.1, y_5.1.2.1, ()), ((7 : Int), ()), ())) fun y_8 =>
 tst (decide (0 ≤ y_4.2.1.1)) <|
 tst (decide (y_4.2.1.1 < (zz (List.length y_1.2.1.1)))) <|
 tst (decide (Int.toNat y_4.2.1.1 < List.length y_1.2.1.1)) <|
 some (((y_8.1.1, y_8.1.2.1, ()), (List.set y_1.2.1.1 (Int.toNat y_4.2.1.1) ((List.getD y_1.2.1.1 (Int.toNat y_4.2.1.1) (0, ([], (0, (0, (0, ())))))).1, (List.getD y_1.2.1.1 (Int.toNat y_4.2.1.1) (0, ([], (0, (0, (0, ())))))).2.1, (List.getD y_1.2.1.1 (Int.toNat y_4.2.1.1) (0, ([], (0, (0, (0, ())))))).2.2.1, y_8.2.1.1, (List.getD y_1.2.1.1 (Int.toNat y_4.2.1.1) (0, ([], (0, (0, (0, ())))))).2.2.2.2.1, ()), y_1.2.1.2.1, y_1.2.1.2.2.1, y_1.2.1.2.2.2.1, ()), ())))
 (cond (y_5.2.1.1 == (2 : Int))
 (Option.bind (zb fuel ((y_5.1.1, y_5.1.2.1, ()), ((7 : Int), ()), ())) fun y_9 =>
 tst (decide (0 ≤ y_4.2.1.1)) <|
 tst (decide (y_4.2.1.1 < (zz (List.length y_1.2.1.1)))) <|
 tst (decide (Int.toNat y_4.2.1.1 < List.length y_1.2.1.1)) <|
 some (((y_9.1.1, y_9.1.2.1, ()), (List.set y_1.2.1.1 (Int.toNat y_4.2.1.1) ((List.getD y_1.2.1.1 (Int.toNat y_4.2.1.1) (0, ([], (0, (0, (0, ())))))).1, (List.getD y_1.2.1.1 (Int.toNat y_4.2.1.1) (0, ([], (0, (0, (0, ())))))).2.1, (List.getD y_1.2.1.1 (Int.toNat y_4.2.1.1) (0, ([], (0, (0, (0, ())))))).2.2.1, (List.getD y_1.2.1.1 (Int.toNat y_4.2.1.1) (0, ([], (0, (0, (0, ())))))).2.2.2.1, w64 (y_9.2.1.1 - (1 : Int)), ()), y_1.2.1.2.1, y_1.2.1.2.2.1, y_1.2.1.2.2.2.1, ()), ())))
 (cond (y_5.2.1.1 == (3 : Int))
 (tst (decide ((0 : Int) < (zz (List.length y_1.2.1.1)))) <|
 tst (decide (Int.toNat (0 : Int) < List.length y_1.2.1.1)) <|
 tst (decide (0 ≤ y_4.2.1.1)) <|
 tst (decide (y_4.2.1.1 < (zz (List.length y_1.2.1.1)))) <|
 tst (decide (Int.toNat y_4.2.1.1 < List.length y_1.2.1.1)) <|
 some (((y_5.1.1, y_5.1.2.1, ()), (List.set y_1.2.1.1 (Int.toNat y_4.2.1.1) ((List.getD y_1.2.1.1 (Int.toNat y_4.2.1.1) (0, ([], (0, (0, (0, ())))))).1, (List.getD y_1.2.1.1 (Int.toNat y_4.2.1.1) (0, ([], (0, (0, (0, ())))))).2.1, w64 ((List.getD y_1.2.1.1 (Int.toNat (0 : Int)) (0, ([], (0, (0, (0, ())))))).2.2.1 + (1 : Int)), (List.getD y_1.2.1.1 (Int.toNat y_4.2.1.1) (0, ([], (0, (0, (0, ())))))).2.2.2.1, (List.getD y_1.2.1.1 (Int.toNat y_4.2.1.1) (0, ([], (0, (0, (0, ())))))).2.2.2.2.1, ()), y_1.2.1.2.1, y_1.2.1.2.2.1, y_1.2.1.2.2.2.1, ()), ())))
 (cond (y_5.2.1.1 == (4 : Int))
 (tst (decide (0 ≤ y_4.2.1.1)) <|
 tst (decide (Int.toNat y_4.2.1.1 < List.length y_1.2.1.1)) <|
 tst (decide (0 ≤ y_4.2.1.1)) <|
 tst (decide (y_4.2.1.1 < (zz (List.length y_1.2.1.1)))) <|
 tst (decide (Int.toNat y_4.2.1.1 = Int.toNat y_4.2.1.1)) <|
 tst (decide (0 ≤ y_4.2.1.1)) <|
 tst (decide (y_4.2.1.1 < (zz (List.length y_1.2.1.1)))) <|
 tst (decide (Int.toNat y_4.2.1.1 = Int.toNat y_4.2.1.1)) <|
 tst (decide ((0 : Int) < (zz (List.length (List.getD y_1.2.1.1 (Int.toNat y_4.2.1.1) (0, ([], (0, (0, (0, ())))))).2.1)))) <|
 tst (decide (Int.toNat (0 : Int) < List.length (List.getD y_1.2.1.1 (Int.toNat y_4.2.1.1) (0, ([], (0, (0, (0, ())))))).2.1)) <|
 tst (decide ((0 : Int) < (zz (List.length (List.getD y_1.2.1.1 (Int.toNat y_4.2.1.1) (0, ([], (0, (0, (0, ())))))).2.1)))) <|
 tst (decide (Int.toNat (0 : Int) < List.length (List.getD y_1.2.1.1 (Int.toNat y_4.2.1.1) (0, ([], (0, (0, (0, ())))))).2.1)) <|
 some (((y_5.1.1, y_5.1.2.1, ()), (List.set y_1.2.1.1 (Int.toNat y_4.2.1.1) ((List.getD y_1.2.1.1 (Int.toNat y_4.2.1.1) (0, ([], (0, (0, (0, ())))))).1, List.set (List.getD y_1.2.1.1 (Int.toNat y_4.2.1.1) (0, ([], (0, (0, (0, ())))))).2.1 (Int.toNat (0 : Int)) ((List.getD (List.getD y_1.2.1.1 (Int.toNat y_4.2.1.1) (0, ([], (0, (0, (0, ())))))).2.1 (Int.toNat (0 : Int)) (0, (0, (0, ((([], ()), (([], ()), (([], (0, (0, ()))), (([], (0, ())), ())))), ()))))).1, (List.getD (List.getD y_1.2.1.1 (Int.toNat y_4.2.1.1) (0, ([], (0, (0, (0, ())))))).2.1 (Int.toNat (0 : Int)) (0, (0, (0, ((([], ()), (([], ()), (([], (0, (0, ()))), (([], (0, ())), ())))), ()))))).2.1, w64 ((List.getD (List.getD y_1.2.1.1 (Int.toNat y_4.2.1.1) (0, ([], (0, (0, (0, ())))))).2.1 (Int.toNat (0 : Int)) (0, (0, (0, ((([], ()), (([], ()), (([], (0, (0, ()))), (([], (0, ())), ())))), ()))))).2.2.1 + (1 : Int)), (((List.getD (List.getD y_1.2.1.1 (Int.toNat y_4.2.1.1) (0, ([], (0, (0, (0, ())))))).2.1 (Int.toNat (0 : Int)) (0, (0, (0, ((([], ()), (([], ()), (([], (0, (0, ()))), (([], (0, ())), ())))), ()))))).2.2.2.1.1.1, ()), ((List.getD (List.getD y_1.2.1.1 (Int.toNat y_4.2.1.1) (0, ([], (0, (0, (0, ())))))).2.1 (Int.toNat (0 : Int)) (0, (0, (0, ((([], ()), (([], ()), (([], (0, (0, ()))), (([], (0, ())), ())))), ()))))).2.2.2.1.2.1.1, ()), ((List.getD (List.getD y_1.2.1.1 (Int.toNat y_4.2.1.1) (0, ([], (0, (0, (0, ())))))).2.1 (Int.toNat (0 : Int)) (0, (0, (0, ((([], ()), (([], ()), (([], (0, (0, ()))), (([], (0, ())), ())))), ()))))).2.2.2.1.2.2.1.1, (List.getD (List.getD y_1.2.1.1 (Int.toNat y_4.2.1.1) (0, ([], (0, (0, (0, ())))))).2.1 (Int.toNat (0 : Int)) (0, (0, (0, ((([], ()), (([], ()), (([], (0, (0, ()))), (([], (0, ())), ())))), ()))))).2.2.2.1.2.2.1.2.1, (List.getD (List.getD y_1.2.1.1 (Int.toNat y_4.2.1.1) (0, ([], (0, (0, (0, ())))))).2.1 (Int.toNat (0 : Int)) (0, (0, (0, ((([], ()), (([], ()), (([], (0, (0, ()))), (([], (0, ())), ())))), ()))))).2.2.2.1.2.2.1.2.2.1, ()), ((List.getD (List.getD y_1.2.1.1 (Int.toNat y_4.2.1.1) (0, ([], (0, (0, (0, ())))))).2.1 (Int.toNat (0 : Int)) (0, (0, (0, ((([], ()), (([], ()), (([], (0, (0, ()))), (([], (0, ())), ())))), ()))))).2.2.2.1.2.2.2.1.1, (List.getD (List.getD y_1.2.1.1 (Int.toNat y_4.2.1.1) (0, ([], (0, (0, (0, ())))))).2.1 (Int.toNat (0 : Int)) (0, (0, (0, ((([], ()), (([], ()), (([], (0, (0, ()))), (([], (0, ())), ())))), ()))))).2.2.2.1.2.2.2.1.2.1, ()), ()), ()), (List.getD y_1.2.1.1 (Int.toNat y_4.2.1.1) (0, ([], (0, (0, (0, ())))))).2.2.1, (List.getD y_1.2.1.1 (Int.toNat y_4.2.1.1) (0, ([], (0, (0, (0, ())))))).2.2.2.1, (List.getD y_1.2.1.1 (Int.toNat y_4.2.1.1) (0, ([], (0, (0, (0, ())))))).2.2.2.2.1, ()), y_1.2.1.2.1, y_1.2.1.2.2.1, y_1.2.1.2.2.2.1, ()), ())))
 (cond (y_5.2.1.1 == (5 : Int))
 (Option.bind (zb fuel ((y_5.1.1, y_5.1.2.1, ()), ((4 : Int), ()), ())) fun y_12 =>
 Option.bind (zb fuel ((y_12.1.1, y_12.1.2.1, ()), ((6 : Int), ()), ())) fun y_13 =>
 Option.bind (zb fuel ((y_13.1.1, y_13.1.2.1, ()), ((6 : Int), ()), ())) fun y_14 =>
 Option.bind (zb fuel ((y_14.1.1, y_14.1.2.1, ()), ((6 : Int), ()), ())) fun y_15 =>
 tst (decide (List.length y_1.2.1.2.2.1 + 1 < LIM)) <|
 some (((y_15.1.1, y_15.1.2.1, ()), (y_1.2.1.1, y_1.2.1.2.1, y_1.2.1.2.2.1 ++ [(y_12.2.1.1, y_13.2.1.1, y_14.2.1.1, (0 : Int), y_15.2.1.1, [], ())], y_1.2.1.2.2.2.1, ()), ())))
 (cond (y_5.2.1.1 == (6 : Int))
 (Option.bind (zb fuel ((y_5.1.1, y_5.1.2.1, ()), ((25 : Int), ()), ())) fun y_13 =>
 tst (decide (0 ≤ y_13.2.1.1)) <|
 tst (decide (y_13.2.1.1 < (zz (List.length y_1.2.1.2.1)))) <|
 tst (decide (Int.toNat y_13.2.1.1 < List.length y_1.2.1.2.1)) <|
 some (((y_13.1.1, y_13.1.2.1, ()), (y_1.2.1.1, List.set y_1.2.1.2.1 (Int.toNat y_13.2.1.1) true, y_1.2.1.2.2.1, y_1.2.1.2.2.2.1, ()), ())))
 (tst (decide (0 ≤ y_4.2.1.1)) <|
 tst (decide (Int.toNat y_4.2.1.1 < List.length y_1.2.1.2.2.2.1)) <|
 tst (decide (Int.toNat (zz (1000001 - 1000000)) < List.length (List.getD y_1.2.1.2.2.2.1 (Int.toNat y_4.2.1.1) []))) <|
 tst (decide (0 ≤ y_4.2.1.1)) <|
 tst (decide (y_4.2.1.1 < (zz (List.length y_1.2.1.2.2.2.1)))) <|
 tst (decide (Int.toNat y_4.2.1.1 = Int.toNat y_4.2.1.1)) <|
 tst (decide (0 ≤ y_4.2.1.1)) <|
 tst (decide (y_4.2.1.1 < (zz (List.length y_1.2.1.2.2.2.1)))) <|
 tst (decide (Int.toNat y_4.2.1.1 = Int.toNat y_4.2.1.1)) <|
 tst (decide ((1 : Int) < (zz (List.length (List.getD y_1.2.1.2.2.2.1 (Int.toNat y_4.2.1.1) []))))) <|
 Option.bind (zb fuel ((y_5.1.1, y_5.1.2.1, ()), ((66 : Int), ()), ())) fun y_13 =>
 tst (decide (List.length (List.getD (List.getD y_1.2.1.2.2.2.1 (Int.toNat y_4.2.1.1) []) (Int.toNat (zz (1000001 - 1000000))) []) + 1 < LIM)) <|
 tst (decide ((1 : Int) < (zz (List.length (List.getD y_1.2.1.2.2.2.1 (Int.toNat y_4.2.1.1) []))))) <|
 some (((y_13.1.1, y_13.1.2.1, ()), (y_1.2.1.1, y_1.2.1.2.1, y_1.2.1.2.2.1, List.set y_1.2.1.2.2.2.1 (Int.toNat y_4.2.1.1) (List.set (List.getD y_1.2.1.2.2.2.1 (Int.toNat y_4.2.1.1) []) (Int.toNat (zz (1000001 - 1000000))) (List.getD (List.getD y_1.2.1.2.2.2.1 (Int.toNat y_4.2.1.1) []) (Int.toNat (zz (1000001 - 1000000))) [] ++ [w64 (y_13.2.1.1 - (1 : Int))])), ()), ()))))))))))
def ziI (fuel : Nat) (z : (((List Int) × (Int × Unit)) × Unit)) : Option (((List Int) × (Int × Unit)) × (((List NY) × ((List Bool) × ((List WY) × ((List (List (List Int))) × Unit)))) × Unit)) := zk7 fuel z.1.1 z.1.2.1
theorem zxX (fuel : Nat) (xa : zgl.rt.T) (xd : zgl.D.T) : zgl.go (zpD fuel) fuel zxT zpG xa xd = ziI fuel (zgl.xb (xa, xd)) := by kernel_rfl
abbrev zk8 (fuel : Nat) : LE := ⟨zgl, ziI fuel⟩
theorem zxY (fuel : Nat) : EntryOK Try.prog 11 (zk8 fuel).te := okF (T := zpD fuel) (fn := Try.f11) (le := zk8 fuel) (frz := [16, 18, 19, 21, 23, 24, 25, 26, 36, 38, 48, 57, 100, 116]) (ann := zpE) (cuts := zpF) (rv := zpG) (TabOK.of (entCons (zxS fuel) (entCons (zex fuel) entNil)) (methNil)) mixed (by kernel_rfl) (by kernel_rfl) (by kernel_rfl) (fun _ => rfl) (fun _ => rfl) (fun xa xd y h => ⟨fuel, (zxX fuel xa xd).trans h⟩)
def zpH (fuel : Nat) : Tab := Tab.of [(11, (zk8 fuel).te), (12, (zjD fuel).te)] []
def zpI : List Norm := []
noncomputable def zxZ : C := irOf Try.prog Try.f5 [] zpI []
def zpJ : List (Nat × Option (Nat × Bool)) := [(2, some (4, true))]
abbrev zx0 : Sx := .grp (.dat (Kd.list (Kd.int IntKind.u8)) .nil) .nil
abbrev zx1 : Sx := .agg (.own 1 KN (.own 0 Kd.bool (.own 0 KW (.own 2 (Kd.list (Kd.list I6)) .nil)))) .nil
abbrev zgm : LF := .pure zx0 zx1 false
def zk9 (fuel : Nat) (x0 : List Int) : Option (((List NY) × ((List Bool) × ((List WY) × ((List (List (List Int))) × Unit)))) × Unit) :=
 Option.bind (zg9 fuel ((x0, ()), ())) fun y_1 =>
 Option.bind (ziI fuel ((y_1.1, y_1.2.1, ()), ())) fun y_2 =>
 some (((y_2.2.1.1, y_2.2.1.2.1, y_2.2.1.2.2.1, y_2.2.1.2.2.2.1, ()), ()))
def ziJ (fuel : Nat) (z : (((List Int) × Unit) × Unit)) : Option (((List NY) × ((List Bool) × ((List WY) × ((List (List (List Int))) × Unit)))) × Unit) := zk9 fuel z.1.1
theorem zx2 (fuel : Nat) (xa : zgm.rt.T) (xd : zgm.D.T) : zgm.go (zpH fuel) fuel zxZ zpJ xa xd = ziJ fuel (zgm.xb (xa, xd)) := by kernel_rfl
abbrev zla (fuel : Nat) : LE := ⟨zgm, ziJ fuel⟩
theorem zx3 (fuel : Nat) : EntryOK Try.prog 5 (zla fuel).te := okF (T := zpH fuel) (fn := Try.f5) (le := zla fuel) (frz := []) (ann := zpI) (cuts := []) (rv := zpJ) (TabOK.of (entCons (zxY fuel) (entCons (zsT fuel) entNil)) (methNil)) mixed (by kernel_rfl) (by kernel_rfl) (by kernel_rfl) (fun _ => rfl) (fun _ => rfl) (fun xa xd y h => ⟨fuel, (zx2 fuel xa xd).trans h⟩)
end Go.Proofs.Ytljojacnjjgceaa.Den
namespace Go.Proofs.Ytljojacnjjgceaa.Den
open Go Go.RowKit
def flatP (ps : List (Nat × Nat)) : List Int := ps.flatMap fun p => [(p.1 : Int), (p.2 : Int)]
def GoodP (p : Nat × Nat) : Prop := p.1 < 5 ∧ p.2 < 5 ∧ p.1 ≠ p.2
theorem zmc (ps : List (Nat × Nat)) : (flatP ps).length = 2 * ps.length := by
  induction ps with
  | nil => rfl
  | cons p ps ih => simp only [flatP, List.flatMap_cons, List.length_append, List.length_cons, List.length_nil] at ih ⊢; omega
theorem zrU : ∀ {ps : List (Nat × Nat)} {k : Nat}, k < ps.length → List.getD (flatP ps) (2 * k) 0 = ((List.getD ps k (0, 0)).1 : Int) ∧ List.getD (flatP ps) (2 * k + 1) 0 = ((List.getD ps k (0, 0)).2 : Int)
  | [], k, h => by simp at h
  | p :: ps, 0, _ => ⟨rfl, rfl⟩
  | p :: ps, k + 1, h => by
    have := zrU (ps := ps) (k := k) (by simpa using h)
    have e : flatP (p :: ps) = (p.1 : Int) :: (p.2 : Int) :: flatP ps := rfl
    rw [e, show 2 * (k + 1) = 2 * k + 1 + 1 by omega]
    simpa only [List.getD_cons_succ] using this
def setP (L : List Bool) (p : Nat × Nat) : List Bool := (L.set (p.1 * 5 + p.2) true).set (p.2 * 5 + p.1) true
def links0 : List Bool := List.replicate 25 false
def linkAll (ps : List (Nat × Nat)) : List Bool := ps.foldl setP links0
theorem zrV {L : List Bool} {p : Nat × Nat} : (setP L p).length = L.length := by unfold setP; rw [List.length_set, List.length_set]
theorem zmd : ∀ {ps : List (Nat × Nat)} {L : List Bool}, (ps.foldl setP L).length = L.length
  | [], _ => rfl
  | p :: ps, L => by rw [List.foldl_cons, zmd, zrV]
theorem zA0 {ps : List (Nat × Nat)} : (linkAll ps).length = 25 := zmd
theorem zA1 {L : List Bool} (hl : L.length = 25) (h : ∀ c, c < 5 → LinkT L c) {a b : Nat} (ha : a < 5) (hb : b < 5) (hab : a ≠ b) (v : Bool) : ∀ c, c < 5 → LinkT ((L.set (a * 5 + b) v).set (b * 5 + a) v) c := by
  have get : ∀ k, k < 25 → List.getD ((L.set (a * 5 + b) v).set (b * 5 + a) v) k false = if k = a * 5 + b ∨ k = b * 5 + a then v else List.getD L k false := by
    intro k hk
    by_cases e1 : b * 5 + a = k
    · subst e1; rw [zM (by rw [List.length_set]; omega), if_pos (.inr rfl)]
    · rw [z3 e1]
      by_cases e2 : a * 5 + b = k
      · subst e2; rw [zM (by omega), if_pos (.inl rfl)]
      · rw [z3 e2, if_neg (by omega)]
  refine fun c hc => ⟨?_, fun d hd => ?_⟩
  · rw [get _ (by omega), if_neg (by omega)]; exact (h c hc).self
  · rw [get _ (by omega), get _ (by omega)]
    by_cases e : c * 5 + d = a * 5 + b ∨ c * 5 + d = b * 5 + a
    · rw [if_pos e, if_pos (by omega)]
    · rw [if_neg e, if_neg (by omega)]; exact (h c hc).sym d hd
theorem zrW : ∀ {ps : List (Nat × Nat)} {L : List Bool}, L.length = 25 → (∀ c, c < 5 → LinkT L c) → (∀ p ∈ ps, GoodP p) → ∀ c, c < 5 → LinkT (ps.foldl setP L) c
  | [], _, _, h, _ => h
  | p :: ps, L, hl, h, hp => by
    rw [List.foldl_cons]
    have hg := hp p (List.mem_cons_self ..)
    exact zrW (by rw [zrV]; exact hl) (zA1 hl h hg.1 hg.2.1 hg.2.2 true) fun q hq => hp q (List.mem_cons_of_mem _ hq)
theorem zme {k : Nat} : List.getD links0 k false = false := by
  unfold links0
  rw [List.getD_eq_getElem?_getD, List.getElem?_replicate]
  split <;> rfl
theorem zA2 {ps : List (Nat × Nat)} (h : ∀ p ∈ ps, GoodP p) : ∀ c, c < 5 → LinkT (linkAll ps) c :=
  zrW (by rfl) (fun c _ => ⟨zme, fun b _ => by rw [zme, zme]⟩) h
def fresh (i : Nat) : NY := ((1 : Int), [((i : Int), (1 : Int), 0, deep sumNew, ())], 0, (if i = 0 then 0 else 5), -1, ())
def newN : List NY := [fresh 0, fresh 1, fresh 2, fresh 3, fresh 4]
def newP : List (List (List Int)) := [[[], []], [[], []], [[], []], [[], []], [[], []]]
theorem newN_nd {i : Nat} (h : i < 5) : nd newN i = fresh i := by
  rcases (show i = 0 ∨ i = 1 ∨ i = 2 ∨ i = 3 ∨ i = 4 by omega) with rfl | rfl | rfl | rfl | rfl <;> rfl
theorem newP_at {i : Nat} (h : i < 5) : List.getD newP i [] = [[], []] := by
  rcases (show i = 0 ∨ i = 1 ∨ i = 2 ∨ i = 3 ∨ i = 4 by omega) with rfl | rfl | rfl | rfl | rfl <;> rfl
theorem new_net {L : List Bool} (hl : L.length = 25) (h : ∀ c, c < 5 → LinkT L c) : NetT newN L [] newP where
  nodes := rfl
  pasts := rfl
  links := hl
  words := by simp
  born a ha := by rw [newN_nd ha]; exact ⟨by show (1 : Int) ≤ 1; omega, by show (1 : Int) ≤ 20; omega⟩
  past a ha := ⟨by rw [newP_at ha, newN_nd ha]; rfl, by simp only [pst, newP_at ha]; rfl, fun r hr => by
    rw [newP_at ha] at hr
    have : r = [] := by simpa using hr
    subst this; exact ⟨fun t ht => (by cases ht), by simp⟩⟩
  link := h
  node a ha := by
    have hp : ∀ b, pst newP a b = [] := fun b => by
      simp only [pst, newP_at ha]
      match b with
      | 0 => rfl
      | 1 => rfl
      | b + 2 => rfl
    have he : own (fresh a).2.1 (a : Int) = some ((a : Int), (1 : Int), 0, deep sumNew, ()) := by
      show own [_] _ = _
      rw [zL, beqT rfl]; rfl
    refine ⟨⟨_, by rw [newN_nd ha]; exact he, by rw [newN_nd ha]; rfl, by rw [hp]; rfl⟩, ?_, fun h0 => ?_, fun h0 => ?_⟩
    · rw [newN_nd ha]
      refine KnT.iff.2 ⟨fun e h => ?_, ⟨by show (-1 : Int) < (a : Int); omega, trivial⟩⟩
      have : e = ((a : Int), (1 : Int), 0, deep sumNew, ()) := by simpa [fresh] using h
      subst this
      have e0 : pst newP (Int.toNat (a : Int)) (Int.toNat 1) = [] := by rw [Int.toNat_natCast]; exact hp _
      exact ⟨by show 0 ≤ (a : Int) ∧ (a : Int) ≤ 4; omega, by
        show 1 ≤ (1 : Int) ∧ (1 : Int) ≤ (nd newN (Int.toNat (a : Int))).1
        rw [Int.toNat_natCast, newN_nd ha]; exact ⟨Int.le_refl _, Int.le_refl _⟩, by
        show 0 ≤ (0 : Int) ∧ (0 : Int) ≤ ((pst newP (Int.toNat (a : Int)) (Int.toNat 1)).length : Int)
        rw [e0]; decide, by
        show (sumOf ((pst newP (Int.toNat (a : Int)) (Int.toNat 1)).take _)).2 = true
        rw [e0]; rfl, by
        show (sumOf ((pst newP (Int.toNat (a : Int)) (Int.toNat 1)).take _)).1 = _
        rw [e0]; rfl⟩
    · subst h0
      exact ⟨rfl, rfl, by show (0 : Int) ≤ 0; omega⟩
    · rw [newN_nd ha, newN_nd (show 0 < 5 by omega)]
      have h5 : (fresh a).2.2.2.1 = 5 := if_neg h0
      exact ⟨⟨by show (0 : Int) ≤ 0; omega, by show (0 : Int) ≤ 0; omega⟩, by rw [h5]; omega, ⟨fun _ => h5, fun _ => rfl⟩, ⟨by show (-1 : Int) ≤ -1; omega, by show (-1 : Int) ≤ 4; omega⟩, by show (-1 : Int) ≠ (a : Int); omega⟩
  word w hw := by cases hw
  beacon := by rw [newN_nd (show 0 < 5 by omega)]; show (0 : Int) ≤ 1000; omega
section
variable {f : Nat}
theorem zA3 (hf : 1000 < f) {ps : List (Nat × Nat)} (hp : ∀ p ∈ ps, GoodP p) (hl : ps.length ≤ 20) : zid f ((flatP ps, ()), ()) = some ((newN, linkAll ps, [], newP, ()), (true, ()), ()) := by
  refine Ret.eq ?_
  show Ret (zic f (iter (zku f) f) (flatP ps)) _
  unfold zic
  have hfl := zmc ps
  have e0 : (Int.tmod (zz (flatP ps).length) 2 != 0) = false := by
    rw [zz_eq, hfl, bneF]
    rw [Int.tmod_eq_emod_of_nonneg (by omega)]; omega
  rw [e0, cond_false]
  simp only [zz_eq, show ¬ (((flatP ps).length : Int) > 40) by omega, decide_false, cond_false]
  refine Ret.loop (fun n v => ∃ k, v = (((2 * k : Nat) : Int), flatP ps, (ps.take k).foldl setP links0) ∧ k + n = ps.length) ?_ f ps.length _ ⟨0, rfl, by omega⟩ (by omega)
  rintro n v g ⟨k, rfl, hkn⟩ hg
  show Ret (zib f _ g _) _
  unfold zib
  by_cases hk : k < ps.length
  · have hgp := hp _ (zF (0, 0) hk)
    obtain ⟨g1, g2⟩ := zrU hk
    obtain ⟨p, hpe⟩ : ∃ p, List.getD ps k (0, 0) = p := ⟨_, rfl⟩
    rw [hpe] at g1 g2 hgp
    obtain ⟨h1, h2, h3⟩ := hgp
    have hlen : ((ps.take k).foldl setP links0).length = 25 := zmd
    have w1 : w64 (((2 * k : Nat) : Int) + 1) = ((2 * k + 1 : Nat) : Int) := w64_up (by omega)
    have w2 : w64 (((2 * k : Nat) : Int) + 2) = ((2 * (k + 1) : Nat) : Int) := by rw [w64_id] <;> omega
    simp only [zz_eq, lt_cast (show 2 * k < (flatP ps).length by omega), lt_cast (show 2 * k + 1 < (flatP ps).length by omega), decide_true, cond_true, Int.toNat_natCast, w1, w2, g1, g2, in_dcd, Option.bind_some]
    rw [dcd_pos (show 0 ≤ (p.1 : Int) ∧ (p.1 : Int) ≤ 4 by omega), dcd_pos (show 0 ≤ (p.2 : Int) ∧ (p.2 : Int) ≤ 4 by omega)]
    simp only [le_cast, decide_true, cond_true, Option.bind_some, Int.toNat_natCast, zz_eq, Bool.not_true, cond_false, beqF (show (p.1 : Int) ≠ (p.2 : Int) by omega), link_eq f h1 h2, link_eq f h2 h1, List.length_set, hlen, idx_lt h1 h2, idx_lt h2 h1,
      show p.1 * 5 + p.2 < 25 by omega, show p.2 * 5 + p.1 < 25 by omega]
    refine hg (n - 1) _ (by omega) ⟨k + 1, ?_, by omega⟩
    have e : ps.take (k + 1) = ps.take k ++ [p] := by
      rw [List.take_succ_eq_append_getElem hk, ← hpe, List.getD_eq_getElem?_getD, List.getElem?_eq_getElem hk]; rfl
    rw [e, List.foldl_append]; rfl
  · simp only [zz_eq, show ¬ (((2 * k : Nat) : Int) < ((flatP ps).length : Int)) by omega, decide_false, cond_false]
    have ek : ps.take k = ps := List.take_of_length_le (by omega)
    rw [ek]
    show Ret (iter (zkt f) f ((0 : Int), [], linkAll ps, [])) _
    refine Ret.loop (fun n v => ∃ k : Nat, v = ((k : Int), newN.take k, linkAll ps, newP.take k) ∧ k + n = 5) ?_ f 5 _ ⟨0, rfl, rfl⟩ (by omega)
    rintro n v g ⟨k, rfl, hkn⟩ hg
    show Ret (zks f g _) _
    unfold zks
    by_cases hk : k < 5
    rotate_left
    · obtain rfl : k = 5 := by omega
      exact Ret.ret rfl
    have h1 : (newN.take k).length = k := by rw [List.length_take]; show min k 5 = k; omega
    have h2 : (newP.take k).length = k := by rw [List.length_take]; show min k 5 = k; omega
    simp only [za4 hk, decide_true, cond_true, zrT, Option.bind_some, h1, h2, List.length_cons, List.length_nil, show k + (0 + 1) < LIM by simp only [LIM]; omega, show k + 1 < LIM by simp only [LIM]; omega, w64_up (show k < 4294967296 by omega)]
    refine hg (n - 1) _ (by omega) ⟨k + 1, ?_, by omega⟩
    rcases (show k = 0 ∨ k = 1 ∨ k = 2 ∨ k = 3 ∨ k = 4 by omega) with rfl | rfl | rfl | rfl | rfl <;> rfl
variable {b : List Int}
theorem Rd.le {p q r : Int} {s : List Int × Int × Unit} (h : Rd b p q s) (hq : q ≤ r) : Rd b p r s := ⟨h.1, h.2.1, Int.le_trans h.2.2 hq⟩
theorem zA4 (hb : Bytes b) {q : Int} (s : List Int × Int × Unit) (hs : Rd b 0 q s) (h0 : 0 ≤ q) (hq : q ≤ 100000000) (hf : 100 < f) :
    Ret (ziC f ((s.1, s.2.1, ()), ())) fun t => Rd b 0 (q + 20) t.1 ∧ ∃ ps, t.2.1.1 = flatP ps ∧ (∀ p ∈ ps, GoodP p) ∧ ps.length ≤ 8 := by
  show Ret (iter (zkZ f) f ((1 : Int), s.1, s.2.1, [])) _
  refine Ret.loop (fun n v => ∃ (k : Nat) (t : List Int × Int × Unit) (ps : List (Nat × Nat)), v = ((k : Int), t.1, t.2.1, flatP ps) ∧ k + n = 5 ∧ 1 ≤ k ∧ Rd b 0 (q + 4 * (k - 1)) t ∧ (∀ p ∈ ps, GoodP p) ∧ ps.length ≤ 2 * (k - 1)) ?_ f 4 _ ⟨1, s, [], rfl, rfl, by omega, hs.le (by omega), fun p hp => (by cases hp), by simp⟩ (by omega)
  rintro n v g ⟨k, t, ps, rfl, hkn, hk1, ht, hp, hl⟩ hg
  show Ret (zkY f g _) _
  unfold zkY
  by_cases hk : k < 5
  rotate_left
  · simp only [show ¬ ((k : Int) < 5) by omega, decide_false, cond_false]
    exact Ret.ret ⟨ht.le (by omega), ps, rfl, hp, by omega⟩
  simp only [za4 hk, decide_true, cond_true, w64_up (show k < 4294967296 by omega)]
  have hlen := zmc ps
  have app : ∀ (ps : List (Nat × Nat)) (x y : Nat), flatP ps ++ [(x : Int), (y : Int)] = flatP (ps ++ [(x, y)]) := fun ps x y => by unfold flatP; rw [List.flatMap_append]; rfl
  have add : ∀ {ps : List (Nat × Nat)} {x y : Nat}, (∀ p ∈ ps, GoodP p) → GoodP (x, y) → ∀ p ∈ ps ++ [(x, y)], GoodP p := fun h1 h2 p hp => by
    rcases List.mem_append.1 hp with hp | hp
    · exact h1 p hp
    · rw [List.mem_singleton.1 hp]; exact h2
  have nx : ∀ (u : List Int × Int × Unit) (qs : List (Nat × Nat)), Rd b 0 (q + 4 * (k - 1) + 4) u → (∀ p ∈ qs, GoodP p) → qs.length ≤ ps.length + 2 → Ret (g (((k + 1 : Nat) : Int), u.1, u.2.1, flatP qs)) fun t => Rd b 0 (q + 20) t.1 ∧ ∃ ps, t.2.1.1 = flatP ps ∧ (∀ p ∈ ps, GoodP p) ∧ ps.length ≤ 8 :=
    fun u qs h1 h2 h3 => hg (n - 1) _ (by omega) ⟨k + 1, u, qs, rfl, by omega, by omega, h1.le (by omega), h2, by omega⟩
  refine Ret.bind (zl hb (by omega) t 8 ht (by omega) (by omega)) fun y hy => Ret.cond (fun _ => ?_) fun _ => ?_
  · refine Ret.bind (zl hb (by omega) y.1 (k : Int) hy.1 (by omega) (by omega)) fun z hz => Ret.tst (decide_eq_true (by rw [hlen]; simp only [LIM]; omega)) ?_
    obtain ⟨c, hc⟩ : ∃ c : Nat, z.2.1.1 = (c : Int) := ⟨z.2.1.1.toNat, by have := hz.2.1; omega⟩
    have hck : c < k := by have := hz.2.2; omega
    rw [hc, app]
    have hp2 := add hp (show GoodP (k, c) from ⟨hk, by omega, by omega⟩)
    have hl2 : (ps ++ [(k, c)]).length = ps.length + 1 := by simp
    refine Ret.bind (zl hb (by omega) z.1 3 hz.1 (by omega) (by omega)) fun u hu => Ret.cond (fun _ => ?_) fun _ => nx u.1 _ (hu.1.le (by omega)) hp2 (by omega)
    refine Ret.bind (zl hb (by omega) u.1 5 hu.1 (by omega) (by omega)) fun x hx => Ret.cond (fun hne => ?_) fun _ => nx x.1 _ (hx.1.le (by omega)) hp2 (by omega)
    refine Ret.tst (decide_eq_true (by rw [zmc, hl2]; simp only [LIM]; omega)) ?_
    obtain ⟨e, he⟩ : ∃ e : Nat, x.2.1.1 = (e : Int) := ⟨x.2.1.1.toNat, by have := hx.2.1; omega⟩
    rw [he] at hne
    rw [he, app]
    have hne' : (e : Int) ≠ (k : Int) := by simpa using hne
    exact nx x.1 _ (hx.1.le (by omega)) (add hp2 (show GoodP (k, e) from ⟨hk, by have := hx.2.2; omega, by omega⟩)) (by rw [List.length_append, hl2]; simp)
  · refine Ret.bind (zl hb (by omega) y.1 3 hy.1 (by omega) (by omega)) fun u hu => Ret.cond (fun _ => ?_) fun _ => nx u.1 _ (hu.1.le (by omega)) hp (by omega)
    refine Ret.bind (zl hb (by omega) u.1 5 hu.1 (by omega) (by omega)) fun x hx => Ret.cond (fun hne => ?_) fun _ => nx x.1 _ (hx.1.le (by omega)) hp (by omega)
    refine Ret.tst (decide_eq_true (by rw [hlen]; simp only [LIM]; omega)) ?_
    obtain ⟨e, he⟩ : ∃ e : Nat, x.2.1.1 = (e : Int) := ⟨x.2.1.1.toNat, by have := hx.2.1; omega⟩
    rw [he] at hne
    rw [he, app]
    have hne' : (e : Int) ≠ (k : Int) := by simpa using hne
    exact nx x.1 _ (hx.1.le (by omega)) (add hp (show GoodP (k, e) from ⟨hk, by have := hx.2.2; omega, by omega⟩)) (by simp)
theorem deed_ok (hb : Bytes b) {q : Int} (s : List Int × Int × Unit) (hs : Rd b 0 q s) (h0 : 0 ≤ q) (hq : q ≤ 100000000) :
    Ret (ziD f ((s.1, s.2.1, ()), ())) fun t => Rd b 0 (q + 5) t.1 := by
  show Ret (zk1 f s.1 s.2.1) _
  unfold zk1
  refine Ret.bind (zl hb (by omega) s 20 hs (by omega) (by omega)) fun y hy => ?_
  have p1 : ∀ {n : Int} {A : Type} {k : (List Int × Int × Unit) × (Int × Unit) × Unit → Option ((List Int × Int × Unit) × A)}, 1 ≤ n → (∀ z : (List Int × Int × Unit) × (Int × Unit) × Unit, Rd b 0 (q + 2) z.1 ∧ 0 ≤ z.2.1.1 ∧ z.2.1.1 < n → Ret (k z) fun t => Rd b 0 (q + 5) t.1) → Ret ((zb f ((y.1.1, y.1.2.1, ()), (n, ()), ())).bind k) fun t => Rd b 0 (q + 5) t.1 :=
    fun hn hk => Ret.bind (zl hb (by omega) y.1 _ hy.1 (by omega) hn) fun z hz => hk z ⟨hz.1.le (by omega), hz.2⟩
  have more : ∀ {n : Int} {A : Type} {r : Int} {z : (List Int × Int × Unit) × (Int × Unit) × Unit} {k : (List Int × Int × Unit) × (Int × Unit) × Unit → Option ((List Int × Int × Unit) × A)}, Rd b 0 r z.1 → 1 ≤ n → r ≤ q + 100 → (∀ u : (List Int × Int × Unit) × (Int × Unit) × Unit, Rd b 0 (r + 1) u.1 ∧ 0 ≤ u.2.1.1 ∧ u.2.1.1 < n → Ret (k u) fun t => Rd b 0 (q + 5) t.1) → Ret ((zb f ((z.1.1, z.1.2.1, ()), (n, ()), ())).bind k) fun t => Rd b 0 (q + 5) t.1 :=
    fun hz hn hr hk => Ret.bind (zl hb (by omega) _ _ hz (by omega) hn) fun u hu => hk u hu
  repeat' (refine Ret.cond (fun _ => ?_) fun _ => ?_)
  all_goals first
    | exact Ret.ret (hy.1.le (by omega))
    | exact p1 (by omega) fun z hz => Ret.ret (hz.1.le (by omega))
    | exact p1 (by omega) fun z hz => more hz.1 (by omega) (by omega) fun u hu => more hu.1 (by omega) (by omega) fun x hx => Ret.tst (decide_eq_true hx.2.1) (Ret.tst (decide_eq_true (by have := hx.2.2; rw [zz_eq]; omega)) (Ret.tst (decide_eq_true (by have := hx.2; omega)) (Ret.ret (hx.1.le (by omega)))))
    | exact p1 (by omega) fun z hz => Ret.tst (decide_eq_true hz.2.1) (Ret.tst (decide_eq_true (by have := hz.2.2; rw [zz_eq]; omega)) (more hz.1 (by omega) (by omega) fun u hu => more hu.1 (by omega) (by omega) fun x hx => Ret.ret (hx.1.le (by omega))))
    | skip
end
end Go.Proofs.Ytljojacnjjgceaa.Den
namespace Go.Proofs.Ytljojacnjjgceaa.Den
open Go Go.RowKit
section
variable {f : Nat} {b : List Int}
theorem zrX (hb : Bytes b) {q : Int} (s : List Int × Int × Unit) (hs : Rd b 0 q s) (h0 : 0 ≤ q) (hq : q ≤ 10000000) (m : Nat) (hm : m ≤ 100) (hf : 200 < f) :
    Ret (zgj f ((s.1, s.2.1, ()), ((m : Int), ()), ())) fun t => Rd b 0 (q + 600) t.1 ∧ t.2.1.1.length ≤ m + 4 := by
  show Ret (ziG f (iter (ziF f) f) s.1 s.2.1 (m : Int)) _
  unfold ziG
  have hm1 : w64 ((m : Int) + 1) = ((m : Int) + 1) := w64_id (by omega) (by omega)
  have loop : ∀ (c : Int) (t : List Int × Int × Unit) (out : List (Int × Int × Int × Unit)), 0 ≤ c → c ≤ m → Rd b 0 (q + 2) t → out.length ≤ 4 → Ret (iter (ziF f) f (c, t.1, t.2.1, out)) fun t => Rd b 0 (q + 600) t.1 ∧ t.2.1.1.length ≤ m + 4 := by
    intro c t out hc0 hc ht ho
    refine Ret.loop (fun n v => ∃ (t : List Int × Int × Unit) (out : List (Int × Int × Int × Unit)), v = ((n : Int), t.1, t.2.1, out) ∧ n ≤ m ∧ Rd b 0 (q + 2 + 5 * ((m : Int) - n)) t ∧ out.length + n ≤ m + 4) ?_ f c.toNat _ ⟨t, out, by rw [show ((c.toNat : Nat) : Int) = c by omega], by omega, ht.le (by omega), by omega⟩ (by omega)
    rintro n v g ⟨t, out, rfl, hn, ht, ho⟩ hg
    show Ret (zk3 f g _) _
    unfold zk3
    by_cases h : n = 0
    · subst h
      simp only [show ¬ (((0 : Nat) : Int) > 0) by omega, decide_false, cond_false]
      exact Ret.ret ⟨ht.le (by omega), by show out.length ≤ _; omega⟩
    · simp only [show ((n : Nat) : Int) > 0 by omega, decide_true, cond_true, w64_dn h (show n < 4294967296 by omega)]
      refine Ret.bind (deed_ok hb t ht (by omega) (by omega)) fun y hy => Ret.tst (decide_eq_true (by simp only [LIM]; omega)) ?_
      exact hg (n - 1) _ (by omega) ⟨y.1, _, rfl, by omega, hy.le (by omega), by rw [List.length_append, List.length_singleton]; omega⟩
  refine Ret.bind (zl hb (by omega) s 2 hs (by omega) (by omega)) fun y hy => Ret.cond (fun _ => ?_) fun _ => ?_
  all_goals
    rw [hm1]
    refine Ret.bind (zl hb (by omega) y.1 _ hy.1 (by omega) (by omega)) fun z hz => ?_
    exact loop _ z.1 _ hz.2.1 (by have := hz.2.2; omega) (hz.1.le (by omega)) (by simp)
theorem zA5 (hb : Bytes b) {q : Int} (s : List Int × Int × Unit) (hs : Rd b 0 q s) (h0 : 0 ≤ q) (hq : q ≤ 1000000) (hf : 2000 < f) :
    Ret (ziH f ((s.1, s.2.1, ()), ())) fun t => Rd b 0 (q + 2000) t.1 ∧ NetK t.2.1 ∧ bc t.2.1.1 ≤ 100 := by
  show Ret (zk5 f s.1 s.2.1) _
  unfold zk5
  refine Ret.bind (zA4 hb s hs (by omega) (by omega) (by omega)) fun y hy => ?_
  obtain ⟨hy1, ps, hps, hg, hl⟩ := hy
  rw [hps, zA3 (by omega) hg (by omega), Option.bind_some]
  refine Ret.bind (zrX hb y.1 hy1 (by omega) (by omega) 40 (by omega) (by omega)) fun z hz => ?_
  have hT := new_net (L := linkAll ps) zA0 (zA2 hg)
  obtain ⟨x, h1, h2, h3⟩ := run_ok (f := f) hT z.2.1.1 (by have := hz.2; omega) hf
  have hx100 : bc x.1 ≤ 44 := by have : bc newN = 0 := rfl; have := hz.2; omega
  simp only
  rw [h1, Option.bind_some]
  refine Ret.bind (zl hb (by omega) z.1 4 hz.1 (by omega) (by omega)) fun u hu => Ret.cond (fun _ => ?_) fun _ => Ret.ret ⟨hu.1.le (by omega), h2, by show bc x.1 ≤ 100; omega⟩
  simp only [cond_true]
  obtain ⟨x2, h4, h5, h6⟩ := rest_ok (f := f) h2 (by omega) hf
  rw [h4, Option.bind_some]
  refine Ret.bind (zrX hb u.1 hu.1 (by omega) (by omega) 12 (by omega) (by omega)) fun w hw => ?_
  obtain ⟨x3, h7, h8, h9⟩ := run_ok (f := f) h5 w.2.1.1 (by have := hw.2; omega) hf
  rw [h7, Option.bind_some]
  exact Ret.ret ⟨hw.1.le (by omega), h8, by show bc x3.1 ≤ 100; have := hw.2; omega⟩
structure Off (x : NetY) : Prop where
  full : FullN x.1 x.2.1 x.2.2.1 x.2.2.2.1
  nodes : x.1.length = 5
  links : x.2.1.length = 25
  words : x.2.2.1.length ≤ 25
  pasts : x.2.2.2.1.length = 5
theorem NetT.off {N : List NY} {L : List Bool} {W : List WY} {P : List (List (List Int))} (h : NetT N L W P) : Off (N, L, W, P, ()) := ⟨h.full, h.nodes, h.links, by have := h.words; show W.length ≤ 25; omega, h.pasts⟩
theorem Off.node {N : List NY} {L : List Bool} {W : List WY} {P : List (List (List Int))} (h : NetT N L W P) (k : Nat) (x : NY) (hx : FullE x.2.1) : Off (N.set k x, L, W, P, ()) where
  full := { h.full with
    nodes := by rw [List.length_set]; exact h.full.nodes
    known := fun y hy => by
      rcases List.mem_or_eq_of_mem_set hy with hy | rfl
      · exact h.full.known y hy
      · exact hx }
  nodes := by show (N.set k x).length = 5; rw [List.length_set]; exact h.nodes
  links := h.links
  words := h.off.words
  pasts := h.pasts
theorem zA6 (hb : Bytes b) {q : Int} (s : List Int × Int × Unit) (hs : Rd b 0 q s) (h0 : 0 ≤ q) (hq : q ≤ 100000) (hf : 2000 < f) :
    Ret (ziI f ((s.1, s.2.1, ()), ())) fun t => Rd b 0 (q + 3000) t.1 ∧ Off t.2.1 := by
  show Ret (zk7 f s.1 s.2.1) _
  unfold zk7
  refine Ret.bind (zA5 hb s hs h0 (by omega) hf) fun y hy => ?_
  obtain ⟨hy1, hT, hbc⟩ := hy
  obtain ⟨y1, ⟨N, L, W, P, ⟨⟩⟩, y3⟩ := y
  have hT : NetT N L W P := hT
  have hy1 : Rd b 0 (q + 2000) y1 := hy1
  have hN := hT.nodes; have hL := hT.links; have hP := hT.pasts
  simp only
  refine Ret.bind (zl hb (by omega) y1 14 hy1 (by omega) (by omega)) fun z hz => Ret.cond (fun _ => Ret.ret ⟨hz.1.le (by omega), hT.off⟩) fun _ => ?_
  refine Ret.bind (zl hb (by omega) z.1 5 hz.1 (by omega) (by omega)) fun k hk => ?_
  obtain ⟨i, hki, hi⟩ : ∃ i : Nat, k.2.1.1 = (i : Int) ∧ i < 5 := ⟨k.2.1.1.toNat, by have := hk.2; omega, by have := hk.2; omega⟩
  have hnode := hT.node i hi
  have hkn := hnode.known.full
  refine Ret.bind (zl hb (by omega) k.1 8 hk.1 (by omega) (by omega)) fun c hc => ?_
  rw [hki]
  simp only [zz_eq, hN, hP, hL, hi, cst5 hi, le_cast, Int.toNat_natCast, Int.toNat_zero, show (0 : Int) < ((5 : Nat) : Int) by omega, show 0 < 5 by omega, decide_true, cond_true]
  refine Ret.cond (fun _ => ?_) fun _ => ?_
  · refine Ret.bind (zl hb (by omega) c.1 3 hc.1 (by omega) (by omega)) fun u hu => ?_
    refine Ret.tst (decide_eq_true hu.2.1) (Ret.tst (decide_eq_true (by have := hu.2.2; omega)) (Ret.ret ⟨hu.1.le (by omega), Off.node hT i _ hkn⟩))
  refine Ret.cond (fun _ => ?_) fun _ => ?_
  · exact Ret.bind (zl hb (by omega) c.1 7 hc.1 (by omega) (by omega)) fun u hu => Ret.ret ⟨hu.1.le (by omega), Off.node hT i _ hkn⟩
  refine Ret.cond (fun _ => ?_) fun _ => ?_
  · exact Ret.bind (zl hb (by omega) c.1 7 hc.1 (by omega) (by omega)) fun u hu => Ret.ret ⟨hu.1.le (by omega), Off.node hT i _ hkn⟩
  refine Ret.cond (fun _ => Ret.ret ⟨hc.1.le (by omega), Off.node hT i _ hkn⟩) fun _ => ?_
  refine Ret.cond (fun _ => ?_) fun _ => ?_
  · obtain ⟨e, ho, _, _⟩ := hnode.own
    have hpos : 0 < (nd N i).2.1.length := List.length_pos_of_mem (own_mem ho).1
    simp only [show (0 : Int) < (((nd N i).2.1.length : Nat) : Int) by omega, hpos, decide_true, cond_true]
    refine Ret.ret ⟨hc.1.le (by omega), Off.node hT i _ ⟨by show (List.set _ _ _).length ≤ 100; rw [List.length_set]; exact hkn.1, fun e he => ?_⟩⟩
    rcases List.mem_or_eq_of_mem_set he with he | rfl
    · exact hkn.2 e he
    · have := hkn.2 (List.getD (nd N i).2.1 0 E0d) (zF E0d hpos)
      exact this
  refine Ret.cond (fun _ => ?_) fun _ => ?_
  · refine Ret.bind (zl hb (by omega) c.1 4 hc.1 (by omega) (by omega)) fun u hu => Ret.bind (zl hb (by omega) u.1 6 hu.1 (by omega) (by omega)) fun v hv => Ret.bind (zl hb (by omega) v.1 6 hv.1 (by omega) (by omega)) fun w hw => Ret.bind (zl hb (by omega) w.1 6 hw.1 (by omega) (by omega)) fun x hx => ?_
    have hw24 := hT.words
    refine Ret.tst (decide_eq_true (by simp only [LIM]; omega)) (Ret.ret ⟨hx.1.le (by omega), ⟨?_, hN, hL, by show (W ++ [_]).length ≤ 25; rw [List.length_append, List.length_singleton]; omega, hP⟩⟩)
    exact { hT.full with
      words := by show (W ++ [_]).length ≤ 100; rw [List.length_append, List.length_singleton]; omega
      said := fun a ha => by
        rcases List.mem_append.1 ha with ha | ha
        · exact hT.full.said a ha
        · rw [List.mem_singleton.1 ha]; exact ⟨by simp, fun e he => by cases he⟩ }
  refine Ret.cond (fun _ => ?_) fun _ => ?_
  · refine Ret.bind (zl hb (by omega) c.1 25 hc.1 (by omega) (by omega)) fun u hu => Ret.tst (decide_eq_true hu.2.1) (Ret.tst (decide_eq_true (by have := hu.2.2; omega)) (Ret.tst (decide_eq_true (by have := hu.2; omega)) (Ret.ret ⟨hu.1.le (by omega), ⟨?_, hN, by show (List.set L _ _).length = 25; rw [List.length_set]; exact hL, hT.off.words, hP⟩⟩)))
    exact { hT.full with links := by show (List.set L _ _).length ≤ 100; rw [List.length_set]; exact hT.full.links }
  · have hp := hT.past i hi
    have hbo := hT.born i hi
    have hlen := hp.len
    have h1 : 1 < (List.getD P i []).length := by omega
    have e1 : Int.toNat (((1000001 - 1000000 : Nat) : Int)) = 1 := rfl
    have hrow := pst_row hp (b := 1) (by omega)
    simp only [e1, show 1000001 - 1000000 = 1 from rfl, h1, show (1 : Int) < (((List.getD P i []).length : Nat) : Int) by omega, decide_true, cond_true]
    refine Ret.bind (zl hb (by omega) c.1 66 hc.1 (by omega) (by omega)) fun u hu => ?_
    have h100 : (List.getD (List.getD P i []) 1 []).length ≤ 100 := hrow.2
    refine Ret.tst (decide_eq_true (by simp only [LIM]; omega)) (Ret.ret ⟨hu.1.le (by omega), ⟨?_, hN, hL, hT.off.words, by show (List.set P _ _).length = 5; rw [List.length_set]; exact hP⟩⟩)
    exact { hT.full with
      pasts := by show (List.set P _ _).length ≤ 100; rw [List.length_set]; exact hT.full.pasts
      past := fun p hp' => by
        rcases List.mem_or_eq_of_mem_set hp' with hp' | rfl
        · exact hT.full.past p hp'
        · refine ⟨by rw [List.length_set]; omega, fun r hr => ?_⟩
          rcases List.mem_or_eq_of_mem_set hr with hr | rfl
          · have := (hp.rows r hr).2; omega
          · rw [List.length_append, List.length_singleton]; omega }
theorem zA7 (code : List Int) (hc : ∀ x ∈ code, 0 ≤ x ∧ x ≤ 255) (hf : 2000 < f) : Ret (ziJ f ((code, ()), ())) fun t => Off t.1 := by
  show Ret (zk9 f code) _
  unfold zk9
  refine Ret.bind (open_ok f code hc) fun y hy => ?_
  refine Ret.bind (zA6 (q := 0) hy.1 y ⟨rfl, by rw [hy.2]; omega, by rw [hy.2]; omega⟩ (by omega) (by omega) hf) fun z hz => Ret.ret hz.2
end
end Go.Proofs.Ytljojacnjjgceaa.Den
namespace Go.Proofs.Ytljojacnjjgceaa.Den
open Go Go.RowKit
abbrev zi := Option (((List Int) × Unit) × Unit)
def zI (fuel : Nat) : Tab := Tab.of [(14, (zbY fuel).te)] []
def zpK : List Norm := [⟨[5, 4, 1, 3], [], [], []⟩, ⟨[6, 4, 1, 5, 3], [], [], []⟩, ⟨[7, 4, 6, 1, 5, 3], [], [], []⟩, { live := [8, 4, 3], fix := [(3, none, I6, true)] }]
noncomputable def zx : C := irOf Try.prog Try.f8 [] zpK []
def zW : List (Nat × Option (Nat × Bool)) := [(2, none)]
abbrev zx4 : Sx := .agg (.dat (Kd.list KN) (.dat (Kd.list Kd.bool) (.dat (Kd.list KW) (.dat (Kd.list (Kd.list (Kd.list I6))) .nil)))) .nil
abbrev zx5 : Sx := .grp (.own 0 I6 .nil) .nil
abbrev zJ : LF := .pure zx4 zx5 true
abbrev zaR := (Int) × (List Bool) × (List NY) × (List Bool) × (List WY) × (List (List (List Int)))
abbrev zaS := (Int) × (Int) × (List Bool) × (List NY) × (List Bool) × (List WY) × (List (List (List Int)))
abbrev zdA := (Int) × (List Bool) × (List Int)
abbrev zdB := (Int) × (Int) × (Int) × (List Bool) × (List NY) × (List Bool) × (List WY) × (List (List (List Int)))
def zaB (v : zaR) : Env × Heap := ([(5, SV.int .i64 v.1), (4, SV.own 0), (1, SV.ptr 1 0), (3, SV.nils)], [Blk.arr Kd.bool v.2.1 0, Blk.cells [SV.es KN v.2.2.1, SV.es Kd.bool v.2.2.2.1, SV.es KW v.2.2.2.2.1, SV.es (Kd.list (Kd.list I6)) v.2.2.2.2.2] 0 4])
def zaC (v : zaS) : Env × Heap := ([(6, SV.int .i64 v.1), (4, SV.own 0), (1, SV.ptr 1 0), (5, SV.int .i64 v.2.1), (3, SV.nils)], [Blk.arr Kd.bool v.2.2.1 0, Blk.cells [SV.es KN v.2.2.2.1, SV.es Kd.bool v.2.2.2.2.1, SV.es KW v.2.2.2.2.2.1, SV.es (Kd.list (Kd.list I6)) v.2.2.2.2.2.2] 0 4])
def zpL (v : zdA) : Env × Heap := ([(8, SV.int .i64 v.1), (4, SV.own 0), (3, SV.own 1)], [Blk.arr Kd.bool v.2.1 0, Blk.arr I6 v.2.2 0])
def zdC (v : zdB) : Env × Heap := ([(7, SV.int .i64 v.1), (4, SV.own 0), (6, SV.int .i64 v.2.1), (1, SV.ptr 1 0), (5, SV.int .i64 v.2.2.1), (3, SV.nils)], [Blk.arr Kd.bool v.2.2.2.1 0, Blk.cells [SV.es KN v.2.2.2.2.1, SV.es Kd.bool v.2.2.2.2.2.1, SV.es KW v.2.2.2.2.2.2.1, SV.es (Kd.list (Kd.list I6)) v.2.2.2.2.2.2.2] 0 4])
def zdD (fuel : Nat) (g1 : zaS → zi) (g2 : zdB → zi) (v : zdB) : zi :=
 cond (decide (v.1 < (5 : Int)))
 (tst (decide (0 ≤ v.1)) <|
 tst (decide (v.1 < (zz (List.length v.2.2.2.1)))) <|
 tst (decide (Int.toNat v.1 < List.length v.2.2.2.1)) <|
 cond (List.getD v.2.2.2.1 (Int.toNat v.1) false)
 (tst (decide (0 ≤ v.1)) <|
 tst (decide (v.1 < (zz (List.length v.2.2.2.1)))) <|
 tst (decide (Int.toNat v.1 < List.length v.2.2.2.1)) <|
 g2 (w64 (v.1 + (1 : Int)), v.2.1, v.2.2.1, List.set v.2.2.2.1 (Int.toNat v.1) true, v.2.2.2.2.1, v.2.2.2.2.2.1, v.2.2.2.2.2.2.1, v.2.2.2.2.2.2.2))
 (tst (decide (0 ≤ v.2.1)) <|
 tst (decide (v.2.1 < (zz (List.length v.2.2.2.1)))) <|
 tst (decide (Int.toNat v.2.1 < List.length v.2.2.2.1)) <|
 cond (List.getD v.2.2.2.1 (Int.toNat v.2.1) false)
 (Option.bind (zS fuel ((v.2.1, ()), (v.1, ()), ())) fun y_4 =>
 tst (decide (0 ≤ y_4.1.1)) <|
 tst (decide (y_4.1.1 < (zz (List.length v.2.2.2.2.2.1)))) <|
 tst (decide (0 ≤ v.1)) <|
 tst (decide (v.1 < (zz (List.length v.2.2.2.1)))) <|
 tst (decide (Int.toNat v.1 < List.length v.2.2.2.1)) <|
 g2 (w64 (v.1 + (1 : Int)), v.2.1, v.2.2.1, List.set v.2.2.2.1 (Int.toNat v.1) (List.getD v.2.2.2.2.2.1 (Int.toNat y_4.1.1) false), v.2.2.2.2.1, v.2.2.2.2.2.1, v.2.2.2.2.2.2.1, v.2.2.2.2.2.2.2))
 (tst (decide (0 ≤ v.1)) <|
 tst (decide (v.1 < (zz (List.length v.2.2.2.1)))) <|
 tst (decide (Int.toNat v.1 < List.length v.2.2.2.1)) <|
 g2 (w64 (v.1 + (1 : Int)), v.2.1, v.2.2.1, List.set v.2.2.2.1 (Int.toNat v.1) (false), v.2.2.2.2.1, v.2.2.2.2.2.1, v.2.2.2.2.2.2.1, v.2.2.2.2.2.2.2))))
 (g1 (w64 (v.2.1 + (1 : Int)), v.2.2.1, v.2.2.2.1, v.2.2.2.2.1, v.2.2.2.2.2.1, v.2.2.2.2.2.2.1, v.2.2.2.2.2.2.2))
def zdE (fuel : Nat) (g1 : zaS → zi) (g2 : zdB → zi) : zdB → zi := zdD fuel g1 g2
theorem zx6 (fuel : Nat) (G) : zx.lp (zI fuel) 0 fuel G (endX zW zJ) 2 zdC = iter (zdE fuel (fun v => G 1 (zaC v).1 (zaC v).2)) fuel := C.lp_iter fun g v =>
  (show run (zI fuel) 0 fuel (zx.bdAt 2) (zdC v).1 (zdC v).2 (loopK 0 (zx.nmAt 2) g (zx.contAt (zI fuel) 0 fuel G 0 2 (endX zW zJ))) = zdD fuel (fun v => G 1 (zaC v).1 (zaC v).2) (fun v => g (zdC v).1 (zdC v).2) v by kernel_rfl)
def zdF (fuel : Nat) (g0 : zaR → zi) (X2 : zdB → zi) (g1 : zaS → zi) (v : zaS) : zi :=
 cond (decide (v.1 < (5 : Int)))
 (X2 ((0 : Int), v.1, v.2.1, v.2.2.1, v.2.2.2.1, v.2.2.2.2.1, v.2.2.2.2.2.1, v.2.2.2.2.2.2))
 (g0 (w64 (v.2.1 + (1 : Int)), v.2.2.1, v.2.2.2.1, v.2.2.2.2.1, v.2.2.2.2.2.1, v.2.2.2.2.2.2))
def zdG (fuel : Nat) (g0 : zaR → zi) (g1 : zaS → zi) : zaS → zi := zdF fuel g0 (iter (zdE fuel g1) fuel) g1
theorem zx7 (fuel : Nat) (G) : zx.lp (zI fuel) 0 fuel G (endX zW zJ) 1 zaC = iter (zdG fuel (fun v => G 0 (zaB v).1 (zaB v).2)) fuel := C.lp_iter fun g v =>
  (show run (zI fuel) 0 fuel (zx.bdAt 1) (zaC v).1 (zaC v).2 (loopK 0 (zx.nmAt 1) g (zx.contAt (zI fuel) 0 fuel G 0 1 (endX zW zJ))) = zdF fuel (fun v => G 0 (zaB v).1 (zaB v).2) (zx.lp (zI fuel) 0 fuel (fun m => bif Nat.beq m 1 then g else G m) (endX zW zJ) 2 zdC) (fun v => g (zaC v).1 (zaC v).2) v by kernel_rfl).trans (by rw [zx6]; rfl)
def zgn (fuel : Nat) (g3 : zdA → zi) (v : zdA) : zi :=
 cond (decide (v.1 < (5 : Int)))
 (tst (decide (0 ≤ v.1)) <|
 tst (decide (v.1 < (zz (List.length v.2.1)))) <|
 tst (decide (Int.toNat v.1 < List.length v.2.1)) <|
 cond (List.getD v.2.1 (Int.toNat v.1) false)
 (tst (decide (List.length v.2.2 + 1 < LIM)) <|
 g3 (w64 (v.1 + (1 : Int)), v.2.1, v.2.2 ++ [v.1]))
 (g3 (w64 (v.1 + (1 : Int)), v.2.1, v.2.2)))
 (some (((v.2.2, ()), ())))
def zgo (fuel : Nat) (g3 : zdA → zi) : zdA → zi := zgn fuel g3
theorem zx8 (fuel : Nat) (G) : zx.lp (zI fuel) 0 fuel G (endX zW zJ) 3 zpL = iter (zgo fuel) fuel := C.lp_iter fun g v => by kernel_rfl
def zdH (fuel : Nat) (X1 : zaS → zi) (X3 : zdA → zi) (g0 : zaR → zi) (v : zaR) : zi :=
 cond (decide (v.1 < (5 : Int)))
 (X1 ((0 : Int), v.1, v.2.1, v.2.2.1, v.2.2.2.1, v.2.2.2.2.1, v.2.2.2.2.2))
 (X3 ((0 : Int), v.2.1, []))
def zdI (fuel : Nat) (g0 : zaR → zi) : zaR → zi := zdH fuel (iter (zdG fuel g0) fuel) (iter (zgo fuel) fuel) g0
theorem zx9 (fuel : Nat) (G) : zx.lp (zI fuel) 0 fuel G (endX zW zJ) 0 zaB = iter (zdI fuel) fuel := C.lp_iter fun g v =>
  (show run (zI fuel) 0 fuel (zx.bdAt 0) (zaB v).1 (zaB v).2 (loopK 0 (zx.nmAt 0) g (zx.contAt (zI fuel) 0 fuel G 0 0 (endX zW zJ))) = zdH fuel (zx.lp (zI fuel) 0 fuel (fun m => bif Nat.beq m 0 then g else G m) (endX zW zJ) 1 zaC) (zx.lp (zI fuel) 0 fuel (fun m => bif Nat.beq m 0 then g else G m) (endX zW zJ) 3 zpL) (fun v => g (zaB v).1 (zaB v).2) v by kernel_rfl).trans (by rw [zx7, zx8]; rfl)
def ziK (fuel : Nat) (X0 : zaR → zi) (x0 : List NY) (x1 : List Bool) (x2 : List WY) (x3 : List (List (List Int))) : zi :=
 cond ((zz (List.length x1)) != (25 : Int))
 (some ((([], ()), ())))
 (X0 ((0 : Int), List.set (List.replicate (Int.toNat (5 : Int)) false) (Int.toNat (0 : Int)) true, x0, x1, x2, x3))
def zdJ (fuel : Nat) (z : (((List NY) × ((List Bool) × ((List WY) × ((List (List (List Int))) × Unit)))) × Unit)) : zi := ziK fuel (iter (zdI fuel) fuel) z.1.1 z.1.2.1 z.1.2.2.1 z.1.2.2.2.1
theorem zya (fuel : Nat) (xa : zJ.rt.T) (xd : zJ.D.T) : zJ.go (zI fuel) fuel zx zW xa xd = zdJ fuel (zJ.xb (xa, xd)) :=
  (show zJ.go (zI fuel) fuel zx zW xa xd = ziK fuel (zx.lp (zI fuel) 0 fuel (fun _ _ _ => none) (endX zW zJ) 0 zaB) xd.1.1 xd.1.2.1 xd.1.2.2.1 xd.1.2.2.2.1 by kernel_rfl).trans (by rw [zx9]; rfl)
abbrev zlb (fuel : Nat) : LE := ⟨zJ, zdJ fuel⟩
theorem zyb (fuel : Nat) : EntryOK Try.prog 8 (zlb fuel).te := okF (T := zI fuel) (fn := Try.f8) (le := zlb fuel) (frz := []) (ann := zpK) (cuts := []) (rv := zW) (TabOK.of (entCons (zfB fuel) entNil) (methNil)) mixed (by kernel_rfl) (by kernel_rfl) (by kernel_rfl) (fun _ => rfl) (fun _ => rfl) (fun xa xd y h => ⟨fuel, (zya fuel xa xd).trans h⟩)
abbrev zQ := Option ((List Bool) × ((Int × Unit) × Unit))
def zan (fuel : Nat) : Tab := Tab.of [] []
def zpM : List Norm := [⟨[6, 0, 1, 3], [], [], []⟩, ⟨[12, 0, 1, 4, 6, 3], [], [], []⟩]
noncomputable def zac : C := irOf Try.prog Try.f13 [] zpM []
def zaT : List (Nat × Option (Nat × Bool)) := [(2, none)]
abbrev zyc : Sx := .rp (Kd.pair (Kd.list KN) (Kd.pair (Kd.list Kd.bool) (Kd.pair (Kd.list KW) (Kd.pair (Kd.list (Kd.list (Kd.list I6))) Kd.unit)))) .nil
abbrev zyd : Sx := .grp (.dat I6 .nil) .nil
abbrev zye : Rt := .arr Kd.bool
abbrev zad : LF := .ref zye zyc zyd true
abbrev zaU := (Int) × (List NY × List Bool × List WY × List (List (List Int)) × Unit) × (Int) × (List Bool)
abbrev zdK := (Int) × (List NY × List Bool × List WY × List (List (List Int)) × Unit) × (Int) × (Int) × (Int) × (List Bool)
def zaD (v : zaU) : Env × Heap := ([(6, SV.int .i64 v.1), (0, SV.ptr 0 0), (1, SV.eptr (Kd.pair (Kd.list KN) (Kd.pair (Kd.list Kd.bool) (Kd.pair (Kd.list KW) (Kd.pair (Kd.list (Kd.list (Kd.list I6))) Kd.unit)))) v.2.1 0), (3, SV.int .i64 v.2.2.1)], [Blk.arr Kd.bool v.2.2.2 0])
def zdL (v : zdK) : Env × Heap := ([(12, SV.int .i64 v.1), (0, SV.ptr 0 0), (1, SV.eptr (Kd.pair (Kd.list KN) (Kd.pair (Kd.list Kd.bool) (Kd.pair (Kd.list KW) (Kd.pair (Kd.list (Kd.list (Kd.list I6))) Kd.unit)))) v.2.1 0), (4, SV.int .i64 v.2.2.1), (6, SV.int .i64 v.2.2.2.1), (3, SV.int .i64 v.2.2.2.2.1)], [Blk.arr Kd.bool v.2.2.2.2.2 0])
def zdM (fuel : Nat) (g0 : zaU → zQ) (g1 : zdK → zQ) (v : zdK) : zQ :=
 cond (decide (v.1 < (5 : Int)))
 (tst (decide (0 ≤ v.1)) <|
 tst (decide (v.1 < (zz 5))) <|
 tst (decide (Int.toNat v.1 < List.length v.2.2.2.2.2)) <|
 cond (List.getD v.2.2.2.2.2 (Int.toNat v.1) false)
 (tst (decide (0 ≤ w64 (w64 (v.1 * (5 : Int)) + v.2.2.1))) <|
 tst (decide (w64 (w64 (v.1 * (5 : Int)) + v.2.2.1) < (zz (List.length v.2.1.2.1)))) <|
 cond (List.getD v.2.1.2.1 (Int.toNat (w64 (w64 (v.1 * (5 : Int)) + v.2.2.1))) false)
 (some ((v.2.2.2.2.2, (v.2.2.1, ()), ())))
 (g1 (w64 (v.1 + (1 : Int)), v.2.1, v.2.2.1, v.2.2.2.1, v.2.2.2.2.1, v.2.2.2.2.2)))
 (g1 (w64 (v.1 + (1 : Int)), v.2.1, v.2.2.1, v.2.2.2.1, v.2.2.2.2.1, v.2.2.2.2.2)))
 (g0 (w64 (v.2.2.2.1 + (1 : Int)), v.2.1, v.2.2.2.2.1, v.2.2.2.2.2))
def zdN (fuel : Nat) (g0 : zaU → zQ) (g1 : zdK → zQ) : zdK → zQ := zdM fuel g0 g1
theorem zyf (fuel : Nat) (G) : zac.lp (zan fuel) 1 fuel G (endX zaT zad) 1 zdL = iter (zdN fuel (fun v => G 0 (zaD v).1 (zaD v).2)) fuel := C.lp_iter fun g v =>
  (show run (zan fuel) 1 fuel (zac.bdAt 1) (zdL v).1 (zdL v).2 (loopK 1 (zac.nmAt 1) g (zac.contAt (zan fuel) 1 fuel G 0 1 (endX zaT zad))) = zdM fuel (fun v => G 0 (zaD v).1 (zaD v).2) (fun v => g (zdL v).1 (zdL v).2) v by kernel_rfl)
def zdO (fuel : Nat) (X1 : zdK → zQ) (g0 : zaU → zQ) (v : zaU) : zQ :=
 cond (decide (v.1 < (5 : Int)))
 (tst (decide (0 ≤ v.1)) <|
 tst (decide (v.1 < (zz 5))) <|
 tst (decide (Int.toNat v.1 < List.length v.2.2.2)) <|
 cond (List.getD v.2.2.2 (Int.toNat v.1) false)
 (g0 (w64 (v.1 + (1 : Int)), v.2.1, v.2.2.1, v.2.2.2))
 (X1 ((0 : Int), v.2.1, v.1, v.1, v.2.2.1, v.2.2.2)))
 (some ((v.2.2.2, (v.2.2.1, ()), ())))
def ziL (fuel : Nat) (g0 : zaU → zQ) : zaU → zQ := zdO fuel (iter (zdN fuel g0) fuel) g0
theorem zyg (fuel : Nat) (G) : zac.lp (zan fuel) 1 fuel G (endX zaT zad) 0 zaD = iter (ziL fuel) fuel := C.lp_iter fun g v =>
  (show run (zan fuel) 1 fuel (zac.bdAt 0) (zaD v).1 (zaD v).2 (loopK 1 (zac.nmAt 0) g (zac.contAt (zan fuel) 1 fuel G 0 0 (endX zaT zad))) = zdO fuel (zac.lp (zan fuel) 1 fuel (fun m => bif Nat.beq m 0 then g else G m) (endX zaT zad) 1 zdL) (fun v => g (zaD v).1 (zaD v).2) v by kernel_rfl).trans (by rw [zyf]; rfl)
def zpN (fuel : Nat) (X0 : zaU → zQ) (d0 : List Bool) (x0 : List NY × List Bool × List WY × List (List (List Int)) × Unit) : zQ :=
 X0 ((0 : Int), x0, (-1 : Int), d0)
def zgp (fuel : Nat) (z : ((List Bool) × (((List NY) × ((List Bool) × ((List WY) × ((List (List (List Int))) × Unit)))) × Unit))) : zQ := zpN fuel (iter (ziL fuel) fuel) z.1 z.2.1
theorem zyh (fuel : Nat) (xa : zad.rt.T) (xd : zad.D.T) : zad.go (zan fuel) fuel zac zaT xa xd = zgp fuel (zad.xb (xa, xd)) :=
  (show zad.go (zan fuel) fuel zac zaT xa xd = zpN fuel (zac.lp (zan fuel) 1 fuel (fun _ _ _ => none) (endX zaT zad) 0 zaD) xa xd.1 by kernel_rfl).trans (by rw [zyg]; rfl)
abbrev zlc (fuel : Nat) : LE := ⟨zad, zgp fuel⟩
theorem zyi (fuel : Nat) : EntryOK Try.prog 13 (zlc fuel).te := okF (T := zan fuel) (fn := Try.f13) (le := zlc fuel) (frz := []) (ann := zpM) (cuts := []) (rv := zaT) (TabOK.of (entNil) (methNil)) mixed (by kernel_rfl) (by kernel_rfl) (by kernel_rfl) (fun _ => rfl) (fun _ => rfl) (fun xa xd y h => ⟨fuel, (zyh fuel xa xd).trans h⟩)
abbrev zae := Option (((List Int) × Unit) × Unit)
noncomputable def zaV (fuel : Nat) : Tab := Tab.ofI [] [] [(13, teIE (zlc fuel).te)]
def zpO : List Norm := [⟨[5, 3, 4], [], [], []⟩, { live := [22, 3, 6], fix := [(6, none, I6, true)] }]
noncomputable def zaW : C := irOf Try.prog Try.f6 [1000001] zpO []
def zbF : List (Nat × Option (Nat × Bool)) := [(2, none)]
abbrev zyj : Sx := .agg (.dat (Kd.list KN) (.dat (Kd.list Kd.bool) (.dat (Kd.list KW) (.dat (Kd.list (Kd.list (Kd.list I6))) .nil)))) .nil
abbrev zyk : Sx := .grp (.own 0 I6 .nil) .nil
abbrev zao : LF := .pure zyj zyk true
abbrev zdP := (Int) × (List NY × List Bool × List WY × List (List (List Int)) × Unit) × (List Bool)
abbrev zdQ := (Int) × (List Bool) × (List Int)
def zdR (v : zdP) : Env × Heap := ([(5, SV.int .i64 v.1), (3, SV.ptr 0 0), (4, SV.fn (Fn.func 13) [] [SV.ptr 0 0, SV.eptr (Kd.pair (Kd.list KN) (Kd.pair (Kd.list Kd.bool) (Kd.pair (Kd.list KW) (Kd.pair (Kd.list (Kd.list (Kd.list I6))) Kd.unit)))) v.2.1 0])], [Blk.arr Kd.bool v.2.2 0])
def zpP (v : zdQ) : Env × Heap := ([(22, SV.int .i64 v.1), (3, SV.ptr 0 0), (6, SV.own 1)], [Blk.arr Kd.bool v.2.1 0, Blk.arr I6 v.2.2 0])
def zgq (fuel : Nat) (g1 : zdQ → zae) (v : zdQ) : zae :=
 cond (decide (v.1 < (5 : Int)))
 (tst (decide (0 ≤ v.1)) <|
 tst (decide (v.1 < (zz 5))) <|
 tst (decide (Int.toNat v.1 < List.length v.2.1)) <|
 cond (List.getD v.2.1 (Int.toNat v.1) false)
 (tst (decide (List.length v.2.2 + 1 < LIM)) <|
 g1 (w64 (v.1 + (1 : Int)), v.2.1, v.2.2 ++ [v.1]))
 (g1 (w64 (v.1 + (1 : Int)), v.2.1, v.2.2)))
 (some (((v.2.2, ()), ())))
def ziM (fuel : Nat) (g1 : zdQ → zae) : zdQ → zae := zgq fuel g1
theorem zyl (fuel : Nat) (G) : zaW.lp (zaV fuel) 0 fuel G (endX zbF zao) 1 zpP = iter (ziM fuel) fuel := C.lp_iter fun g v => by kernel_rfl
def ziN (fuel : Nat) (X1 : zdQ → zae) (g0 : zdP → zae) (v : zdP) : zae :=
 cond (decide (v.1 ≥ (0 : Int)))
 (tst (decide (0 ≤ v.1)) <|
 tst (decide (v.1 < (zz 5))) <|
 tst (decide (Int.toNat v.1 < List.length v.2.2)) <|
 Option.bind (zgp fuel (List.set v.2.2 (Int.toNat v.1) true, v.2.1, ())) fun y_2 =>
 g0 (y_2.2.1.1, v.2.1, y_2.1))
 (X1 ((0 : Int), v.2.2, []))
def ziO (fuel : Nat) (g0 : zdP → zae) : zdP → zae := ziN fuel (iter (ziM fuel) fuel) g0
theorem zym (fuel : Nat) (G) : zaW.lp (zaV fuel) 0 fuel G (endX zbF zao) 0 zdR = iter (ziO fuel) fuel := C.lp_iter fun g v =>
  (show run (zaV fuel) 0 fuel (zaW.bdAt 0) (zdR v).1 (zdR v).2 (loopK 0 (zaW.nmAt 0) g (zaW.contAt (zaV fuel) 0 fuel G 0 0 (endX zbF zao))) = ziN fuel (zaW.lp (zaV fuel) 0 fuel (fun m => bif Nat.beq m 0 then g else G m) (endX zbF zao) 1 zpP) (fun v => g (zdR v).1 (zdR v).2) v by kernel_rfl).trans (by rw [zyl]; rfl)
def ziP (fuel : Nat) (X0 : zdP → zae) (x0 : List NY) (x1 : List Bool) (x2 : List WY) (x3 : List (List (List Int))) : zae :=
 cond ((zz (List.length x1)) != (25 : Int))
 (some ((([], ()), ())))
 (Option.bind (zgp fuel (List.set (List.replicate 5 false) (Int.toNat (0 : Int)) true, (x0, x1, x2, x3, ()), ())) fun y_2 =>
 X0 (y_2.2.1.1, (x0, x1, x2, x3, ()), y_2.1))
def ziQ (fuel : Nat) (z : (((List NY) × ((List Bool) × ((List WY) × ((List (List (List Int))) × Unit)))) × Unit)) : zae := ziP fuel (iter (ziO fuel) fuel) z.1.1 z.1.2.1 z.1.2.2.1 z.1.2.2.2.1
theorem zyn (fuel : Nat) (xa : zao.rt.T) (xd : zao.D.T) : zao.go (zaV fuel) fuel zaW zbF xa xd = ziQ fuel (zao.xb (xa, xd)) :=
  (show zao.go (zaV fuel) fuel zaW zbF xa xd = ziP fuel (zaW.lp (zaV fuel) 0 fuel (fun _ _ _ => none) (endX zbF zao) 0 zdR) xd.1.1 xd.1.2.1 xd.1.2.2.1 xd.1.2.2.2.1 by kernel_rfl).trans (by rw [zym]; rfl)
abbrev zld (fuel : Nat) : LE := ⟨zao, ziQ fuel⟩
theorem zyo (fuel : Nat) : EntryOK Try.prog 6 (zld fuel).te := okF (T := zaV fuel) (fn := Try.f6) (le := zld fuel) (frz := [1000001]) (ann := zpO) (cuts := []) (rv := zbF) (TabOK.ofI (entNil) (methNil) (inlCons (zzL (zyi fuel)) (inlNil))) mixed (by kernel_rfl) (by kernel_rfl) (by kernel_rfl) (fun _ => rfl) (fun _ => rfl) (fun xa xd y h => ⟨fuel, (zyn fuel xa xd).trans h⟩)
def zgr (fuel : Nat) : Tab := Tab.of [] []
def zpQ : List Norm := [⟨[5, 0, 1], [], [], []⟩]
noncomputable def ziR : C := irOf Try.prog Try.f7 [] zpQ []
def zgs : List (Nat × Option (Nat × Bool)) := [(4, none)]
abbrev zyp : Sx := .grp (.dat (Kd.list I6) .nil) (.grp (.dat (Kd.list I6) .nil) .nil)
abbrev zyq : Sx := .grp (.dat Kd.bool .nil) .nil
abbrev zbG : LF := .pure zyp zyq true
abbrev zdS := (Int) × (List Int) × (List Int)
def zpR (v : zdS) : Env × Heap := ([(5, SV.int .i64 v.1), (0, SV.es I6 v.2.1), (1, SV.es I6 v.2.2)], [])
def zgt (fuel : Nat) (g0 : zdS → Option ((Bool × Unit) × Unit)) (v : zdS) : Option ((Bool × Unit) × Unit) :=
 cond (decide (v.1 < (zz (List.length v.2.1))))
 (tst (decide (0 ≤ v.1)) <|
 tst (decide (v.1 < (zz (List.length v.2.1)))) <|
 tst (decide (0 ≤ v.1)) <|
 tst (decide (v.1 < (zz (List.length v.2.2)))) <|
 cond (List.getD v.2.1 (Int.toNat v.1) 0 != List.getD v.2.2 (Int.toNat v.1) 0)
 (some (((false, ()), ())))
 (g0 (w64 (v.1 + (1 : Int)), v.2.1, v.2.2)))
 (some (((true, ()), ())))
def ziS (fuel : Nat) (g0 : zdS → Option ((Bool × Unit) × Unit)) : zdS → Option ((Bool × Unit) × Unit) := zgt fuel g0
theorem zyr (fuel : Nat) (G) : ziR.lp (zgr fuel) 0 fuel G (endX zgs zbG) 0 zpR = iter (ziS fuel) fuel := C.lp_iter fun g v => by kernel_rfl
def ziT (fuel : Nat) (X0 : zdS → Option ((Bool × Unit) × Unit)) (x0 : List Int) (x1 : List Int) : Option ((Bool × Unit) × Unit) :=
 cond ((zz (List.length x0)) != (zz (List.length x1)))
 (some (((false, ()), ())))
 (X0 ((0 : Int), x0, x1))
def zdT (fuel : Nat) (z : (((List Int) × Unit) × (((List Int) × Unit) × Unit))) : Option ((Bool × Unit) × Unit) := ziT fuel (iter (ziS fuel) fuel) z.1.1 z.2.1.1
theorem zys (fuel : Nat) (xa : zbG.rt.T) (xd : zbG.D.T) : zbG.go (zgr fuel) fuel ziR zgs xa xd = zdT fuel (zbG.xb (xa, xd)) :=
  (show zbG.go (zgr fuel) fuel ziR zgs xa xd = ziT fuel (ziR.lp (zgr fuel) 0 fuel (fun _ _ _ => none) (endX zgs zbG) 0 zpR) xd.1.1 xd.2.1.1 by kernel_rfl).trans (by rw [zyr]; rfl)
abbrev zle (fuel : Nat) : LE := ⟨zbG, zdT fuel⟩
theorem zyt (fuel : Nat) : EntryOK Try.prog 7 (zle fuel).te := okF (T := zgr fuel) (fn := Try.f7) (le := zle fuel) (frz := []) (ann := zpQ) (cuts := []) (rv := zgs) (TabOK.of (entNil) (methNil)) mixed (by kernel_rfl) (by kernel_rfl) (by kernel_rfl) (fun _ => rfl) (fun _ => rfl) (fun xa xd y h => ⟨fuel, (zys fuel xa xd).trans h⟩)
end Go.Proofs.Ytljojacnjjgceaa.Den
namespace Go.Proofs.Ytljojacnjjgceaa.Den
open Go
def lk (L : List Bool) (a b : Nat) : Bool := L.getD (a * 5 + b) false
def on (s : List Bool) (i : Nat) : Prop := s.getD i false = true
inductive Rch (L : List Bool) : Nat → Prop
  | root : Rch L 0
  | step {a b : Nat} : Rch L a → a < 5 → b < 5 → lk L a b = true → Rch L b
theorem on_set {s : List Bool} {i j : Nat} {v : Bool} (h : i < s.length) : on (s.set i v) j ↔ if i = j then v = true else on s j := by
  unfold on
  rw [List.getD_eq_getElem?_getD, List.getElem?_set]
  split
  · simp [h]
  · rw [List.getD_eq_getElem?_getD]
def Snd (L s : List Bool) : Prop := ∀ i, on s i → Rch L i
def Clo (L s : List Bool) : Prop := ∀ a b, a < 5 → b < 5 → on s a → lk L a b = true → on s b
theorem on_iff {L s : List Bool} (h0 : on s 0) (hs : Snd L s) (hc : Clo L s) (i : Nat) : on s i ↔ Rch L i := by
  refine ⟨hs i, fun h => ?_⟩
  induction h with
  | root => exact h0
  | step _ ha hb hl ih => exact hc _ _ ha hb ih hl
theorem ext_on {s t : List Bool} (hl : s.length = t.length) (h : ∀ i, on s i ↔ on t i) : s = t := by
  refine List.ext_getElem hl fun i h1 h2 => ?_
  have := h i
  unfold on at this
  rw [List.getD_eq_getElem?_getD, List.getD_eq_getElem?_getD, List.getElem?_eq_getElem h1, List.getElem?_eq_getElem h2] at this
  simp only [Option.getD_some] at this
  cases hx : s[i] <;> cases hy : t[i] <;> simp_all
theorem grow : ∀ {s t : List Bool}, s.length = t.length → (∀ i, on s i → on t i) → s = t ∨ s.count true < t.count true
  | [], [], _, _ => .inl rfl
  | [], _ :: _, h, _ => by simp at h
  | _ :: _, [], h, _ => by simp at h
  | x :: s, y :: t, hl, h => by
    have h0 : x = true → y = true := h 0
    have hr := grow (s := s) (t := t) (by simpa using hl) fun i hi => h (i + 1) hi
    rcases hr with rfl | hr
    · cases x <;> cases y <;> simp_all
    · right
      cases x <;> cases y <;> simp_all <;> omega
def up (L : List Bool) (s : List Bool) (p : Nat × Nat) : List Bool := s.set p.2 (s.getD p.2 false || (s.getD p.1 false && lk L p.1 p.2))
def row5 (a : Nat) : List (Nat × Nat) := [(a, 0), (a, 1), (a, 2), (a, 3), (a, 4)]
def prs : List (Nat × Nat) := row5 0 ++ row5 1 ++ row5 2 ++ row5 3 ++ row5 4
def rnd (L s : List Bool) : List Bool := prs.foldl (up L) s
theorem up_on {L s : List Bool} {p : Nat × Nat} {i : Nat} (h : p.2 < s.length) : on (up L s p) i ↔ on s i ∨ (i = p.2 ∧ on s p.1 ∧ lk L p.1 p.2 = true) := by
  unfold up
  rw [on_set h]
  by_cases e : p.2 = i
  · subst e; simp [on]
  · rw [if_neg e]; constructor
    · exact .inl
    · rintro (h | ⟨h, _⟩)
      · exact h
      · exact absurd h.symm e
theorem ups_len {L : List Bool} : ∀ {l : List (Nat × Nat)} {s : List Bool}, (l.foldl (up L) s).length = s.length
  | [], s => rfl
  | p :: l, s => by rw [List.foldl_cons, ups_len]; simp [up]
theorem ups {L : List Bool} : ∀ {l : List (Nat × Nat)} {s : List Bool}, s.length = 5 → (∀ p ∈ l, p.1 < 5 ∧ p.2 < 5) →
    (l.foldl (up L) s).length = 5 ∧ (∀ i, on s i → on (l.foldl (up L) s) i) ∧ (Snd L s → Snd L (l.foldl (up L) s)) ∧ ∀ p ∈ l, on s p.1 → lk L p.1 p.2 = true → on (l.foldl (up L) s) p.2
  | [], s, hs, _ => ⟨hs, fun _ h => h, fun h => h, fun p h => by simp at h⟩
  | q :: l, s, hs, hl => by
    have hq := hl q (by simp)
    have h1 : (up L s q).length = 5 := by simp [up, hs]
    obtain ⟨g1, g2, g3, g4⟩ := ups (L := L) (l := l) h1 fun p hp => hl p (by simp [hp])
    have ho : ∀ {i}, on (up L s q) i ↔ _ := fun {i} => up_on (L := L) (p := q) (i := i) (by rw [hs]; exact hq.2)
    refine ⟨g1, fun i h => g2 i (ho.2 (.inl h)), fun h => g3 fun i hi => ?_, fun p hp h2 h3 => ?_⟩
    · rcases ho.1 hi with h4 | ⟨rfl, h5, h6⟩
      · exact h i h4
      · exact .step (h _ h5) hq.1 hq.2 h6
    · rcases List.mem_cons.1 hp with rfl | hp
      · exact g2 _ (ho.2 (.inr ⟨rfl, h2, h3⟩))
      · exact g4 p hp (ho.2 (.inl h2)) h3
theorem prs_lt : ∀ p ∈ prs, p.1 < 5 ∧ p.2 < 5 := by decide
theorem prs_all {a b : Nat} (ha : a < 5) (hb : b < 5) : (a, b) ∈ prs := by
  rcases show a = 0 ∨ a = 1 ∨ a = 2 ∨ a = 3 ∨ a = 4 by omega with rfl | rfl | rfl | rfl | rfl <;> rcases show b = 0 ∨ b = 1 ∨ b = 2 ∨ b = 3 ∨ b = 4 by omega with rfl | rfl | rfl | rfl | rfl <;> decide
theorem zrY {L s : List Bool} (hs : s.length = 5) : (rnd L s).length = 5 ∧ (∀ i, on s i → on (rnd L s) i) ∧ (Snd L s → Snd L (rnd L s)) ∧ (rnd L s = s → Clo L s) := by
  obtain ⟨h1, h2, h3, h4⟩ := ups (L := L) (l := prs) hs prs_lt
  exact ⟨h1, h2, h3, fun he a b ha hb h5 h6 => by have := h4 (a, b) (prs_all ha hb) h5 h6; rw [← he]; exact this⟩
def rnds (L : List Bool) : Nat → List Bool → List Bool
  | 0, s => s
  | n + 1, s => rnds L n (rnd L s)
theorem zrZ {L s : List Bool} (h : rnd L s = s) : ∀ n, rnds L n s = s
  | 0 => rfl
  | n + 1 => by rw [rnds, h, zrZ h n]
theorem zjs {L : List Bool} : ∀ (n : Nat) {s : List Bool}, s.length = 5 → 6 ≤ s.count true + n → (rnds L n s).length = 5 ∧ (∀ i, on s i → on (rnds L n s) i) ∧ (Snd L s → Snd L (rnds L n s)) ∧ Clo L (rnds L n s)
  | 0, s, hs, hn => by have := List.count_le_length (a := true) (l := s); omega
  | n + 1, s, hs, hn => by
    obtain ⟨h1, h2, h3, h4⟩ := zrY (L := L) hs
    rcases grow (hs.trans h1.symm) h2 with e | e
    · rw [zrZ e.symm]
      exact ⟨hs, fun _ h => h, fun h => h, h4 e.symm⟩
    · obtain ⟨g1, g2, g3, g4⟩ := zjs (L := L) n h1 (by omega)
      exact ⟨g1, fun i hi => g2 i (h2 i hi), fun h => g3 (h3 h), g4⟩
def hit (L s : List Bool) (far : Nat) : Bool := !s.getD far false && (List.range' 0 5).any fun o => s.getD o false && lk L o far
def nxt (L s : List Bool) : Option Nat := (List.range' 0 5).find? (hit L s)
def ones (L : List Bool) : Nat → List Bool → List Bool
  | 0, s => s
  | n + 1, s => match nxt L s with
    | some far => ones L n (s.set far true)
    | none => s
theorem zr0 {L s : List Bool} {far : Nat} (h : nxt L s = some far) : far < 5 ∧ ¬ on s far ∧ ∃ o, o < 5 ∧ on s o ∧ lk L o far = true := by
  unfold nxt at h
  have h1 := List.find?_some h
  have h2 := List.mem_of_find?_eq_some h
  simp only [hit, Bool.and_eq_true, Bool.not_eq_true', List.any_eq_true] at h1
  obtain ⟨h3, o, h4, h5⟩ := h1
  simp only [List.mem_range'_1] at h2 h4
  exact ⟨by omega, by unfold on; rw [h3]; simp, o, by omega, h5⟩
theorem zA8 {L s : List Bool} (h : nxt L s = none) : Clo L s := by
  intro a b ha hb h1 h2
  unfold nxt at h
  rw [List.find?_eq_none] at h
  have h3 := h b (by simp [List.mem_range'_1]; omega)
  unfold on
  cases hx : s.getD b false with
  | true => rfl
  | false =>
    refine absurd ?_ h3
    simp only [hit, Bool.and_eq_true, Bool.not_eq_true', List.any_eq_true]
    exact ⟨hx, a, by simp only [List.mem_range'_1]; omega, h1, h2⟩
theorem zr1 {L : List Bool} : ∀ (n : Nat) {s : List Bool}, s.length = 5 → 6 ≤ s.count true + n → (ones L n s).length = 5 ∧ (∀ i, on s i → on (ones L n s) i) ∧ (Snd L s → Snd L (ones L n s)) ∧ Clo L (ones L n s)
  | 0, s, hs, hn => by have := List.count_le_length (a := true) (l := s); omega
  | n + 1, s, hs, hn => by
    rw [ones]
    split
    · rename_i far h
      obtain ⟨h1, h2, o, h3, h4, h5⟩ := zr0 h
      have hl : (s.set far true).length = 5 := by simp [hs]
      have hm : ∀ i, on s i → on (s.set far true) i := fun i hi => (on_set (by omega)).2 (by split <;> simp_all)
      have hne : s ≠ s.set far true := fun e => h2 (by rw [e]; exact (on_set (by omega)).2 (by simp))
      have hg := (grow (hs.trans hl.symm) hm).resolve_left hne
      obtain ⟨g1, g2, g3, g4⟩ := zr1 (L := L) n hl (by omega)
      refine ⟨g1, fun i hi => g2 i (hm i hi), fun hsn => g3 fun i hi => ?_, g4⟩
      rw [on_set (by omega)] at hi
      split at hi
      · rename_i e; subst e
        exact .step (hsn o h4) h3 h1 h5
      · exact hsn i hi
    · rename_i h
      exact ⟨hs, fun _ h => h, fun h => h, zA8 h⟩
def seen0 : List Bool := [true, false, false, false, false]
theorem zr2 {L : List Bool} : Snd L seen0 := by
  intro i hi
  cases i with
  | zero => exact .root
  | succ i =>
    exfalso
    unfold on seen0 at hi
    rcases i with _ | _ | _ | _ | i <;> simp at hi
def reachS (L : List Bool) : List Bool := rnds L 5 seen0
theorem zr3 {L : List Bool} (i : Nat) : on (reachS L) i ↔ Rch L i := by
  obtain ⟨h1, h2, h3, h4⟩ := zjs (L := L) 5 (s := seen0) rfl (by decide)
  exact on_iff (h2 0 rfl) (h3 zr2) h4 i
theorem ones_eq {L : List Bool} : ones L 5 seen0 = reachS L := by
  obtain ⟨h1, h2, h3, h4⟩ := zr1 (L := L) 5 (s := seen0) rfl (by decide)
  exact ext_on (h1.trans (zjs (L := L) 5 (s := seen0) rfl (by decide)).1.symm) fun i => (on_iff (h2 0 rfl) (h3 zr2) h4 i).trans (zr3 i).symm
theorem zcf {L : List Bool} : (reachS L).length = 5 := (zjs (L := L) 5 (s := seen0) rfl (by decide)).1
def outS5 (s : List Bool) : List Int := ((List.range' 0 5).filter fun i => s.getD i false).map fun i : Nat => (i : Int)
def reachL (L : List Bool) : List Int := if L.length = 25 then outS5 (reachS L) else []
section
variable {R σ : Type}
theorem zr4 {p : Nat → Bool} {r : Option R} {body : Nat → (Unit → Option R) → Unit → Option R} {fin : Unit → Option R} (hb : ∀ i k, body i k () = cond (p i) r (k ())) : ∀ (d i : Nat), upGo body fin d i () = cond ((List.range' i d).any p) r (fin ())
  | 0, i => rfl
  | d + 1, i => by
    show body i _ () = _
    rw [hb, zr4 hb d (i + 1), List.range'_succ, List.any_cons]
    cases p i <;> rfl
theorem zr5 {p : Nat → Bool} {r : Nat → Option R} {body : Nat → (Unit → Option R) → Unit → Option R} {fin : Unit → Option R} (hb : ∀ i k, body i k () = cond (p i) (r i) (k ())) : ∀ (d i : Nat), upGo body fin d i () = match (List.range' i d).find? p with
      | some x => r x
      | none => fin ()
  | 0, i => rfl
  | d + 1, i => by
    show body i _ () = _
    rw [hb, zr5 hb d (i + 1), List.range'_succ, List.find?_cons]
    cases p i <;> rfl
end
theorem upGo5 {R σ : Type} {F : Nat → σ → σ} {fin : σ → Option R} (s : σ) : upGo (fun a k s => k (F a s)) fin 5 0 s = fin (F 4 (F 3 (F 2 (F 1 (F 0 s))))) := rfl
theorem i5 {i : Nat} (h : i < 5) : ((i : Int) < 5) := by omega
theorem n5 : ¬ (((5 : Nat) : Int) < 5) := by decide
theorem mul5 {a b : Nat} (ha : a < 5) (hb : b < 5) : w64 (w64 ((a : Int) * 5) + (b : Int)) = ((a * 5 + b : Nat) : Int) := by
  have h : w64 ((a : Int) * 5) = (a : Int) * 5 := by rw [w64_id] <;> omega
  rw [h, w64_id] <;> omega
section
variable (f : Nat) (hf : 100 < f) (ns : List NY) (L : List Bool) (hL : L.length = 25) (ws : List WY) (ps : List (List (List Int)))
include hf hL
theorem zA9 (g1 : zaS → zi) (a : Nat) (ha : a < 5) (r : Int) (s : List Bool) (hs : s.length = 5) :
    iter (zdE f g1) f ((0 : Int), (a : Int), r, s, ns, L, ws, ps) = g1 (((a + 1 : Nat) : Int), r, (row5 a).foldl (up L) s, ns, L, ws, ps) := by
  have h := iter_up (st := zdE f g1) (enc := fun b (s : {s : List Bool // s.length = 5}) => ((b : Int), (a : Int), r, s.1, ns, L, ws, ps)) (body := fun b k s => k ⟨up L s.1 (a, b), by simp [up, s.2]⟩)
    (fin := fun s => g1 (((a + 1 : Nat) : Int), r, s.1, ns, L, ws, ps)) 5
    (fun b s g hb => by
      obtain ⟨s, hs⟩ := s
      show zdD f g1 g _ = _
      unfold zdD
      have e : zS f (((a : Int), ()), ((b : Int), ()), ()) = some ((((a * 5 + b : Nat) : Int), ()), ()) := by
        show some (((w64 (w64 ((a : Int) * 5) + b), ()), ())) = _
        rw [mul5 ha hb]
      have h1 : (((a * 5 + b : Nat) : Int)) < ((25 : Nat) : Int) := by omega
      simp only [zz_eq, hs, i5 hb, i5 ha, lt_cast hb, lt_cast ha, le_cast, hb, ha, h1, decide_true, cond_true, Int.toNat_natCast, e, Option.bind_some, w64_up (show b < 4294967296 by omega), hL]
      cases hx : s.getD b false with
      | true => simp only [cond_true, up, hx, Bool.true_or]
      | false =>
        cases hy : s.getD a false with
        | true => simp only [cond_true, cond_false, up, hx, hy, lk, Bool.false_or, Bool.true_and]
        | false => simp only [cond_false, up, hx, hy, Bool.false_or, Bool.false_and])
    (fun s g => by
      show zdD f g1 g _ = _
      unfold zdD
      simp only [n5, decide_false, cond_false, w64_up (show a < 4294967296 by omega)])
    5 0 ⟨s, hs⟩ f (by omega) (by omega)
  exact h
theorem zBa (g0 : zaR → zi) (r : Nat) (hr : r < 5) (s : List Bool) (hs : s.length = 5) :
    iter (zdG f g0) f ((0 : Int), (r : Int), s, ns, L, ws, ps) = g0 (((r + 1 : Nat) : Int), rnd L s, ns, L, ws, ps) := by
  have h := iter_up (st := zdG f g0) (enc := fun a (s : {s : List Bool // s.length = 5}) => ((a : Int), (r : Int), s.1, ns, L, ws, ps))
    (body := fun a k s => k ⟨(row5 a).foldl (up L) s.1, ups_len.trans s.2⟩)
    (fin := fun s => g0 (((r + 1 : Nat) : Int), s.1, ns, L, ws, ps)) 5
    (fun a s g ha => by
      obtain ⟨s, hs⟩ := s
      show zdF f g0 (iter (zdE f g) f) g _ = _
      unfold zdF
      simp only [i5 ha, decide_true, cond_true]
      rw [zA9 f hf ns L hL ws ps g a ha (r : Int) s hs])
    (fun s g => by
      show zdF f g0 (iter (zdE f g) f) g _ = _
      unfold zdF
      simp only [n5, decide_false, cond_false, w64_up (show r < 4294967296 by omega)])
    5 0 ⟨s, hs⟩ f (by omega) (by omega)
  rw [show rnd L s = (row5 4).foldl (up L) ((row5 3).foldl (up L) ((row5 2).foldl (up L) ((row5 1).foldl (up L) ((row5 0).foldl (up L) s)))) by simp only [rnd, prs, List.foldl_append]]
  refine Eq.trans ?_ (h.trans ?_)
  · rfl
  · rw [upGo5 (F := fun a (s : {s : List Bool // s.length = 5}) => (⟨(row5 a).foldl (up L) s.1, ups_len.trans s.2⟩ : {s : List Bool // s.length = 5}))]
end
theorem zr6 {st : (Int × List Bool × List Int → Option ((List Int × Unit) × Unit)) → Int × List Bool × List Int → Option ((List Int × Unit) × Unit)} {s : List Bool} {f : Nat} (hf : 100 < f)
    (hs : ∀ (i : Nat) (o : List Int) g, i < 5 → o.length ≤ i → st g ((i : Int), s, o) = g (((i + 1 : Nat) : Int), s, if s.getD i false then o ++ [(i : Int)] else o)) (he : ∀ (o : List Int) g, st g (((5 : Nat) : Int), s, o) = some ((o, ()), ())) :
    iter st f ((0 : Int), s, []) = some ((outS5 s, ()), ()) := by
  have h : ∀ (d i : Nat) (o : List Int) (f : Nat), i + d = 5 → o.length ≤ i → d < f → iter st f ((i : Int), s, o) = some ((o ++ ((List.range' i d).filter fun i => s.getD i false).map fun i : Nat => (i : Int), ()), ()) := by
    intro d
    induction d with
    | zero =>
      intro i o f hi ho hf
      obtain ⟨f, rfl⟩ : ∃ g, f = g + 1 := ⟨f - 1, by omega⟩
      obtain rfl : i = 5 := by omega
      rw [iter, he]; simp
    | succ d ih =>
      intro i o f hi ho hf
      obtain ⟨f, rfl⟩ : ∃ g, f = g + 1 := ⟨f - 1, by omega⟩
      rw [iter, hs i o _ (by omega) ho, ih (i + 1) _ f (by omega) (by rcases s.getD i false with _ | _ <;> simp <;> omega) (by omega), List.range'_succ, List.filter_cons]
      split <;> simp
  have := h 5 0 [] f (by omega) (by simp) (by omega)
  simpa [outS5] using this
theorem lim5 {n : Nat} (h : n < 5) : n + 1 < LIM := by unfold LIM; omega
section
variable (f : Nat) (hf : 100 < f) (ns : List NY) (L : List Bool) (hL : L.length = 25) (ws : List WY) (ps : List (List (List Int)))
include hf
theorem zBb (s : List Bool) (hs : s.length = 5) : iter (zgo f) f ((0 : Int), s, []) = some ((outS5 s, ()), ()) :=
  zr6 hf (fun i o g hi ho => by
    show zgn f g _ = _
    unfold zgn
    simp only [zz_eq, hs, i5 hi, lt_cast hi, le_cast, hi, lim5 (show o.length < 5 by omega), decide_true, cond_true, Int.toNat_natCast, w64_up (show i < 4294967296 by omega)]
    cases s.getD i false <;> rfl)
  (fun o g => by
    show zgn f g _ = _
    unfold zgn
    simp only [n5, decide_false, cond_false])
theorem zBc (s : List Bool) (hs : s.length = 5) : iter (ziM f) f ((0 : Int), s, []) = some ((outS5 s, ()), ()) :=
  zr6 hf (fun i o g hi ho => by
    show zgq f g _ = _
    unfold zgq
    simp only [zz_eq, hs, i5 hi, lt_cast hi, le_cast, hi, lim5 (show o.length < 5 by omega), decide_true, cond_true, Int.toNat_natCast, w64_up (show i < 4294967296 by omega)]
    cases s.getD i false <;> rfl)
  (fun o g => by
    show zgq f g _ = _
    unfold zgq
    simp only [n5, decide_false, cond_false])
theorem zBd : zdJ f ((ns, L, ws, ps, ()), ()) = some ((reachL L, ()), ()) := by
  show ziK f (iter (zdI f) f) ns L ws ps = _
  unfold ziK reachL
  by_cases hL : L.length = 25
  · have hb : (zz L.length != (25 : Int)) = false := by rw [zz_eq, hL]; rfl
    rw [hb, cond_false, if_pos hL]
    have h : ∀ (d r : Nat) (s : List Bool) (g : Nat), r + d = 5 → s.length = 5 → d < g → iter (zdI f) g ((r : Int), s, ns, L, ws, ps) = some ((outS5 (rnds L d s), ()), ()) := by
      intro d
      induction d with
      | zero =>
        intro r s g hr hs hg
        obtain ⟨g, rfl⟩ : ∃ h, g = h + 1 := ⟨g - 1, by omega⟩
        obtain rfl : r = 5 := by omega
        rw [iter]
        show zdH f (iter (zdG f (iter (zdI f) g)) f) (iter (zgo f) f) _ _ = _
        unfold zdH
        simp only [n5, decide_false, cond_false]
        exact zBb f hf s hs
      | succ d ih =>
        intro r s g hr hs hg
        obtain ⟨g, rfl⟩ : ∃ h, g = h + 1 := ⟨g - 1, by omega⟩
        rw [iter]
        show zdH f (iter (zdG f (iter (zdI f) g)) f) (iter (zgo f) f) _ _ = _
        unfold zdH
        simp only [i5 (show r < 5 by omega), decide_true, cond_true]
        rw [zBa f hf ns L hL ws ps _ r (by omega) s hs]
        exact ih (r + 1) _ g (by omega) (zrY (L := L) hs).1 (by omega)
    exact h 5 0 seen0 f (by omega) rfl (by omega)
  · have hb : (zz L.length != (25 : Int)) = true := by rw [zz_eq]; simp; omega
    rw [hb, cond_true, if_neg hL]
include hL
theorem zBe (g0 : zaU → zQ) (far : Nat) (hfar : far < 5) (s : List Bool) (hs : s.length = 5) :
    iter (zdN f g0) f ((0 : Int), (ns, L, ws, ps, ()), (far : Int), (far : Int), (-1 : Int), s) =
      cond ((List.range' 0 5).any fun o => s.getD o false && lk L o far) (some ((s, ((far : Int), ()), ()))) (g0 (((far + 1 : Nat) : Int), (ns, L, ws, ps, ()), (-1 : Int), s)) := by
  have h := iter_up (st := zdN f g0) (enc := fun o (_ : Unit) => ((o : Int), (ns, L, ws, ps, ()), (far : Int), (far : Int), (-1 : Int), s))
    (body := fun o k _ => cond (s.getD o false && lk L o far) (some ((s, ((far : Int), ()), ()))) (k ()))
    (fin := fun _ => g0 (((far + 1 : Nat) : Int), (ns, L, ws, ps, ()), (-1 : Int), s)) 5
    (fun o _ g ho => by
      show zdM f g0 g _ = _
      unfold zdM
      have h1 : (((o * 5 + far : Nat) : Int)) < ((25 : Nat) : Int) := by omega
      simp only [zz_eq, hs, i5 ho, lt_cast ho, le_cast, ho, h1, decide_true, cond_true, Int.toNat_natCast, mul5 ho hfar, w64_up (show o < 4294967296 by omega), hL]
      cases hx : s.getD o false with
      | true => simp only [cond_true, Bool.true_and, lk]
      | false => simp only [cond_false, Bool.false_and])
    (fun _ g => by
      show zdM f g0 g _ = _
      unfold zdM
      simp only [n5, decide_false, cond_false, w64_up (show far < 4294967296 by omega)])
    5 0 () f (by omega) (by omega)
  refine h.trans ?_
  rw [zr4 (fun _ _ => rfl)]
theorem zr7 (s : List Bool) (hs : s.length = 5) : zgp f (s, (ns, L, ws, ps, ()), ()) = some ((s, ((match nxt L s with
    | some far => (far : Int)
    | none => -1), ()), ())) := by
  show iter (ziL f) f ((0 : Int), (ns, L, ws, ps, ()), (-1 : Int), s) = _
  have h := iter_up (st := ziL f) (enc := fun far (_ : Unit) => ((far : Int), (ns, L, ws, ps, ()), (-1 : Int), s))
    (body := fun far k _ => cond (hit L s far) (some ((s, ((far : Int), ()), ()))) (k ()))
    (fin := fun _ => some ((s, ((-1 : Int), ()), ()))) 5
    (fun far _ g hfar => by
      show zdO f (iter (zdN f g) f) g _ = _
      unfold zdO
      simp only [zz_eq, hs, i5 hfar, lt_cast hfar, le_cast, hfar, decide_true, cond_true, Int.toNat_natCast, w64_up (show far < 4294967296 by omega)]
      cases hx : s.getD far false with
      | true => simp only [cond_true, hit, hx, Bool.not_true, Bool.false_and, cond_false]
      | false =>
        simp only [cond_false, hit, hx, Bool.not_false, Bool.true_and]
        exact zBe f hf ns L hL ws ps g far hfar s hs)
    (fun _ g => by
      show zdO f (iter (zdN f g) f) g _ = _
      unfold zdO
      simp only [n5, decide_false, cond_false])
    5 0 () f (by omega) (by omega)
  refine h.trans ?_
  rw [zr5 (fun _ _ => rfl)]
  unfold nxt
  split <;> simp_all
theorem implLoop : ∀ (n : Nat) (s : List Bool) (g : Nat), s.length = 5 → 6 ≤ s.count true + n → n < g →
    iter (ziO f) g ((match nxt L s with
      | some far => (far : Int)
      | none => -1), (ns, L, ws, ps, ()), s) = some ((outS5 (ones L n s), ()), ()) := by
  intro n
  induction n with
  | zero => intro s g hs hn _; have := List.count_le_length (a := true) (l := s); omega
  | succ n ih =>
    intro s g hs hn hg
    obtain ⟨g, rfl⟩ : ∃ h, g = h + 1 := ⟨g - 1, by omega⟩
    rw [iter]
    show ziN f (iter (ziM f) f) _ _ = _
    unfold ziN
    cases hx : nxt L s with
    | none =>
      simp only [hx, show ¬ ((-1 : Int) ≥ 0) by decide, decide_false, cond_false, ones]
      exact zBc f hf s hs
    | some far =>
      obtain ⟨h1, h2, o, h3, h4, h5⟩ := zr0 hx
      have hl : (s.set far true).length = 5 := by simp [hs]
      have hm : ∀ i, on s i → on (s.set far true) i := fun i hi => (on_set (by omega)).2 (by split <;> simp_all)
      have hne : s ≠ s.set far true := fun e => h2 (by rw [e]; exact (on_set (by omega)).2 (by simp))
      have hg := (grow (hs.trans hl.symm) hm).resolve_left hne
      have h6 : ((far : Int) ≥ 0) := by omega
      simp only [hx, zz_eq, h6, hs, lt_cast h1, le_cast, h1, decide_true, cond_true, Int.toNat_natCast, zr7 f hf ns L hL ws ps _ hl, Option.bind_some, ones]
      exact ih _ g hl (by omega) (by omega)
omit hL
theorem zBf : ziQ f ((ns, L, ws, ps, ()), ()) = some ((reachL L, ()), ()) := by
  show ziP f (iter (ziO f) f) ns L ws ps = _
  unfold ziP reachL
  by_cases hL : L.length = 25
  · have hb : (zz L.length != (25 : Int)) = false := by rw [zz_eq, hL]; rfl
    rw [hb, cond_false, if_pos hL]
    have e : List.set (List.replicate 5 false) (Int.toNat (0 : Int)) true = seen0 := rfl
    rw [e, zr7 f hf ns L hL ws ps seen0 rfl, Option.bind_some, ← ones_eq]
    exact implLoop f hf ns L hL ws ps 5 seen0 f rfl (by decide) (by omega)
  · have hb : (zz L.length != (25 : Int)) = true := by rw [zz_eq]; simp; omega
    rw [hb, cond_true, if_neg hL]
end
end Go.Proofs.Ytljojacnjjgceaa.Den
