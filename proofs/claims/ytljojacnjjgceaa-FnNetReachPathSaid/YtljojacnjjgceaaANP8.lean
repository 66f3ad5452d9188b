/- Part 8 of the texts behind the row. -/
import Derived.Test.YtljojacnjjgceaaANP7
set_option linter.unusedVariables false
set_option linter.unusedSimpArgs false
namespace Go.Proofs.Ytljojacnjjgceaa.Den
open Go Go.RowKit
def zak (fuel : Nat) : Tab := Tab.of [(15, (zm fuel).te)] []
def zon : List Norm := [⟨[5, 2, 1], [], [], []⟩, ⟨[6, 2, 1, 5], [], [], []⟩]
noncomputable def z9 : C := irOf Try.prog Try.f16 [] zon []
def zaO : List (Nat × Option (Nat × Bool)) := [(4, none)]
abbrev zvn : Sx := .agg (.dat (Kd.list KN) (.dat (Kd.list Kd.bool) (.dat (Kd.list KW) (.dat (Kd.list (Kd.list (Kd.list I6))) .nil)))) (.grp (.dat I6 .nil) .nil)
abbrev zvo : Sx := .grp (.dat Kd.bool .nil) .nil
abbrev zaa : LF := .pure zvn zvo true
abbrev zbp := (Int) × (Int) × (List NY) × (List Bool) × (List WY) × (List (List (List Int)))
abbrev zcL := (Int) × (Int) × (Int) × (List NY) × (List Bool) × (List WY) × (List (List (List Int)))
def zaw (v : zbp) : Env × Heap := ([(5, SV.int .i64 v.1), (2, SV.ptr 0 0), (1, SV.int .i64 v.2.1)], [Blk.cells [SV.es KN v.2.2.1, SV.es Kd.bool v.2.2.2.1, SV.es KW v.2.2.2.2.1, SV.es (Kd.list (Kd.list I6)) v.2.2.2.2.2] 0 4])
def zcM (v : zcL) : Env × Heap := ([(6, SV.int .i64 v.1), (2, SV.ptr 0 0), (1, SV.int .i64 v.2.1), (5, SV.int .i64 v.2.2.1)], [Blk.cells [SV.es KN v.2.2.2.1, SV.es Kd.bool v.2.2.2.2.1, SV.es KW v.2.2.2.2.2.1, SV.es (Kd.list (Kd.list I6)) v.2.2.2.2.2.2] 0 4])
def zcN (fuel : Nat) (g0 : zbp → Option ((Bool × Unit) × Unit)) (g1 : zcL → Option ((Bool × Unit) × Unit)) (v : zcL) : Option ((Bool × Unit) × Unit) :=
 tst (decide (0 ≤ v.2.1)) <|
 tst (decide (v.2.1 < (zz (List.length v.2.2.2.2.2.2)))) <|
 tst (decide (0 ≤ v.2.2.1)) <|
 tst (decide (v.2.2.1 < (zz (List.length (List.getD v.2.2.2.2.2.2 (Int.toNat v.2.1) []))))) <|
 cond (decide (v.1 < (zz (List.length (List.getD (List.getD v.2.2.2.2.2.2 (Int.toNat v.2.1) []) (Int.toNat v.2.2.1) [])))))
 (tst (decide (0 ≤ v.2.1)) <|
 tst (decide (v.2.1 < (zz (List.length v.2.2.2.2.2.2)))) <|
 tst (decide (0 ≤ v.2.2.1)) <|
 tst (decide (v.2.2.1 < (zz (List.length (List.getD v.2.2.2.2.2.2 (Int.toNat v.2.1) []))))) <|
 tst (decide (0 ≤ v.1)) <|
 tst (decide (v.1 < (zz (List.length (List.getD (List.getD v.2.2.2.2.2.2 (Int.toNat v.2.1) []) (Int.toNat v.2.2.1) []))))) <|
 Option.bind (zc fuel ((List.getD (List.getD (List.getD v.2.2.2.2.2.2 (Int.toNat v.2.1) []) (Int.toNat v.2.2.1) []) (Int.toNat v.1) 0, ()), ((0 : Int), ()), ((63 : Int), ()), ())) fun y_2 =>
 cond (!y_2.1.1)
 (some (((false, ()), ())))
 (g1 (w64 (v.1 + (1 : Int)), v.2.1, v.2.2.1, v.2.2.2.1, v.2.2.2.2.1, v.2.2.2.2.2.1, v.2.2.2.2.2.2)))
 (tst (decide (0 ≤ v.2.1)) <|
 tst (decide (v.2.1 < (zz (List.length v.2.2.2.2.2.2)))) <|
 tst (decide (0 ≤ v.2.2.1)) <|
 tst (decide (v.2.2.1 < (zz (List.length (List.getD v.2.2.2.2.2.2 (Int.toNat v.2.1) []))))) <|
 cond (decide ((zz (List.length (List.getD (List.getD v.2.2.2.2.2.2 (Int.toNat v.2.1) []) (Int.toNat v.2.2.1) []))) > (100 : Int)))
 (some (((false, ()), ())))
 (g0 (w64 (v.2.2.1 + (1 : Int)), v.2.1, v.2.2.2.1, v.2.2.2.2.1, v.2.2.2.2.2.1, v.2.2.2.2.2.2)))
def zkg (fuel : Nat) (g0 : zbp → Option ((Bool × Unit) × Unit)) (g1 : zcL → Option ((Bool × Unit) × Unit)) : zcL → Option ((Bool × Unit) × Unit) := zcN fuel g0 g1
theorem zvp (fuel : Nat) (G) : z9.lp (zak fuel) 0 fuel G (endX zaO zaa) 1 zcM = iter (zkg fuel (fun v => G 0 (zaw v).1 (zaw v).2)) fuel := C.lp_iter fun g v =>
  (show run (zak fuel) 0 fuel (z9.bdAt 1) (zcM v).1 (zcM v).2 (loopK 0 (z9.nmAt 1) g (z9.contAt (zak fuel) 0 fuel G 0 1 (endX zaO zaa))) = zcN fuel (fun v => G 0 (zaw v).1 (zaw v).2) (fun v => g (zcM v).1 (zcM v).2) v by kernel_rfl)
def zcO (fuel : Nat) (X1 : zcL → Option ((Bool × Unit) × Unit)) (g0 : zbp → Option ((Bool × Unit) × Unit)) (v : zbp) : Option ((Bool × Unit) × Unit) :=
 tst (decide (0 ≤ v.2.1)) <|
 tst (decide (v.2.1 < (zz (List.length v.2.2.2.2.2)))) <|
 cond (decide (v.1 < (zz (List.length (List.getD v.2.2.2.2.2 (Int.toNat v.2.1) [])))))
 (X1 ((0 : Int), v.2.1, v.1, v.2.2.1, v.2.2.2.1, v.2.2.2.2.1, v.2.2.2.2.2))
 (some (((true, ()), ())))
def zhT (fuel : Nat) (g0 : zbp → Option ((Bool × Unit) × Unit)) : zbp → Option ((Bool × Unit) × Unit) := zcO fuel (iter (zkg fuel g0) fuel) g0
theorem zvq (fuel : Nat) (G) : z9.lp (zak fuel) 0 fuel G (endX zaO zaa) 0 zaw = iter (zhT fuel) fuel := C.lp_iter fun g v =>
  (show run (zak fuel) 0 fuel (z9.bdAt 0) (zaw v).1 (zaw v).2 (loopK 0 (z9.nmAt 0) g (z9.contAt (zak fuel) 0 fuel G 0 0 (endX zaO zaa))) = zcO fuel (z9.lp (zak fuel) 0 fuel (fun m => bif Nat.beq m 0 then g else G m) (endX zaO zaa) 1 zcM) (fun v => g (zaw v).1 (zaw v).2) v by kernel_rfl).trans (by rw [zvp]; rfl)
def zhU (fuel : Nat) (X0 : zbp → Option ((Bool × Unit) × Unit)) (x0 : List NY) (x1 : List Bool) (x2 : List WY) (x3 : List (List (List Int))) (x4 : Int) : Option ((Bool × Unit) × Unit) :=
 tst (decide (0 ≤ x4)) <|
 tst (decide (x4 < (zz (List.length x3)))) <|
 tst (decide (0 ≤ x4)) <|
 tst (decide (x4 < (zz (List.length x0)))) <|
 cond ((zz (List.length (List.getD x3 (Int.toNat x4) []))) != w64 ((List.getD x0 (Int.toNat x4) (0, ([], (0, (0, (0, ())))))).1 + (1 : Int)))
 (some (((false, ()), ())))
 (tst (decide (0 ≤ x4)) <|
 tst (decide (x4 < (zz (List.length x3)))) <|
 tst (decide ((0 : Int) < (zz (List.length (List.getD x3 (Int.toNat x4) []))))) <|
 cond ((zz (List.length (List.getD (List.getD x3 (Int.toNat x4) []) (Int.toNat (0 : Int)) []))) != (0 : Int))
 (some (((false, ()), ())))
 (X0 ((0 : Int), x4, x0, x1, x2, x3)))
def zhV (fuel : Nat) (z : (((List NY) × ((List Bool) × ((List WY) × ((List (List (List Int))) × Unit)))) × ((Int × Unit) × Unit))) : Option ((Bool × Unit) × Unit) := zhU fuel (iter (zhT fuel) fuel) z.1.1 z.1.2.1 z.1.2.2.1 z.1.2.2.2.1 z.2.1.1
theorem zvr (fuel : Nat) (xa : zaa.rt.T) (xd : zaa.D.T) : zaa.go (zak fuel) fuel z9 zaO xa xd = zhV fuel (zaa.xb (xa, xd)) :=
  (show zaa.go (zak fuel) fuel z9 zaO xa xd = zhU fuel (z9.lp (zak fuel) 0 fuel (fun _ _ _ => none) (endX zaO zaa) 0 zaw) xd.1.1 xd.1.2.1 xd.1.2.2.1 xd.1.2.2.2.1 xd.2.1.1 by kernel_rfl).trans (by rw [zvq]; rfl)
abbrev zkh (fuel : Nat) : LE := ⟨zaa, zhV fuel⟩
theorem zvs (fuel : Nat) : EntryOK Try.prog 16 (zkh fuel).te := okF (T := zak fuel) (fn := Try.f16) (le := zkh fuel) (frz := []) (ann := zon) (cuts := []) (rv := zaO) (TabOK.of (entCons (zq fuel) entNil) (methNil)) mixed (by kernel_rfl) (by kernel_rfl) (by kernel_rfl) (fun _ => rfl) (fun _ => rfl) (fun xa xd y h => ⟨fuel, (zvr fuel xa xd).trans h⟩)
def zfC (fuel : Nat) : Tab := Tab.of [] []
def zoo : List Norm := [⟨[5, 0, 1], [], [], []⟩]
noncomputable def zhW : C := irOf Try.prog Try.f44 [] zoo []
def zfD : List (Nat × Option (Nat × Bool)) := [(4, none)]
abbrev zvt : Sx := .grp (.dat (Kd.list I6) .nil) (.grp (.dat (Kd.list I6) .nil) .nil)
abbrev zvu : Sx := .grp (.dat Kd.bool .nil) .nil
abbrev zbq : LF := .pure zvt zvu true
abbrev zcP := (Int) × (List Int) × (List Int)
def zop (v : zcP) : Env × Heap := ([(5, SV.int .i64 v.1), (0, SV.es I6 v.2.1), (1, SV.es I6 v.2.2)], [])
def zfE (fuel : Nat) (g0 : zcP → Option ((Bool × Unit) × Unit)) (v : zcP) : Option ((Bool × Unit) × Unit) :=
 cond (decide (v.1 < (zz (List.length v.2.1))))
 (tst (decide (0 ≤ v.1)) <|
 tst (decide (v.1 < (zz (List.length v.2.1)))) <|
 tst (decide (0 ≤ v.1)) <|
 tst (decide (v.1 < (zz (List.length v.2.2)))) <|
 cond (List.getD v.2.1 (Int.toNat v.1) 0 != List.getD v.2.2 (Int.toNat v.1) 0)
 (some (((false, ()), ())))
 (g0 (w64 (v.1 + (1 : Int)), v.2.1, v.2.2)))
 (some (((true, ()), ())))
def zhX (fuel : Nat) (g0 : zcP → Option ((Bool × Unit) × Unit)) : zcP → Option ((Bool × Unit) × Unit) := zfE fuel g0
theorem zvv (fuel : Nat) (G) : zhW.lp (zfC fuel) 0 fuel G (endX zfD zbq) 0 zop = iter (zhX fuel) fuel := C.lp_iter fun g v => by kernel_rfl
def zhY (fuel : Nat) (X0 : zcP → Option ((Bool × Unit) × Unit)) (x0 : List Int) (x1 : List Int) : Option ((Bool × Unit) × Unit) :=
 cond ((zz (List.length x0)) != (zz (List.length x1)))
 (some (((false, ()), ())))
 (X0 ((0 : Int), x0, x1))
def zfF (fuel : Nat) (z : (((List Int) × Unit) × (((List Int) × Unit) × Unit))) : Option ((Bool × Unit) × Unit) := zhY fuel (iter (zhX fuel) fuel) z.1.1 z.2.1.1
theorem zvw (fuel : Nat) (xa : zbq.rt.T) (xd : zbq.D.T) : zbq.go (zfC fuel) fuel zhW zfD xa xd = zfF fuel (zbq.xb (xa, xd)) :=
  (show zbq.go (zfC fuel) fuel zhW zfD xa xd = zhY fuel (zhW.lp (zfC fuel) 0 fuel (fun _ _ _ => none) (endX zfD zbq) 0 zop) xd.1.1 xd.2.1.1 by kernel_rfl).trans (by rw [zvv]; rfl)
abbrev zki (fuel : Nat) : LE := ⟨zbq, zfF fuel⟩
theorem zvx (fuel : Nat) : EntryOK Try.prog 44 (zki fuel).te := okF (T := zfC fuel) (fn := Try.f44) (le := zki fuel) (frz := []) (ann := zoo) (cuts := []) (rv := zfD) (TabOK.of (entNil) (methNil)) mixed (by kernel_rfl) (by kernel_rfl) (by kernel_rfl) (fun _ => rfl) (fun _ => rfl) (fun xa xd y h => ⟨fuel, (zvw fuel xa xd).trans h⟩)
def zX (fuel : Nat) : Tab := Tab.of [(44, (zki fuel).te)] []
def zoq : List Norm := [⟨[5, 2, 3], [], [], []⟩, ⟨[6, 2, 3], [], [], []⟩, ⟨[7, 2, 3], [], [], []⟩]
noncomputable def zT : C := irOf Try.prog Try.f37 [] zoq []
def zal : List (Nat × Option (Nat × Bool)) := [(4, none)]
abbrev zvy : Sx := .agg (.dat (Kd.list (Kd.list I6)) (.dat (Kd.list I6) (.dat (Kd.list KP) (.dat I6 (.dat I6 (.dat (Kd.list KP) (.dat I6 .nil))))))) (.agg (.dat (Kd.list (Kd.list I6)) (.dat (Kd.list I6) (.dat (Kd.list KP) (.dat I6 (.dat I6 (.dat (Kd.list KP) (.dat I6 .nil))))))) .nil)
abbrev zvz : Sx := .grp (.dat Kd.bool .nil) .nil
abbrev zU : LF := .pure zvy zvz true
abbrev zcQ := (Int) × (List (List Int)) × (List Int) × LP × (Int) × (Int) × LP × (Int) × (List (List Int)) × (List Int) × LP × (Int) × (Int) × LP × (Int)
abbrev zcR := (Int) × (List (List Int)) × (List Int) × LP × (Int) × (Int) × LP × (Int) × (List (List Int)) × (List Int) × LP × (Int) × (Int) × LP × (Int)
abbrev zcS := (Int) × (List (List Int)) × (List Int) × LP × (Int) × (Int) × LP × (Int) × (List (List Int)) × (List Int) × LP × (Int) × (Int) × LP × (Int)
def zcT (v : zcQ) : Env × Heap := ([(5, SV.int .i64 v.1), (2, SV.ptr 0 0), (3, SV.ptr 1 0)], [Blk.cells [SV.es (Kd.list I6) v.2.1, SV.es I6 v.2.2.1, SV.es KP v.2.2.2.1, SV.int .i64 v.2.2.2.2.1, SV.int .i64 v.2.2.2.2.2.1, SV.es KP v.2.2.2.2.2.2.1, SV.int .i64 v.2.2.2.2.2.2.2.1] 0 7, Blk.cells [SV.es (Kd.list I6) v.2.2.2.2.2.2.2.2.1, SV.es I6 v.2.2.2.2.2.2.2.2.2.1, SV.es KP v.2.2.2.2.2.2.2.2.2.2.1, SV.int .i64 v.2.2.2.2.2.2.2.2.2.2.2.1, SV.int .i64 v.2.2.2.2.2.2.2.2.2.2.2.2.1, SV.es KP v.2.2.2.2.2.2.2.2.2.2.2.2.2.1, SV.int .i64 v.2.2.2.2.2.2.2.2.2.2.2.2.2.2] 0 7])
def zcU (v : zcR) : Env × Heap := ([(6, SV.int .i64 v.1), (2, SV.ptr 0 0), (3, SV.ptr 1 0)], [Blk.cells [SV.es (Kd.list I6) v.2.1, SV.es I6 v.2.2.1, SV.es KP v.2.2.2.1, SV.int .i64 v.2.2.2.2.1, SV.int .i64 v.2.2.2.2.2.1, SV.es KP v.2.2.2.2.2.2.1, SV.int .i64 v.2.2.2.2.2.2.2.1] 0 7, Blk.cells [SV.es (Kd.list I6) v.2.2.2.2.2.2.2.2.1, SV.es I6 v.2.2.2.2.2.2.2.2.2.1, SV.es KP v.2.2.2.2.2.2.2.2.2.2.1, SV.int .i64 v.2.2.2.2.2.2.2.2.2.2.2.1, SV.int .i64 v.2.2.2.2.2.2.2.2.2.2.2.2.1, SV.es KP v.2.2.2.2.2.2.2.2.2.2.2.2.2.1, SV.int .i64 v.2.2.2.2.2.2.2.2.2.2.2.2.2.2] 0 7])
def zor (v : zcS) : Env × Heap := ([(7, SV.int .i64 v.1), (2, SV.ptr 0 0), (3, SV.ptr 1 0)], [Blk.cells [SV.es (Kd.list I6) v.2.1, SV.es I6 v.2.2.1, SV.es KP v.2.2.2.1, SV.int .i64 v.2.2.2.2.1, SV.int .i64 v.2.2.2.2.2.1, SV.es KP v.2.2.2.2.2.2.1, SV.int .i64 v.2.2.2.2.2.2.2.1] 0 7, Blk.cells [SV.es (Kd.list I6) v.2.2.2.2.2.2.2.2.1, SV.es I6 v.2.2.2.2.2.2.2.2.2.1, SV.es KP v.2.2.2.2.2.2.2.2.2.2.1, SV.int .i64 v.2.2.2.2.2.2.2.2.2.2.2.1, SV.int .i64 v.2.2.2.2.2.2.2.2.2.2.2.2.1, SV.es KP v.2.2.2.2.2.2.2.2.2.2.2.2.2.1, SV.int .i64 v.2.2.2.2.2.2.2.2.2.2.2.2.2.2] 0 7])
def zfG (fuel : Nat) (g2 : zcS → Option ((Bool × Unit) × Unit)) (v : zcS) : Option ((Bool × Unit) × Unit) :=
 cond (decide (v.1 < (zz (List.length v.2.2.2.2.2.2.1))))
 (tst (decide (0 ≤ v.1)) <|
 tst (decide (v.1 < (zz (List.length v.2.2.2.2.2.2.1)))) <|
 tst (decide (0 ≤ v.1)) <|
 tst (decide (v.1 < (zz (List.length v.2.2.2.2.2.2.2.2.2.2.2.2.2.1)))) <|
 cond (!((List.getD v.2.2.2.2.2.2.1 (Int.toNat v.1) (0, (0, ()))).1 == (List.getD v.2.2.2.2.2.2.2.2.2.2.2.2.2.1 (Int.toNat v.1) (0, (0, ()))).1 && ((List.getD v.2.2.2.2.2.2.1 (Int.toNat v.1) (0, (0, ()))).2.1 == (List.getD v.2.2.2.2.2.2.2.2.2.2.2.2.2.1 (Int.toNat v.1) (0, (0, ()))).2.1 && true)))
 (some (((false, ()), ())))
 (g2 (w64 (v.1 + (1 : Int)), v.2.1, v.2.2.1, v.2.2.2.1, v.2.2.2.2.1, v.2.2.2.2.2.1, v.2.2.2.2.2.2.1, v.2.2.2.2.2.2.2.1, v.2.2.2.2.2.2.2.2.1, v.2.2.2.2.2.2.2.2.2.1, v.2.2.2.2.2.2.2.2.2.2.1, v.2.2.2.2.2.2.2.2.2.2.2.1, v.2.2.2.2.2.2.2.2.2.2.2.2.1, v.2.2.2.2.2.2.2.2.2.2.2.2.2.1, v.2.2.2.2.2.2.2.2.2.2.2.2.2.2)))
 (some (((true, ()), ())))
def zhZ (fuel : Nat) (g2 : zcS → Option ((Bool × Unit) × Unit)) : zcS → Option ((Bool × Unit) × Unit) := zfG fuel g2
theorem zvA (fuel : Nat) (G) : zT.lp (zX fuel) 0 fuel G (endX zal zU) 2 zor = iter (zhZ fuel) fuel := C.lp_iter fun g v => by kernel_rfl
def zcV (fuel : Nat) (X2 : zcS → Option ((Bool × Unit) × Unit)) (g1 : zcR → Option ((Bool × Unit) × Unit)) (v : zcR) : Option ((Bool × Unit) × Unit) :=
 cond (decide (v.1 < (zz (List.length v.2.2.2.1))))
 (tst (decide (0 ≤ v.1)) <|
 tst (decide (v.1 < (zz (List.length v.2.2.2.1)))) <|
 tst (decide (0 ≤ v.1)) <|
 tst (decide (v.1 < (zz (List.length v.2.2.2.2.2.2.2.2.2.2.1)))) <|
 cond (!((List.getD v.2.2.2.1 (Int.toNat v.1) (0, (0, ()))).1 == (List.getD v.2.2.2.2.2.2.2.2.2.2.1 (Int.toNat v.1) (0, (0, ()))).1 && ((List.getD v.2.2.2.1 (Int.toNat v.1) (0, (0, ()))).2.1 == (List.getD v.2.2.2.2.2.2.2.2.2.2.1 (Int.toNat v.1) (0, (0, ()))).2.1 && true)))
 (some (((false, ()), ())))
 (g1 (w64 (v.1 + (1 : Int)), v.2.1, v.2.2.1, v.2.2.2.1, v.2.2.2.2.1, v.2.2.2.2.2.1, v.2.2.2.2.2.2.1, v.2.2.2.2.2.2.2.1, v.2.2.2.2.2.2.2.2.1, v.2.2.2.2.2.2.2.2.2.1, v.2.2.2.2.2.2.2.2.2.2.1, v.2.2.2.2.2.2.2.2.2.2.2.1, v.2.2.2.2.2.2.2.2.2.2.2.2.1, v.2.2.2.2.2.2.2.2.2.2.2.2.2.1, v.2.2.2.2.2.2.2.2.2.2.2.2.2.2)))
 (X2 ((0 : Int), v.2.1, v.2.2.1, v.2.2.2.1, v.2.2.2.2.1, v.2.2.2.2.2.1, v.2.2.2.2.2.2.1, v.2.2.2.2.2.2.2.1, v.2.2.2.2.2.2.2.2.1, v.2.2.2.2.2.2.2.2.2.1, v.2.2.2.2.2.2.2.2.2.2.1, v.2.2.2.2.2.2.2.2.2.2.2.1, v.2.2.2.2.2.2.2.2.2.2.2.2.1, v.2.2.2.2.2.2.2.2.2.2.2.2.2.1, v.2.2.2.2.2.2.2.2.2.2.2.2.2.2))
def zh0 (fuel : Nat) (g1 : zcR → Option ((Bool × Unit) × Unit)) : zcR → Option ((Bool × Unit) × Unit) := zcV fuel (iter (zhZ fuel) fuel) g1
theorem zvB (fuel : Nat) (G) : zT.lp (zX fuel) 0 fuel G (endX zal zU) 1 zcU = iter (zh0 fuel) fuel := C.lp_iter fun g v =>
  (show run (zX fuel) 0 fuel (zT.bdAt 1) (zcU v).1 (zcU v).2 (loopK 0 (zT.nmAt 1) g (zT.contAt (zX fuel) 0 fuel G 0 1 (endX zal zU))) = zcV fuel (zT.lp (zX fuel) 0 fuel (fun m => bif Nat.beq m 1 then g else G m) (endX zal zU) 2 zor) (fun v => g (zcU v).1 (zcU v).2) v by kernel_rfl).trans (by rw [zvA]; rfl)
def zcW (fuel : Nat) (X1 : zcR → Option ((Bool × Unit) × Unit)) (g0 : zcQ → Option ((Bool × Unit) × Unit)) (v : zcQ) : Option ((Bool × Unit) × Unit) :=
 cond (decide (v.1 < (zz (List.length v.2.1))))
 (tst (decide (0 ≤ v.1)) <|
 tst (decide (v.1 < (zz (List.length v.2.1)))) <|
 tst (decide (0 ≤ v.1)) <|
 tst (decide (v.1 < (zz (List.length v.2.2.2.2.2.2.2.2.1)))) <|
 Option.bind (zfF fuel ((List.getD v.2.1 (Int.toNat v.1) [], ()), (List.getD v.2.2.2.2.2.2.2.2.1 (Int.toNat v.1) [], ()), ())) fun y_2 =>
 cond (!y_2.1.1)
 (some (((false, ()), ())))
 (g0 (w64 (v.1 + (1 : Int)), v.2.1, v.2.2.1, v.2.2.2.1, v.2.2.2.2.1, v.2.2.2.2.2.1, v.2.2.2.2.2.2.1, v.2.2.2.2.2.2.2.1, v.2.2.2.2.2.2.2.2.1, v.2.2.2.2.2.2.2.2.2.1, v.2.2.2.2.2.2.2.2.2.2.1, v.2.2.2.2.2.2.2.2.2.2.2.1, v.2.2.2.2.2.2.2.2.2.2.2.2.1, v.2.2.2.2.2.2.2.2.2.2.2.2.2.1, v.2.2.2.2.2.2.2.2.2.2.2.2.2.2)))
 (X1 ((0 : Int), v.2.1, v.2.2.1, v.2.2.2.1, v.2.2.2.2.1, v.2.2.2.2.2.1, v.2.2.2.2.2.2.1, v.2.2.2.2.2.2.2.1, v.2.2.2.2.2.2.2.2.1, v.2.2.2.2.2.2.2.2.2.1, v.2.2.2.2.2.2.2.2.2.2.1, v.2.2.2.2.2.2.2.2.2.2.2.1, v.2.2.2.2.2.2.2.2.2.2.2.2.1, v.2.2.2.2.2.2.2.2.2.2.2.2.2.1, v.2.2.2.2.2.2.2.2.2.2.2.2.2.2))
def zh1 (fuel : Nat) (g0 : zcQ → Option ((Bool × Unit) × Unit)) : zcQ → Option ((Bool × Unit) × Unit) := zcW fuel (iter (zh0 fuel) fuel) g0
theorem zvC (fuel : Nat) (G) : zT.lp (zX fuel) 0 fuel G (endX zal zU) 0 zcT = iter (zh1 fuel) fuel := C.lp_iter fun g v =>
  (show run (zX fuel) 0 fuel (zT.bdAt 0) (zcT v).1 (zcT v).2 (loopK 0 (zT.nmAt 0) g (zT.contAt (zX fuel) 0 fuel G 0 0 (endX zal zU))) = zcW fuel (zT.lp (zX fuel) 0 fuel (fun m => bif Nat.beq m 0 then g else G m) (endX zal zU) 1 zcU) (fun v => g (zcT v).1 (zcT v).2) v by kernel_rfl).trans (by rw [zvB]; rfl)
def zh2 (fuel : Nat) (X0 : zcQ → Option ((Bool × Unit) × Unit)) (x0 : List (List Int)) (x1 : List Int) (x2 : LP) (x3 : Int) (x4 : Int) (x5 : LP) (x6 : Int) (x7 : List (List Int)) (x8 : List Int) (x9 : LP) (x10 : Int) (x11 : Int) (x12 : LP) (x13 : Int) : Option ((Bool × Unit) × Unit) :=
 cond ((zz (List.length x0)) != (zz (List.length x7)))
 (some (((false, ()), ())))
 (Option.bind (zfF fuel ((x1, ()), (x8, ()), ())) fun y_2 =>
 cond (!y_2.1.1)
 (some (((false, ()), ())))
 (cond (x3 != x10)
 (some (((false, ()), ())))
 (cond (x4 != x11)
 (some (((false, ()), ())))
 (cond (x6 != x13)
 (some (((false, ()), ())))
 (cond ((zz (List.length x2)) != (zz (List.length x9)))
 (some (((false, ()), ())))
 (cond ((zz (List.length x5)) != (zz (List.length x12)))
 (some (((false, ()), ())))
 (X0 ((0 : Int), x0, x1, x2, x3, x4, x5, x6, x7, x8, x9, x10, x11, x12, x13))))))))
def zh3 (fuel : Nat) (z : (SumY × (SumY × Unit))) : Option ((Bool × Unit) × Unit) := zh2 fuel (iter (zh1 fuel) fuel) z.1.1 z.1.2.1 z.1.2.2.1 z.1.2.2.2.1 z.1.2.2.2.2.1 z.1.2.2.2.2.2.1 z.1.2.2.2.2.2.2.1 z.2.1.1 z.2.1.2.1 z.2.1.2.2.1 z.2.1.2.2.2.1 z.2.1.2.2.2.2.1 z.2.1.2.2.2.2.2.1 z.2.1.2.2.2.2.2.2.1
theorem zvD (fuel : Nat) (xa : zU.rt.T) (xd : zU.D.T) : zU.go (zX fuel) fuel zT zal xa xd = zh3 fuel (zU.xb (xa, xd)) :=
  (show zU.go (zX fuel) fuel zT zal xa xd = zh2 fuel (zT.lp (zX fuel) 0 fuel (fun _ _ _ => none) (endX zal zU) 0 zcT) xd.1.1 xd.1.2.1 xd.1.2.2.1 xd.1.2.2.2.1 xd.1.2.2.2.2.1 xd.1.2.2.2.2.2.1 xd.1.2.2.2.2.2.2.1 xd.2.1.1 xd.2.1.2.1 xd.2.1.2.2.1 xd.2.1.2.2.2.1 xd.2.1.2.2.2.2.1 xd.2.1.2.2.2.2.2.1 xd.2.1.2.2.2.2.2.2.1 by kernel_rfl).trans (by rw [zvC]; rfl)
abbrev zkj (fuel : Nat) : LE := ⟨zU, zh3 fuel⟩
theorem zvE (fuel : Nat) : EntryOK Try.prog 37 (zkj fuel).te := okF (T := zX fuel) (fn := Try.f37) (le := zkj fuel) (frz := []) (ann := zoq) (cuts := []) (rv := zal) (TabOK.of (entCons (zvx fuel) entNil) (methNil)) mixed (by kernel_rfl) (by kernel_rfl) (by kernel_rfl) (fun _ => rfl) (fun _ => rfl) (fun xa xd y h => ⟨fuel, (zvD fuel xa xd).trans h⟩)
def zos (fuel : Nat) : Tab := Tab.of [(15, (zm fuel).te), (36, (zj7 fuel).te), (37, (zkj fuel).te)] []
def zot : List Norm := []
noncomputable def zvF : C := irOf Try.prog Try.f28 [] zot []
def zou : List (Nat × Option (Nat × Bool)) := [(4, none)]
abbrev zvG : Sx := .agg (.dat (Kd.list KN) (.dat (Kd.list Kd.bool) (.dat (Kd.list KW) (.dat (Kd.list (Kd.list (Kd.list I6))) .nil)))) (.agg (.dat I6 (.dat I6 (.dat I6 (.dat (Kd.list (Kd.list I6)) (.dat (Kd.list I6) (.dat (Kd.list KP) (.dat I6 (.dat I6 (.dat (Kd.list KP) (.dat I6 .nil)))))))))) .nil)
abbrev zvH : Sx := .grp (.dat Kd.bool .nil) .nil
abbrev zfH : LF := .pure zvG zvH true
def zkk (fuel : Nat) (x0 : List NY) (x1 : List Bool) (x2 : List WY) (x3 : List (List (List Int))) (x4 : Int) (x5 : Int) (x6 : Int) (x7 : List (List Int)) (x8 : List Int) (x9 : LP) (x10 : Int) (x11 : Int) (x12 : LP) (x13 : Int) : Option ((Bool × Unit) × Unit) :=
 Option.bind (zc fuel ((x4, ()), ((0 : Int), ()), (w64 ((zz (List.length x0)) - (1 : Int)), ()), ())) fun y_1 =>
 cond (!y_1.1.1)
 (some (((false, ()), ())))
 (tst (decide (0 ≤ x4)) <|
 tst (decide (x4 < (zz (List.length x0)))) <|
 Option.bind (zc fuel ((x5, ()), ((1 : Int), ()), ((List.getD x0 (Int.toNat x4) (0, ([], (0, (0, (0, ())))))).1, ()), ())) fun y_3 =>
 cond (!y_3.1.1)
 (some (((false, ()), ())))
 (tst (decide (0 ≤ x4)) <|
 tst (decide (x4 < (zz (List.length x3)))) <|
 tst (decide (0 ≤ x5)) <|
 tst (decide (x5 < (zz (List.length (List.getD x3 (Int.toNat x4) []))))) <|
 Option.bind (zc fuel ((x6, ()), ((0 : Int), ()), ((zz (List.length (List.getD (List.getD x3 (Int.toNat x4) []) (Int.toNat x5) []))), ()), ())) fun y_5 =>
 cond (!y_5.1.1)
 (some (((false, ()), ())))
 (tst (decide (0 ≤ x4)) <|
 tst (decide (x4 < (zz (List.length x3)))) <|
 tst (decide (0 ≤ x5)) <|
 tst (decide (x5 < (zz (List.length (List.getD x3 (Int.toNat x4) []))))) <|
 tst (decide (0 ≤ x6)) <|
 tst (decide (x6 ≤ (zz (List.length (List.getD (List.getD x3 (Int.toNat x4) []) (Int.toNat x5) []))))) <|
 Option.bind (zhy fuel ((List.drop 0 (List.take (Int.toNat x6) (List.getD (List.getD x3 (Int.toNat x4) []) (Int.toNat x5) [])), ()), ())) fun y_7 =>
 cond (y_7.2.1.1)
 (Option.bind (zh3 fuel ((y_7.1.1, y_7.1.2.1, y_7.1.2.2.1, y_7.1.2.2.2.1, y_7.1.2.2.2.2.1, y_7.1.2.2.2.2.2.1, y_7.1.2.2.2.2.2.2.1, ()), (x7, x8, x9, x10, x11, x12, x13, ()), ())) fun y_9 =>
 some (((y_9.1.1, ()), ())))
 (some (((false, ()), ()))))))
def zh4 (fuel : Nat) (z : (((List NY) × ((List Bool) × ((List WY) × ((List (List (List Int))) × Unit)))) × ((Int × (Int × (Int × SumY))) × Unit))) : Option ((Bool × Unit) × Unit) := zkk fuel z.1.1 z.1.2.1 z.1.2.2.1 z.1.2.2.2.1 z.2.1.1 z.2.1.2.1 z.2.1.2.2.1 z.2.1.2.2.2.1 z.2.1.2.2.2.2.1 z.2.1.2.2.2.2.2.1 z.2.1.2.2.2.2.2.2.1 z.2.1.2.2.2.2.2.2.2.1 z.2.1.2.2.2.2.2.2.2.2.1 z.2.1.2.2.2.2.2.2.2.2.2.1
theorem zvI (fuel : Nat) (xa : zfH.rt.T) (xd : zfH.D.T) : zfH.go (zos fuel) fuel zvF zou xa xd = zh4 fuel (zfH.xb (xa, xd)) := by kernel_rfl
abbrev zkl (fuel : Nat) : LE := ⟨zfH, zh4 fuel⟩
theorem zvJ (fuel : Nat) : EntryOK Try.prog 28 (zkl fuel).te := okF (T := zos fuel) (fn := Try.f28) (le := zkl fuel) (frz := []) (ann := zot) (cuts := []) (rv := zou) (TabOK.of (entCons (zq fuel) (entCons (zuv fuel) (entCons (zvE fuel) entNil))) (methNil)) mixed (by kernel_rfl) (by kernel_rfl) (by kernel_rfl) (fun _ => rfl) (fun _ => rfl) (fun xa xd y h => ⟨fuel, (zvI fuel xa xd).trans h⟩)
def zfI (fuel : Nat) : Tab := Tab.of [(28, (zkl fuel).te)] []
def zov : List Norm := [⟨[5, 1, 2], [], [], []⟩]
noncomputable def zh5 : C := irOf Try.prog Try.f22 [] zov []
def zfJ : List (Nat × Option (Nat × Bool)) := [(4, none)]
abbrev zvK : Sx := .agg (.dat (Kd.list KN) (.dat (Kd.list Kd.bool) (.dat (Kd.list KW) (.dat (Kd.list (Kd.list (Kd.list I6))) .nil)))) (.grp (.dat (Kd.list KE) .nil) .nil)
abbrev zvL : Sx := .grp (.dat Kd.bool .nil) .nil
abbrev zbr : LF := .pure zvK zvL true
abbrev zcX := (Int) × (List EY) × (List NY) × (List Bool) × (List WY) × (List (List (List Int)))
def zow (v : zcX) : Env × Heap := ([(5, SV.int .i64 v.1), (1, SV.es KE v.2.1), (2, SV.ptr 0 0)], [Blk.cells [SV.es KN v.2.2.1, SV.es Kd.bool v.2.2.2.1, SV.es KW v.2.2.2.2.1, SV.es (Kd.list (Kd.list I6)) v.2.2.2.2.2] 0 4])
def zfK (fuel : Nat) (g0 : zcX → Option ((Bool × Unit) × Unit)) (v : zcX) : Option ((Bool × Unit) × Unit) :=
 cond (decide (v.1 < (zz (List.length v.2.1))))
 (tst (decide (0 ≤ v.1)) <|
 tst (decide (v.1 < (zz (List.length v.2.1)))) <|
 Option.bind (zh4 fuel ((v.2.2.1, v.2.2.2.1, v.2.2.2.2.1, v.2.2.2.2.2, ()), ((List.getD v.2.1 (Int.toNat v.1) (0, (0, (0, ((([], ()), (([], ()), (([], (0, (0, ()))), (([], (0, ())), ())))), ()))))).1, (List.getD v.2.1 (Int.toNat v.1) (0, (0, (0, ((([], ()), (([], ()), (([], (0, (0, ()))), (([], (0, ())), ())))), ()))))).2.1, (List.getD v.2.1 (Int.toNat v.1) (0, (0, (0, ((([], ()), (([], ()), (([], (0, (0, ()))), (([], (0, ())), ())))), ()))))).2.2.1, (List.getD v.2.1 (Int.toNat v.1) (0, (0, (0, ((([], ()), (([], ()), (([], (0, (0, ()))), (([], (0, ())), ())))), ()))))).2.2.2.1.1.1, (List.getD v.2.1 (Int.toNat v.1) (0, (0, (0, ((([], ()), (([], ()), (([], (0, (0, ()))), (([], (0, ())), ())))), ()))))).2.2.2.1.2.1.1, (List.getD v.2.1 (Int.toNat v.1) (0, (0, (0, ((([], ()), (([], ()), (([], (0, (0, ()))), (([], (0, ())), ())))), ()))))).2.2.2.1.2.2.1.1, (List.getD v.2.1 (Int.toNat v.1) (0, (0, (0, ((([], ()), (([], ()), (([], (0, (0, ()))), (([], (0, ())), ())))), ()))))).2.2.2.1.2.2.1.2.1, (List.getD v.2.1 (Int.toNat v.1) (0, (0, (0, ((([], ()), (([], ()), (([], (0, (0, ()))), (([], (0, ())), ())))), ()))))).2.2.2.1.2.2.1.2.2.1, (List.getD v.2.1 (Int.toNat v.1) (0, (0, (0, ((([], ()), (([], ()), (([], (0, (0, ()))), (([], (0, ())), ())))), ()))))).2.2.2.1.2.2.2.1.1, (List.getD v.2.1 (Int.toNat v.1) (0, (0, (0, ((([], ()), (([], ()), (([], (0, (0, ()))), (([], (0, ())), ())))), ()))))).2.2.2.1.2.2.2.1.2.1, ()), ())) fun y_2 =>
 cond (!y_2.1.1)
 (some (((false, ()), ())))
 (cond (decide (v.1 > (0 : Int)))
 (tst (decide (0 ≤ w64 (v.1 - (1 : Int)))) <|
 tst (decide (w64 (v.1 - (1 : Int)) < (zz (List.length v.2.1)))) <|
 tst (decide (0 ≤ v.1)) <|
 tst (decide (v.1 < (zz (List.length v.2.1)))) <|
 cond (decide ((List.getD v.2.1 (Int.toNat (w64 (v.1 - (1 : Int)))) (0, (0, (0, ((([], ()), (([], ()), (([], (0, (0, ()))), (([], (0, ())), ())))), ()))))).1 ≥ (List.getD v.2.1 (Int.toNat v.1) (0, (0, (0, ((([], ()), (([], ()), (([], (0, (0, ()))), (([], (0, ())), ())))), ()))))).1))
 (some (((false, ()), ())))
 (g0 (w64 (v.1 + (1 : Int)), v.2.1, v.2.2.1, v.2.2.2.1, v.2.2.2.2.1, v.2.2.2.2.2)))
 (g0 (w64 (v.1 + (1 : Int)), v.2.1, v.2.2.1, v.2.2.2.1, v.2.2.2.2.1, v.2.2.2.2.2))))
 (some (((true, ()), ())))
def zh6 (fuel : Nat) (g0 : zcX → Option ((Bool × Unit) × Unit)) : zcX → Option ((Bool × Unit) × Unit) := zfK fuel g0
theorem zvM (fuel : Nat) (G) : zh5.lp (zfI fuel) 0 fuel G (endX zfJ zbr) 0 zow = iter (zh6 fuel) fuel := C.lp_iter fun g v => by kernel_rfl
def zox (fuel : Nat) (X0 : zcX → Option ((Bool × Unit) × Unit)) (x0 : List NY) (x1 : List Bool) (x2 : List WY) (x3 : List (List (List Int))) (x4 : List EY) : Option ((Bool × Unit) × Unit) :=
 X0 ((0 : Int), x4, x0, x1, x2, x3)
def zfL (fuel : Nat) (z : (((List NY) × ((List Bool) × ((List WY) × ((List (List (List Int))) × Unit)))) × (((List EY) × Unit) × Unit))) : Option ((Bool × Unit) × Unit) := zox fuel (iter (zh6 fuel) fuel) z.1.1 z.1.2.1 z.1.2.2.1 z.1.2.2.2.1 z.2.1.1
theorem zvN (fuel : Nat) (xa : zbr.rt.T) (xd : zbr.D.T) : zbr.go (zfI fuel) fuel zh5 zfJ xa xd = zfL fuel (zbr.xb (xa, xd)) :=
  (show zbr.go (zfI fuel) fuel zh5 zfJ xa xd = zox fuel (zh5.lp (zfI fuel) 0 fuel (fun _ _ _ => none) (endX zfJ zbr) 0 zow) xd.1.1 xd.1.2.1 xd.1.2.2.1 xd.1.2.2.2.1 xd.2.1.1 by kernel_rfl).trans (by rw [zvM]; rfl)
abbrev zh7 (fuel : Nat) : LE := ⟨zbr, zfL fuel⟩
theorem zoy (fuel : Nat) : EntryOK Try.prog 22 (zh7 fuel).te := okF (T := zfI fuel) (fn := Try.f22) (le := zh7 fuel) (frz := []) (ann := zov) (cuts := []) (rv := zfJ) (TabOK.of (entCons (zvJ fuel) entNil) (methNil)) mixed (by kernel_rfl) (by kernel_rfl) (by kernel_rfl) (fun _ => rfl) (fun _ => rfl) (fun xa xd y h => ⟨fuel, (zvN fuel xa xd).trans h⟩)
def zoz (fuel : Nat) : Tab := Tab.of [(15, (zm fuel).te), (21, (zhS fuel).te), (22, (zh7 fuel).te)] []
def zoA : List Norm := []
noncomputable def zvO : C := irOf Try.prog Try.f17 [] zoA []
def zoB : List (Nat × Option (Nat × Bool)) := [(4, none)]
abbrev zvP : Sx := .agg (.dat (Kd.list KN) (.dat (Kd.list Kd.bool) (.dat (Kd.list KW) (.dat (Kd.list (Kd.list (Kd.list I6))) .nil)))) (.grp (.dat I6 .nil) .nil)
abbrev zvQ : Sx := .grp (.dat Kd.bool .nil) .nil
abbrev zfM : LF := .pure zvP zvQ true
def zkm (fuel : Nat) (x0 : List NY) (x1 : List Bool) (x2 : List WY) (x3 : List (List (List Int))) (x4 : Int) : Option ((Bool × Unit) × Unit) :=
 tst (decide (0 ≤ x4)) <|
 tst (decide (x4 < (zz (List.length x0)))) <|
 Option.bind (zfz fuel (((List.getD x0 (Int.toNat x4) (0, ([], (0, (0, (0, ())))))).1, (List.getD x0 (Int.toNat x4) (0, ([], (0, (0, (0, ())))))).2.1, (List.getD x0 (Int.toNat x4) (0, ([], (0, (0, (0, ())))))).2.2.1, (List.getD x0 (Int.toNat x4) (0, ([], (0, (0, (0, ())))))).2.2.2.1, (List.getD x0 (Int.toNat x4) (0, ([], (0, (0, (0, ())))))).2.2.2.2.1, ()), (x4, ()), ())) fun y_1 =>
 cond (!y_1.2.1.1)
 (some (((false, ()), ())))
 (Option.bind (zfL fuel ((x0, x1, x2, x3, ()), ((List.getD x0 (Int.toNat x4) (0, ([], (0, (0, (0, ())))))).2.1, ()), ())) fun y_3 =>
 cond (!y_3.1.1)
 (some (((false, ()), ())))
 (cond (y_1.1.2.1 != (List.getD x0 (Int.toNat x4) (0, ([], (0, (0, (0, ())))))).1)
 (some (((false, ()), ())))
 (tst (decide (0 ≤ x4)) <|
 tst (decide (x4 < (zz (List.length x3)))) <|
 tst (decide (0 ≤ (List.getD x0 (Int.toNat x4) (0, ([], (0, (0, (0, ())))))).1)) <|
 tst (decide ((List.getD x0 (Int.toNat x4) (0, ([], (0, (0, (0, ())))))).1 < (zz (List.length (List.getD x3 (Int.toNat x4) []))))) <|
 cond (y_1.1.2.2.1 != (zz (List.length (List.getD (List.getD x3 (Int.toNat x4) []) (Int.toNat (List.getD x0 (Int.toNat x4) (0, ([], (0, (0, (0, ())))))).1) []))))
 (some (((false, ()), ())))
 (cond (x4 == (0 : Int))
 (cond ((List.getD x0 (Int.toNat x4) (0, ([], (0, (0, (0, ())))))).2.2.2.1 == (0 : Int))
 (cond ((List.getD x0 (Int.toNat x4) (0, ([], (0, (0, (0, ())))))).2.2.2.2.1 == (-1 : Int))
 (some (((decide ((List.getD x0 (Int.toNat x4) (0, ([], (0, (0, (0, ())))))).2.2.1 ≥ (0 : Int)), ()), ())))
 (some (((false, ()), ()))))
 (some (((false, ()), ()))))
 (tst (decide ((0 : Int) < (zz (List.length x0)))) <|
 Option.bind (zc fuel (((List.getD x0 (Int.toNat x4) (0, ([], (0, (0, (0, ())))))).2.2.1, ()), ((0 : Int), ()), ((List.getD x0 (Int.toNat (0 : Int)) (0, ([], (0, (0, (0, ())))))).2.2.1, ()), ())) fun y_8 =>
 cond (y_8.1.1)
 (Option.bind (zc fuel (((List.getD x0 (Int.toNat x4) (0, ([], (0, (0, (0, ())))))).2.2.2.1, ()), ((1 : Int), ()), ((5 : Int), ()), ())) fun y_10 =>
 cond (y_10.1.1)
 (cond (((List.getD x0 (Int.toNat x4) (0, ([], (0, (0, (0, ())))))).2.2.2.2.1 == (-1 : Int)) == ((List.getD x0 (Int.toNat x4) (0, ([], (0, (0, (0, ())))))).2.2.2.1 == (5 : Int)))
 (Option.bind (zc fuel (((List.getD x0 (Int.toNat x4) (0, ([], (0, (0, (0, ())))))).2.2.2.2.1, ()), ((-1 : Int), ()), (w64 ((zz (List.length x0)) - (1 : Int)), ()), ())) fun y_13 =>
 cond (y_13.1.1)
 (some ((((List.getD x0 (Int.toNat x4) (0, ([], (0, (0, (0, ())))))).2.2.2.2.1 != x4, ()), ())))
 (some (((false, ()), ()))))
 (some (((false, ()), ()))))
 (some (((false, ()), ()))))
 (some (((false, ()), ()))))))))
def zh8 (fuel : Nat) (z : (((List NY) × ((List Bool) × ((List WY) × ((List (List (List Int))) × Unit)))) × ((Int × Unit) × Unit))) : Option ((Bool × Unit) × Unit) := zkm fuel z.1.1 z.1.2.1 z.1.2.2.1 z.1.2.2.2.1 z.2.1.1
theorem zvR (fuel : Nat) (xa : zfM.rt.T) (xd : zfM.D.T) : zfM.go (zoz fuel) fuel zvO zoB xa xd = zh8 fuel (zfM.xb (xa, xd)) := by kernel_rfl
abbrev zkn (fuel : Nat) : LE := ⟨zfM, zh8 fuel⟩
theorem zvS (fuel : Nat) : EntryOK Try.prog 17 (zkn fuel).te := okF (T := zoz fuel) (fn := Try.f17) (le := zkn fuel) (frz := []) (ann := zoA) (cuts := []) (rv := zoB) (TabOK.of (entCons (zq fuel) (entCons (zoj fuel) (entCons (zoy fuel) entNil))) (methNil)) mixed (by kernel_rfl) (by kernel_rfl) (by kernel_rfl) (fun _ => rfl) (fun _ => rfl) (fun xa xd y h => ⟨fuel, (zvR fuel xa xd).trans h⟩)
def zoC (fuel : Nat) : Tab := Tab.of [(15, (zm fuel).te), (22, (zh7 fuel).te)] []
def zoD : List Norm := []
noncomputable def zvT : C := irOf Try.prog Try.f18 [] zoD []
def zoE : List (Nat × Option (Nat × Bool)) := [(4, none)]
abbrev zvU : Sx := .agg (.dat (Kd.list KN) (.dat (Kd.list Kd.bool) (.dat (Kd.list KW) (.dat (Kd.list (Kd.list (Kd.list I6))) .nil)))) (.agg (.dat I6 (.dat I6 (.dat I6 (.dat I6 (.dat I6 (.dat (Kd.list KE) .nil)))))) .nil)
abbrev zvV : Sx := .grp (.dat Kd.bool .nil) .nil
abbrev zfN : LF := .pure zvU zvV true
def zko (fuel : Nat) (x0 : List NY) (x1 : List Bool) (x2 : List WY) (x3 : List (List (List Int))) (x4 : Int) (x5 : Int) (x6 : Int) (x7 : Int) (x8 : Int) (x9 : List EY) : Option ((Bool × Unit) × Unit) :=
 Option.bind (zc fuel ((x5, ()), ((0 : Int), ()), (w64 ((zz (List.length x0)) - (1 : Int)), ()), ())) fun y_1 =>
 cond (y_1.1.1)
 (Option.bind (zc fuel ((x6, ()), ((0 : Int), ()), (w64 ((zz (List.length x0)) - (1 : Int)), ()), ())) fun y_3 =>
 cond (y_3.1.1)
 (cond (x4 == (1 : Int))
 (cond (x5 != x6)
 (tst (decide ((0 : Int) < (zz (List.length x0)))) <|
 Option.bind (zc fuel ((x7, ()), ((0 : Int), ()), ((List.getD x0 (Int.toNat (0 : Int)) (0, ([], (0, (0, (0, ())))))).2.2.1, ()), ())) fun y_7 =>
 cond (y_7.1.1)
 (Option.bind (zc fuel ((x8, ()), ((0 : Int), ()), ((4 : Int), ()), ())) fun y_9 =>
 cond (y_9.1.1)
 (some ((((zz (List.length x9)) == (0 : Int), ()), ())))
 (some (((false, ()), ()))))
 (some (((false, ()), ()))))
 (some (((false, ()), ()))))
 (cond (x4 == (2 : Int))
 (cond (x5 != x6)
 (cond (x7 == (0 : Int))
 (cond (x8 == (0 : Int))
 (Option.bind (zfL fuel ((x0, x1, x2, x3, ()), (x9, ()), ())) fun y_10 =>
 some (((y_10.1.1, ()), ())))
 (some (((false, ()), ()))))
 (some (((false, ()), ()))))
 (some (((false, ()), ()))))
 (some (((false, ()), ())))))
 (cond (x4 == (1 : Int))
 (some (((false, ()), ())))
 (cond (x4 == (2 : Int))
 (some (((false, ()), ())))
 (some (((false, ()), ()))))))
 (cond (x4 == (1 : Int))
 (some (((false, ()), ())))
 (cond (x4 == (2 : Int))
 (some (((false, ()), ())))
 (some (((false, ()), ())))))
def zh9 (fuel : Nat) (z : (((List NY) × ((List Bool) × ((List WY) × ((List (List (List Int))) × Unit)))) × (WY × Unit))) : Option ((Bool × Unit) × Unit) := zko fuel z.1.1 z.1.2.1 z.1.2.2.1 z.1.2.2.2.1 z.2.1.1 z.2.1.2.1 z.2.1.2.2.1 z.2.1.2.2.2.1 z.2.1.2.2.2.2.1 z.2.1.2.2.2.2.2.1
theorem zvW (fuel : Nat) (xa : zfN.rt.T) (xd : zfN.D.T) : zfN.go (zoC fuel) fuel zvT zoE xa xd = zh9 fuel (zfN.xb (xa, xd)) := by kernel_rfl
abbrev zkp (fuel : Nat) : LE := ⟨zfN, zh9 fuel⟩
theorem zvX (fuel : Nat) : EntryOK Try.prog 18 (zkp fuel).te := okF (T := zoC fuel) (fn := Try.f18) (le := zkp fuel) (frz := []) (ann := zoD) (cuts := []) (rv := zoE) (TabOK.of (entCons (zq fuel) (entCons (zoy fuel) entNil)) (methNil)) mixed (by kernel_rfl) (by kernel_rfl) (by kernel_rfl) (fun _ => rfl) (fun _ => rfl) (fun xa xd y h => ⟨fuel, (zvW fuel xa xd).trans h⟩)
def zG (fuel : Nat) : Tab := Tab.of [(14, (zbY fuel).te), (15, (zm fuel).te), (16, (zkh fuel).te), (17, (zkn fuel).te), (18, (zkp fuel).te)] []
def zoF : List Norm := [⟨[3, 1], [], [], []⟩, ⟨[4, 3, 1], [], [], []⟩, ⟨[5, 1], [], [], []⟩, ⟨[6, 1], [], [], []⟩]
noncomputable def zt : C := irOf Try.prog Try.f9 [] zoF []
def zV : List (Nat × Option (Nat × Bool)) := [(2, none)]
abbrev zvY : Sx := .agg (.dat (Kd.list KN) (.dat (Kd.list Kd.bool) (.dat (Kd.list KW) (.dat (Kd.list (Kd.list (Kd.list I6))) .nil)))) .nil
abbrev zvZ : Sx := .grp (.dat Kd.bool .nil) .nil
abbrev zH : LF := .pure zvY zvZ true
abbrev zbs := (Int) × (List NY) × (List Bool) × (List WY) × (List (List (List Int)))
abbrev zcY := (Int) × (Int) × (List NY) × (List Bool) × (List WY) × (List (List (List Int)))
abbrev zcZ := (Int) × (List NY) × (List Bool) × (List WY) × (List (List (List Int)))
abbrev zc0 := (Int) × (List NY) × (List Bool) × (List WY) × (List (List (List Int)))
def zax (v : zbs) : Env × Heap := ([(3, SV.int .i64 v.1), (1, SV.ptr 0 0)], [Blk.cells [SV.es KN v.2.1, SV.es Kd.bool v.2.2.1, SV.es KW v.2.2.2.1, SV.es (Kd.list (Kd.list I6)) v.2.2.2.2] 0 4])
def zc1 (v : zcY) : Env × Heap := ([(4, SV.int .i64 v.1), (3, SV.int .i64 v.2.1), (1, SV.ptr 0 0)], [Blk.cells [SV.es KN v.2.2.1, SV.es Kd.bool v.2.2.2.1, SV.es KW v.2.2.2.2.1, SV.es (Kd.list (Kd.list I6)) v.2.2.2.2.2] 0 4])
def zc2 (v : zcZ) : Env × Heap := ([(5, SV.int .i64 v.1), (1, SV.ptr 0 0)], [Blk.cells [SV.es KN v.2.1, SV.es Kd.bool v.2.2.1, SV.es KW v.2.2.2.1, SV.es (Kd.list (Kd.list I6)) v.2.2.2.2] 0 4])
def zoG (v : zc0) : Env × Heap := ([(6, SV.int .i64 v.1), (1, SV.ptr 0 0)], [Blk.cells [SV.es KN v.2.1, SV.es Kd.bool v.2.2.1, SV.es KW v.2.2.2.1, SV.es (Kd.list (Kd.list I6)) v.2.2.2.2] 0 4])
def zc3 (fuel : Nat) (g0 : zbs → Option ((Bool × Unit) × Unit)) (g1 : zcY → Option ((Bool × Unit) × Unit)) (v : zcY) : Option ((Bool × Unit) × Unit) :=
 cond (decide (v.1 < v.2.1))
 (Option.bind (zS fuel ((v.2.1, ()), (v.1, ()), ())) fun y_2 =>
 tst (decide (0 ≤ y_2.1.1)) <|
 tst (decide (y_2.1.1 < (zz (List.length v.2.2.2.1)))) <|
 Option.bind (zS fuel ((v.1, ()), (v.2.1, ()), ())) fun y_3 =>
 tst (decide (0 ≤ y_3.1.1)) <|
 tst (decide (y_3.1.1 < (zz (List.length v.2.2.2.1)))) <|
 cond (!List.getD v.2.2.2.1 (Int.toNat y_2.1.1) false == List.getD v.2.2.2.1 (Int.toNat y_3.1.1) false)
 (some (((false, ()), ())))
 (g1 (w64 (v.1 + (1 : Int)), v.2.1, v.2.2.1, v.2.2.2.1, v.2.2.2.2.1, v.2.2.2.2.2)))
 (g0 (w64 (v.2.1 + (1 : Int)), v.2.2.1, v.2.2.2.1, v.2.2.2.2.1, v.2.2.2.2.2))
def zkq (fuel : Nat) (g0 : zbs → Option ((Bool × Unit) × Unit)) (g1 : zcY → Option ((Bool × Unit) × Unit)) : zcY → Option ((Bool × Unit) × Unit) := zc3 fuel g0 g1
theorem zv0 (fuel : Nat) (G) : zt.lp (zG fuel) 0 fuel G (endX zV zH) 1 zc1 = iter (zkq fuel (fun v => G 0 (zax v).1 (zax v).2)) fuel := C.lp_iter fun g v =>
  (show run (zG fuel) 0 fuel (zt.bdAt 1) (zc1 v).1 (zc1 v).2 (loopK 0 (zt.nmAt 1) g (zt.contAt (zG fuel) 0 fuel G 0 1 (endX zV zH))) = zc3 fuel (fun v => G 0 (zax v).1 (zax v).2) (fun v => g (zc1 v).1 (zc1 v).2) v by kernel_rfl)
def zfO (fuel : Nat) (g3 : zc0 → Option ((Bool × Unit) × Unit)) (v : zc0) : Option ((Bool × Unit) × Unit) :=
 cond (decide (v.1 < (zz (List.length v.2.2.2.1))))
 (tst (decide (0 ≤ v.1)) <|
 tst (decide (v.1 < (zz (List.length v.2.2.2.1)))) <|
 Option.bind (zh9 fuel ((v.2.1, v.2.2.1, v.2.2.2.1, v.2.2.2.2, ()), ((List.getD v.2.2.2.1 (Int.toNat v.1) (0, (0, (0, (0, (0, ([], ()))))))).1, (List.getD v.2.2.2.1 (Int.toNat v.1) (0, (0, (0, (0, (0, ([], ()))))))).2.1, (List.getD v.2.2.2.1 (Int.toNat v.1) (0, (0, (0, (0, (0, ([], ()))))))).2.2.1, (List.getD v.2.2.2.1 (Int.toNat v.1) (0, (0, (0, (0, (0, ([], ()))))))).2.2.2.1, (List.getD v.2.2.2.1 (Int.toNat v.1) (0, (0, (0, (0, (0, ([], ()))))))).2.2.2.2.1, (List.getD v.2.2.2.1 (Int.toNat v.1) (0, (0, (0, (0, (0, ([], ()))))))).2.2.2.2.2.1, ()), ())) fun y_2 =>
 cond (!y_2.1.1)
 (some (((false, ()), ())))
 (g3 (w64 (v.1 + (1 : Int)), v.2.1, v.2.2.1, v.2.2.2.1, v.2.2.2.2)))
 (tst (decide ((0 : Int) < (zz (List.length v.2.1)))) <|
 Option.bind (zc fuel (((List.getD v.2.1 (Int.toNat (0 : Int)) (0, ([], (0, (0, (0, ())))))).2.2.1, ()), ((0 : Int), ()), ((1000 : Int), ()), ())) fun y_2 =>
 some (((y_2.1.1, ()), ())))
def zfP (fuel : Nat) (g3 : zc0 → Option ((Bool × Unit) × Unit)) : zc0 → Option ((Bool × Unit) × Unit) := zfO fuel g3
theorem zv1 (fuel : Nat) (G) : zt.lp (zG fuel) 0 fuel G (endX zV zH) 3 zoG = iter (zfP fuel) fuel := C.lp_iter fun g v => by kernel_rfl
def zc4 (fuel : Nat) (X3 : zc0 → Option ((Bool × Unit) × Unit)) (g2 : zcZ → Option ((Bool × Unit) × Unit)) (v : zcZ) : Option ((Bool × Unit) × Unit) :=
 cond (decide (v.1 < (5 : Int)))
 (Option.bind (zh8 fuel ((v.2.1, v.2.2.1, v.2.2.2.1, v.2.2.2.2, ()), (v.1, ()), ())) fun y_2 =>
 cond (!y_2.1.1)
 (some (((false, ()), ())))
 (g2 (w64 (v.1 + (1 : Int)), v.2.1, v.2.2.1, v.2.2.2.1, v.2.2.2.2)))
 (X3 ((0 : Int), v.2.1, v.2.2.1, v.2.2.2.1, v.2.2.2.2))
def zfQ (fuel : Nat) (g2 : zcZ → Option ((Bool × Unit) × Unit)) : zcZ → Option ((Bool × Unit) × Unit) := zc4 fuel (iter (zfP fuel) fuel) g2
theorem zv2 (fuel : Nat) (G) : zt.lp (zG fuel) 0 fuel G (endX zV zH) 2 zc2 = iter (zfQ fuel) fuel := C.lp_iter fun g v =>
  (show run (zG fuel) 0 fuel (zt.bdAt 2) (zc2 v).1 (zc2 v).2 (loopK 0 (zt.nmAt 2) g (zt.contAt (zG fuel) 0 fuel G 0 2 (endX zV zH))) = zc4 fuel (zt.lp (zG fuel) 0 fuel (fun m => bif Nat.beq m 2 then g else G m) (endX zV zH) 3 zoG) (fun v => g (zc2 v).1 (zc2 v).2) v by kernel_rfl).trans (by rw [zv1]; rfl)
def zc5 (fuel : Nat) (X1 : zcY → Option ((Bool × Unit) × Unit)) (X2 : zcZ → Option ((Bool × Unit) × Unit)) (g0 : zbs → Option ((Bool × Unit) × Unit)) (v : zbs) : Option ((Bool × Unit) × Unit) :=
 cond (decide (v.1 < (5 : Int)))
 (tst (decide (0 ≤ v.1)) <|
 tst (decide (v.1 < (zz (List.length v.2.1)))) <|
 Option.bind (zc fuel (((List.getD v.2.1 (Int.toNat v.1) (0, ([], (0, (0, (0, ())))))).1, ()), ((1 : Int), ()), ((20 : Int), ()), ())) fun y_2 =>
 cond (!y_2.1.1)
 (some (((false, ()), ())))
 (Option.bind (zhV fuel ((v.2.1, v.2.2.1, v.2.2.2.1, v.2.2.2.2, ()), (v.1, ()), ())) fun y_4 =>
 cond (!y_4.1.1)
 (some (((false, ()), ())))
 (Option.bind (zS fuel ((v.1, ()), (v.1, ()), ())) fun y_6 =>
 tst (decide (0 ≤ y_6.1.1)) <|
 tst (decide (y_6.1.1 < (zz (List.length v.2.2.1)))) <|
 cond (List.getD v.2.2.1 (Int.toNat y_6.1.1) false)
 (some (((false, ()), ())))
 (X1 ((0 : Int), v.1, v.2.1, v.2.2.1, v.2.2.2.1, v.2.2.2.2)))))
 (X2 ((0 : Int), v.2.1, v.2.2.1, v.2.2.2.1, v.2.2.2.2))
def zfR (fuel : Nat) (g0 : zbs → Option ((Bool × Unit) × Unit)) : zbs → Option ((Bool × Unit) × Unit) := zc5 fuel (iter (zkq fuel g0) fuel) (iter (zfQ fuel) fuel) g0
theorem zv3 (fuel : Nat) (G) : zt.lp (zG fuel) 0 fuel G (endX zV zH) 0 zax = iter (zfR fuel) fuel := C.lp_iter fun g v =>
  (show run (zG fuel) 0 fuel (zt.bdAt 0) (zax v).1 (zax v).2 (loopK 0 (zt.nmAt 0) g (zt.contAt (zG fuel) 0 fuel G 0 0 (endX zV zH))) = zc5 fuel (zt.lp (zG fuel) 0 fuel (fun m => bif Nat.beq m 0 then g else G m) (endX zV zH) 1 zc1) (zt.lp (zG fuel) 0 fuel (fun m => bif Nat.beq m 0 then g else G m) (endX zV zH) 2 zc2) (fun v => g (zax v).1 (zax v).2) v by kernel_rfl).trans (by rw [zv0, zv2]; rfl)
def zia (fuel : Nat) (X0 : zbs → Option ((Bool × Unit) × Unit)) (x0 : List NY) (x1 : List Bool) (x2 : List WY) (x3 : List (List (List Int))) : Option ((Bool × Unit) × Unit) :=
 cond ((zz (List.length x0)) != (5 : Int))
 (some (((false, ()), ())))
 (cond ((zz (List.length x3)) != (5 : Int))
 (some (((false, ()), ())))
 (cond ((zz (List.length x1)) != (25 : Int))
 (some (((false, ()), ())))
 (cond (decide ((zz (List.length x2)) > (24 : Int)))
 (some (((false, ()), ())))
 (X0 ((0 : Int), x0, x1, x2, x3)))))
def zc6 (fuel : Nat) (z : (((List NY) × ((List Bool) × ((List WY) × ((List (List (List Int))) × Unit)))) × Unit)) : Option ((Bool × Unit) × Unit) := zia fuel (iter (zfR fuel) fuel) z.1.1 z.1.2.1 z.1.2.2.1 z.1.2.2.2.1
theorem zv4 (fuel : Nat) (xa : zH.rt.T) (xd : zH.D.T) : zH.go (zG fuel) fuel zt zV xa xd = zc6 fuel (zH.xb (xa, xd)) :=
  (show zH.go (zG fuel) fuel zt zV xa xd = zia fuel (zt.lp (zG fuel) 0 fuel (fun _ _ _ => none) (endX zV zH) 0 zax) xd.1.1 xd.1.2.1 xd.1.2.2.1 xd.1.2.2.2.1 by kernel_rfl).trans (by rw [zv3]; rfl)
abbrev zfS (fuel : Nat) : LE := ⟨zH, zc6 fuel⟩
theorem zkr (fuel : Nat) : EntryOK Try.prog 9 (zfS fuel).te := okF (T := zG fuel) (fn := Try.f9) (le := zfS fuel) (frz := []) (ann := zoF) (cuts := []) (rv := zV) (TabOK.of (entCons (zfB fuel) (entCons (zq fuel) (entCons (zvs fuel) (entCons (zvS fuel) (entCons (zvX fuel) entNil))))) (methNil)) mixed (by kernel_rfl) (by kernel_rfl) (by kernel_rfl) (fun _ => rfl) (fun _ => rfl) (fun xa xd y h => ⟨fuel, (zv4 fuel xa xd).trans h⟩)
end Go.Proofs.Ytljojacnjjgceaa.Den
namespace Go.Proofs.Ytljojacnjjgceaa.Den
open Go Go.RowKit
noncomputable def dcd (p : Prop) : Bool := @decide p (Classical.propDecidable p)
theorem dcd_iff {p : Prop} : dcd p = true ↔ p := @decide_eq_true_iff p (Classical.propDecidable p)
theorem dcd_pos {p : Prop} (h : p) : dcd p = true := dcd_iff.2 h
theorem dcd_neg {p : Prop} (h : ¬ p) : dcd p = false := by
  cases e : dcd p with
  | false => rfl
  | true => exact absurd (dcd_iff.1 e) h
theorem za2 {p q : Prop} (h : p ↔ q) : dcd p = dcd q := by rw [propext h]
theorem dcd_dec {p : Prop} [Decidable p] : decide p = dcd p := by
  by_cases h : p
  · rw [decide_eq_true h, dcd_pos h]
  · rw [decide_eq_false h, dcd_neg h]
theorem za3 {p : Prop} {α : Type} {x y r : α} (h1 : p → x = r) (h2 : ¬ p → y = r) : cond (dcd p) x y = r := by
  by_cases h : p
  · rw [dcd_pos h]; exact h1 h
  · rw [dcd_neg h]; exact h2 h
def deep (s : SumD) : SY := ((s.1, ()), (s.2.1, ()), (s.2.2.1, s.2.2.2.1, s.2.2.2.2.1, ()), (s.2.2.2.2.2.1, s.2.2.2.2.2.2.1, ()), ())
def flat (y : SY) : SumD := (y.1.1, y.2.1.1, y.2.2.1.1, y.2.2.1.2.1, y.2.2.1.2.2.1, y.2.2.2.1.1, y.2.2.2.1.2.1, ())
theorem zAL (s : SumD) : flat (deep s) = s := rfl
abbrev N0d : NY := (0, ([], (0, (0, (0, ())))))
abbrev E0d : EY := (0, (0, (0, ((([], ()), (([], ()), (([], (0, (0, ()))), (([], (0, ())), ())))), ()))))
abbrev W0d : WY := (0, (0, (0, (0, (0, ([], ()))))))
abbrev nd (N : List NY) (i : Nat) : NY := List.getD N i N0d
abbrev pst (P : List (List (List Int))) (a b : Nat) : List Int := List.getD (List.getD P a []) b []
structure EntT (N : List NY) (P : List (List (List Int))) (e : EY) : Prop where
  node : 0 ≤ e.1 ∧ e.1 ≤ 4
  born : 1 ≤ e.2.1 ∧ e.2.1 ≤ (nd N e.1.toNat).1
  num : 0 ≤ e.2.2.1 ∧ e.2.2.1 ≤ ((pst P e.1.toNat e.2.1.toNat).length : Int)
  fine : (sumOf ((pst P e.1.toNat e.2.1.toNat).take e.2.2.1.toNat)).2 = true
  sum : (sumOf ((pst P e.1.toNat e.2.1.toNat).take e.2.2.1.toNat)).1 = flat e.2.2.2.1
def KnT (N : List NY) (P : List (List (List Int))) (l : List EY) : Prop := (∀ e ∈ l, EntT N P e) ∧ l.Pairwise fun a b => a.1 < b.1
def own (l : List EY) (i : Int) : Option EY := l.find? fun e => e.1 == i
structure PastT (N : List NY) (P : List (List (List Int))) (a : Nat) : Prop where
  len : ((List.getD P a []).length : Int) = (nd N a).1 + 1
  zero : pst P a 0 = []
  rows : ∀ r ∈ List.getD P a [], (∀ t ∈ r, thingB t = true) ∧ r.length ≤ 100
structure RootT (x : NY) : Prop where
  level : x.2.2.2.1 = 0
  up : x.2.2.2.2.1 = -1
  beacon : 0 ≤ x.2.2.1
structure LeafT (b0 : Int) (i : Nat) (x : NY) : Prop where
  beacon : 0 ≤ x.2.2.1 ∧ x.2.2.1 ≤ b0
  level : 1 ≤ x.2.2.2.1 ∧ x.2.2.2.1 ≤ 5
  far : x.2.2.2.2.1 = -1 ↔ x.2.2.2.1 = 5
  up : -1 ≤ x.2.2.2.2.1 ∧ x.2.2.2.2.1 ≤ 4
  ne : x.2.2.2.2.1 ≠ (i : Int)
structure NodeT (N : List NY) (P : List (List (List Int))) (i : Nat) : Prop where
  own : ∃ e, own (nd N i).2.1 (i : Int) = some e ∧ e.2.1 = (nd N i).1 ∧ e.2.2.1 = ((pst P i (nd N i).1.toNat).length : Int)
  known : KnT N P (nd N i).2.1
  root : i = 0 → RootT (nd N i)
  leaf : i ≠ 0 → LeafT (nd N 0).2.2.1 i (nd N i)
structure WordT (N : List NY) (P : List (List (List Int))) (w : WY) : Prop where
  from_ : 0 ≤ w.2.1 ∧ w.2.1 ≤ 4
  to_ : 0 ≤ w.2.2.1 ∧ w.2.2.1 ≤ 4
  ne : w.2.1 ≠ w.2.2.1
  kind : (w.1 = 1 ∧ (0 ≤ w.2.2.2.1 ∧ w.2.2.2.1 ≤ (nd N 0).2.2.1) ∧ (0 ≤ w.2.2.2.2.1 ∧ w.2.2.2.2.1 ≤ 4) ∧ w.2.2.2.2.2.1 = []) ∨ (w.1 = 2 ∧ w.2.2.2.1 = 0 ∧ w.2.2.2.2.1 = 0 ∧ KnT N P w.2.2.2.2.2.1)
structure LinkT (L : List Bool) (a : Nat) : Prop where
  self : List.getD L (a * 5 + a) false = false
  sym : ∀ b, b < a → List.getD L (a * 5 + b) false = List.getD L (b * 5 + a) false
structure NetT (N : List NY) (L : List Bool) (W : List WY) (P : List (List (List Int))) : Prop where
  nodes : N.length = 5
  pasts : P.length = 5
  links : L.length = 25
  words : W.length ≤ 24
  born : ∀ a, a < 5 → 1 ≤ (nd N a).1 ∧ (nd N a).1 ≤ 20
  past : ∀ a, a < 5 → PastT N P a
  link : ∀ a, a < 5 → LinkT L a
  node : ∀ a, a < 5 → NodeT N P a
  word : ∀ w ∈ W, WordT N P w
  beacon : (nd N 0).2.2.1 ≤ 1000
structure Fr (N : List NY) (P : List (List (List Int))) : Prop where
  nodes : N.length = 5
  pasts : P.length = 5
  born : ∀ a, a < 5 → 1 ≤ (nd N a).1 ∧ (nd N a).1 ≤ 20
  past : ∀ a, a < 5 → PastT N P a
theorem NetT.fr {N : List NY} {L : List Bool} {W : List WY} {P : List (List (List Int))} (h : NetT N L W P) : Fr N P := ⟨h.nodes, h.pasts, h.born, h.past⟩
def SmallE (n : Nat) (l : List EY) : Prop := l.length ≤ n ∧ ∀ e ∈ l, SmallS (flat e.2.2.2.1) n
structure SmallN (n : Nat) (N : List NY) (L : List Bool) (W : List WY) (P : List (List (List Int))) : Prop where
  nodes : N.length ≤ n
  known : ∀ x ∈ N, SmallE n x.2.1
  links : L.length ≤ n
  words : W.length ≤ n
  said : ∀ w ∈ W, SmallE n w.2.2.2.2.2.1
  pasts : P.length ≤ n
  past : ∀ p ∈ P, p.length ≤ n ∧ ∀ r ∈ p, r.length ≤ n
theorem zF {α : Type} {l : List α} {i : Nat} (d : α) (h : i < l.length) : List.getD l i d ∈ l := by
  rw [List.getD_eq_getElem?_getD, List.getElem?_eq_getElem h]; exact List.getElem_mem h
theorem pst_row {N : List NY} {P : List (List (List Int))} {a : Nat} (h : PastT N P a) {b : Nat} (hb : (b : Int) ≤ (nd N a).1) : (∀ t ∈ pst P a b, thingB t = true) ∧ (pst P a b).length ≤ 100 :=
  h.rows _ (zF [] (by have := h.len; omega))
section
variable {R : Type}
theorem zip_up {α : Type} (a b : List α) (d0 : α) (hl : a.length = b.length) (t : α → α → Bool) (ht : ∀ x y, t x y = true ↔ x ≠ y) (fin : Unit → Option R) (r0 : R) : ∀ (d i : Nat), i + d = a.length →
    upGo (σ := Unit) (fun i k s => cond (t (List.getD a i d0) (List.getD b i d0)) (some r0) (k s)) fin d i () = cond (dcd (a.drop i = b.drop i)) (fin ()) (some r0)
  | 0, i, h => by
    rw [List.drop_eq_nil_of_le (by omega), List.drop_eq_nil_of_le (by omega), dcd_pos rfl]; rfl
  | d + 1, i, h => by
    show cond (t _ _) (some r0) (upGo _ fin d (i + 1) ()) = _
    rw [zip_up a b d0 hl t ht fin r0 d (i + 1) (by omega), zbJ d0 (show i < a.length by omega), zbJ d0 (show i < b.length by omega)]
    by_cases h1 : List.getD a i d0 = List.getD b i d0
    · have h2 : t (List.getD a i d0) (List.getD b i d0) = false := by
        cases e : t (List.getD a i d0) (List.getD b i d0) with
        | false => rfl
        | true => exact absurd h1 ((ht _ _).1 e)
      rw [h2, cond_false]
      congr 1
      refine za2 ⟨fun h => by rw [h1, h], fun h => ?_⟩
      exact (List.cons.inj h).2
    · rw [(ht _ _).2 h1, cond_true, dcd_neg fun h => h1 (List.cons.inj h).1, cond_false]
theorem zip0 {α : Type} (a b : List α) (d0 : α) (hl : a.length = b.length) (t : α → α → Bool) (ht : ∀ x y, t x y = true ↔ x ≠ y) (fin : Unit → Option R) (r0 : R) :
    upGo (σ := Unit) (fun i k s => cond (t (List.getD a i d0) (List.getD b i d0)) (some r0) (k s)) fin a.length 0 () = cond (dcd (a = b)) (fin ()) (some r0) := by
  rw [zip_up a b d0 hl t ht fin r0 a.length 0 (by omega)]
  rfl
theorem up_all {p : Nat → Prop} (fin : Unit → Option R) (r0 : R) : ∀ (d i : Nat),
    upGo (σ := Unit) (fun i k s => cond (dcd (p i)) (k s) (some r0)) fin d i () = cond (dcd (∀ j, i ≤ j → j < i + d → p j)) (fin ()) (some r0)
  | 0, i => by rw [dcd_pos fun j h1 h2 => by omega]; rfl
  | d + 1, i => by
    show cond (dcd (p i)) (upGo _ fin d (i + 1) ()) (some r0) = _
    rw [up_all fin r0 d (i + 1)]
    by_cases h : p i
    · rw [dcd_pos h, cond_true]
      congr 1
      refine za2 ⟨fun h1 j h2 h3 => ?_, fun h1 j h2 h3 => h1 j (by omega) (by omega)⟩
      rcases Nat.eq_or_lt_of_le h2 with h4 | h4
      · subst h4; exact h
      · exact h1 j (by omega) (by omega)
    · rw [dcd_neg h, cond_false, dcd_neg fun h1 => h (h1 i (by omega) (by omega)), cond_false]
theorem zrL {α : Type} {p : α → Prop} (fin : Unit → Option R) (r0 : R) (l : List α) : goL (σ := Unit) (fun x k s => cond (dcd (p x)) (k s) (some r0)) fin l () = cond (dcd (∀ x ∈ l, p x)) (fin ()) (some r0) := by
  rw [all_go (fun x => dcd (p x)) r0 (fun _ _ _ => rfl)]
  congr 1
  cases e : l.all fun x => dcd (p x) with
  | true => exact (dcd_pos fun x hx => dcd_iff.1 (List.all_eq_true.1 e x hx)).symm
  | false =>
    refine (dcd_neg fun h => ?_).symm
    rw [List.all_eq_true.2 fun x hx => dcd_pos (h x hx)] at e
    cases e
end
theorem same_eq (f : Nat) (a b : List Int) (hl : a.length < 4294967296) (hf : a.length < f) : zfF f ((a, ()), (b, ()), ()) = some ((dcd (a = b), ()), ()) := by
  show zhY f (iter (zhX f) f) a b = _
  unfold zhY
  by_cases h : a.length = b.length
  · have e : (zz a.length != zz b.length) = false := by simp [zz_eq, h]
    rw [e, cond_false]
    refine (iter_up (st := zhX f) (enc := fun i (s : Unit) => ((i : Int), a, b)) (body := fun i k s => cond (List.getD a i 0 != List.getD b i 0) (some ((false, ()), ())) (k s)) (fin := fun _ => some ((true, ()), ())) a.length ?_ ?_ a.length 0 () f (by omega) hf).trans ?_
    · intro i s g hi
      show zfE f g _ = _
      unfold zfE
      simp only [zz_eq, lt_cast hi, lt_cast (h ▸ hi : i < b.length), le_cast, decide_true, cond_true, Int.toNat_natCast, w64_up (show i < 4294967296 by omega)]
    · intro s g
      show zfE f g _ = _
      unfold zfE
      simp only [zz_eq, zh, decide_false, cond_false]
    · rw [zip0 a b 0 h (fun x y => x != y) (fun x y => by simp)]
      exact za3 (fun h => by rw [dcd_pos h]) fun h => by rw [dcd_neg h]
  · have e : (zz a.length != zz b.length) = true := by simp [zz_eq]; omega
    rw [e, cond_true, dcd_neg fun e => h (by rw [e])]
theorem knot_ne (x y : Knot) : (!(x.1 == y.1 && (x.2.1 == y.2.1 && true))) = true ↔ x ≠ y := by
  obtain ⟨a, b, ⟨⟩⟩ := x
  obtain ⟨c, d, ⟨⟩⟩ := y
  by_cases h : a = c <;> simp [h]
theorem sums_eq (f : Nat) (a b : SumD) {n : Nat} (ha : SmallS a n) (hn : n < 1000000000) (hf : n < f) : zh3 f (a, b, ()) = some ((dcd (a = b), ()), ()) := by
  obtain ⟨x0, x1, x2, x3, x4, x5, x6, ⟨⟩⟩ := a
  obtain ⟨x7, x8, x9, x10, x11, x12, x13, ⟨⟩⟩ := b
  have h1 := ha.rows; have h2 := ha.row; have h3 := ha.marks; have h4 := ha.pairs; have h5 := ha.knots
  simp only at h1 h2 h3 h4 h5
  show zh2 f (iter (zh1 f) f) x0 x1 x2 x3 x4 x5 x6 x7 x8 x9 x10 x11 x12 x13 = _
  unfold zh2
  have no : ∀ {p : Prop}, ¬ p → ((x0, x1, x2, x3, x4, x5, x6, ()) = (x7, x8, x9, x10, x11, x12, x13, ()) → p) → dcd ((x0, x1, x2, x3, x4, x5, x6, ()) = (x7, x8, x9, x10, x11, x12, x13, ())) = false := fun h1 h2 => dcd_neg fun e => h1 (h2 e)
  by_cases c0 : x0.length = x7.length
  rotate_left
  · rw [show (zz x0.length != zz x7.length) = true by simp [zz_eq]; omega, cond_true, no c0 fun e => by rw [(Prod.mk.inj e).1]]
  rw [show (zz x0.length != zz x7.length) = false by simp [zz_eq, c0], cond_false, same_eq f x1 x8 (by omega) (by omega), Option.bind_some]
  by_cases c1 : x1 = x8
  rotate_left
  · simp only [dcd_neg c1, Bool.not_false, cond_true]
    rw [no c1 fun e => by simp only [Prod.mk.injEq] at e; exact e.2.1]
  simp only [dcd_pos c1, Bool.not_true, cond_false]
  by_cases c3 : x3 = x10
  rotate_left
  · rw [show (x3 != x10) = true by simpa using c3, cond_true, no c3 fun e => by simp only [Prod.mk.injEq] at e; exact e.2.2.2.1]
  rw [show (x3 != x10) = false by simp [c3], cond_false]
  by_cases c4 : x4 = x11
  rotate_left
  · rw [show (x4 != x11) = true by simpa using c4, cond_true, no c4 fun e => by simp only [Prod.mk.injEq] at e; exact e.2.2.2.2.1]
  rw [show (x4 != x11) = false by simp [c4], cond_false]
  by_cases c6 : x6 = x13
  rotate_left
  · rw [show (x6 != x13) = true by simpa using c6, cond_true, no c6 fun e => by simp only [Prod.mk.injEq] at e; exact e.2.2.2.2.2.2.1]
  rw [show (x6 != x13) = false by simp [c6], cond_false]
  by_cases c2 : x2.length = x9.length
  rotate_left
  · rw [show (zz x2.length != zz x9.length) = true by simp [zz_eq]; omega, cond_true, no c2 fun e => by simp only [Prod.mk.injEq] at e; rw [e.2.2.1]]
  rw [show (zz x2.length != zz x9.length) = false by simp [zz_eq, c2], cond_false]
  by_cases c5 : x5.length = x12.length
  rotate_left
  · rw [show (zz x5.length != zz x12.length) = true by simp [zz_eq]; omega, cond_true, no c5 fun e => by simp only [Prod.mk.injEq] at e; rw [e.2.2.2.2.2.1]]
  rw [show (zz x5.length != zz x12.length) = false by simp [zz_eq, c5], cond_false]
  let tl : Int → Int × List (List Int) × List Int × LP × Int × Int × LP × Int × List (List Int) × List Int × LP × Int × Int × LP × Int := fun i => (i, x0, x1, x2, x3, x4, x5, x6, x7, x8, x9, x10, x11, x12, x13)
  -- the third loop
  have l2 : iter (zhZ f) f (tl 0) = cond (dcd (x5 = x12)) (some ((true, ()), ())) (some ((false, ()), ())) := by
    refine (iter_up (st := zhZ f) (enc := fun i (s : Unit) => tl (i : Int)) (body := fun i k s => cond (!((List.getD x5 i (0, (0, ()))).1 == (List.getD x12 i (0, (0, ()))).1 && ((List.getD x5 i (0, (0, ()))).2.1 == (List.getD x12 i (0, (0, ()))).2.1 && true))) (some ((false, ()), ())) (k s)) (fin := fun _ => some ((true, ()), ())) x5.length ?_ ?_ x5.length 0 () f (by omega) (by omega)).trans ?_
    · intro i s g hi
      show zfG f g _ = _
      unfold zfG
      simp only [tl, zz_eq, lt_cast hi, lt_cast (c5 ▸ hi : i < x12.length), le_cast, decide_true, cond_true, Int.toNat_natCast, w64_up (show i < 4294967296 by omega)]
    · intro s g
      show zfG f g _ = _
      unfold zfG
      simp only [tl, zz_eq, zh, decide_false, cond_false]
    · rw [zip0 x5 x12 (0, (0, ())) c5 (fun x y => !(x.1 == y.1 && (x.2.1 == y.2.1 && true))) knot_ne]
  have l1 : iter (zh0 f) f (tl 0) = cond (dcd (x2 = x9)) (cond (dcd (x5 = x12)) (some ((true, ()), ())) (some ((false, ()), ()))) (some ((false, ()), ())) := by
    refine (iter_up (st := zh0 f) (enc := fun i (s : Unit) => tl (i : Int)) (body := fun i k s => cond (!((List.getD x2 i (0, (0, ()))).1 == (List.getD x9 i (0, (0, ()))).1 && ((List.getD x2 i (0, (0, ()))).2.1 == (List.getD x9 i (0, (0, ()))).2.1 && true))) (some ((false, ()), ())) (k s)) (fin := fun _ => cond (dcd (x5 = x12)) (some ((true, ()), ())) (some ((false, ()), ()))) x2.length ?_ ?_ x2.length 0 () f (by omega) (by omega)).trans ?_
    · intro i s g hi
      show zcV f _ g _ = _
      unfold zcV
      simp only [tl, zz_eq, lt_cast hi, lt_cast (c2 ▸ hi : i < x9.length), le_cast, decide_true, cond_true, Int.toNat_natCast, w64_up (show i < 4294967296 by omega)]
    · intro s g
      show zcV f _ g _ = _
      unfold zcV
      simp only [tl, zz_eq, zh, decide_false, cond_false]
      exact l2
    · rw [zip0 x2 x9 (0, (0, ())) c2 (fun x y => !(x.1 == y.1 && (x.2.1 == y.2.1 && true))) knot_ne]
  refine (iter_up (st := zh1 f) (enc := fun i (s : Unit) => tl (i : Int)) (body := fun i k s => cond (!dcd (List.getD x0 i [] = List.getD x7 i [])) (some ((false, ()), ())) (k s)) (fin := fun _ => cond (dcd (x2 = x9)) (cond (dcd (x5 = x12)) (some ((true, ()), ())) (some ((false, ()), ()))) (some ((false, ()), ()))) x0.length ?_ ?_ x0.length 0 () f (by omega) (by omega)).trans ?_
  · intro i s g hi
    show zcW f _ g _ = _
    unfold zcW
    have hr := h2 (List.getD x0 i []) (zF [] hi)
    simp only [tl, zz_eq, lt_cast hi, lt_cast (c0 ▸ hi : i < x7.length), le_cast, decide_true, cond_true, Int.toNat_natCast, w64_up (show i < 4294967296 by omega), same_eq f (List.getD x0 i []) (List.getD x7 i []) (by omega) (by omega), Option.bind_some]
  · intro s g
    show zcW f _ g _ = _
    unfold zcW
    simp only [tl, zz_eq, zh, decide_false, cond_false]
    exact l1
  · rw [zip0 x0 x7 [] c0 (fun x y => !dcd (x = y)) (fun x y => by
      by_cases h : x = y
      · rw [dcd_pos h]; simp [h]
      · rw [dcd_neg h]; simp [h])]
    refine za3 (fun e0 => za3 (fun e2 => za3 (fun e5 => ?_) fun e5 => ?_) fun e2 => ?_) fun e0 => ?_
    · rw [dcd_pos (by rw [e0, c1, e2, c3, c4, e5, c6])]
    · rw [no e5 fun e => by simp only [Prod.mk.injEq] at e; exact e.2.2.2.2.2.1]
    · rw [no e2 fun e => by simp only [Prod.mk.injEq] at e; exact e.2.2.1]
    · rw [no e0 fun e => (Prod.mk.inj e).1]
end Go.Proofs.Ytljojacnjjgceaa.Den
namespace Go.Proofs.Ytljojacnjjgceaa.Den
open Go Go.RowKit
theorem in_dcd (f : Nat) (n lo hi : Int) : zc f ((n, ()), (lo, ()), (hi, ()), ()) = some ((dcd (lo ≤ n ∧ n ≤ hi), ()), ()) := by rw [in_eq, dcd_dec]
theorem zjr : w64 ((5 : Int) - 1) = 4 := by rw [w64_id] <;> omega
section
variable {f : Nat} {N : List NY} {L : List Bool} {W : List WY} {P : List (List (List Int))}
theorem zAM (hf : 1000 < f) (fr : Fr N P) (e : EY) :
    zh4 f ((N, L, W, P, ()), (e.1, e.2.1, e.2.2.1, e.2.2.2.1.1.1, e.2.2.2.1.2.1.1, e.2.2.2.1.2.2.1.1, e.2.2.2.1.2.2.1.2.1, e.2.2.2.1.2.2.1.2.2.1, e.2.2.2.1.2.2.2.1.1, e.2.2.2.1.2.2.2.1.2.1, ()), ()) = some ((dcd (EntT N P e), ()), ()) := by
  obtain ⟨x4, x5, x6, y, ⟨⟩⟩ := e
  show zkk f N L W P x4 x5 x6 y.1.1 y.2.1.1 y.2.2.1.1 y.2.2.1.2.1 y.2.2.1.2.2.1 y.2.2.2.1.1 y.2.2.2.1.2.1 = _
  unfold zkk
  simp only [in_dcd, Option.bind_some, zz_eq, fr.nodes, fr.pasts]
  by_cases c1 : 0 ≤ x4 ∧ x4 ≤ 4
  rotate_left
  · rw [dcd_neg (fun h : EntT N P (x4, x5, x6, y, ()) => c1 h.node), show w64 (((5 : Nat) : Int) - 1) = 4 from zjr, dcd_neg c1]; rfl
  rw [show w64 (((5 : Nat) : Int) - 1) = 4 from zjr, dcd_pos c1]
  have hi : x4.toNat < 5 := by omega
  have hp := fr.past _ hi
  have hb := fr.born _ hi
  simp only [Bool.not_true, cond_false, c1.1, show x4 < ((5 : Nat) : Int) by omega, decide_true, cond_true]
  by_cases c2 : 1 ≤ x5 ∧ x5 ≤ (nd N x4.toNat).1
  rotate_left
  · rw [dcd_neg (fun h : EntT N P (x4, x5, x6, y, ()) => c2 h.born), dcd_neg c2]; rfl
  have hx5 : (x5.toNat : Int) = x5 := by omega
  have hl := pst_row hp (b := x5.toNat) (by omega)
  have hlt : x5 < ((List.getD P x4.toNat []).length : Int) := by have := hp.len; omega
  simp only [dcd_pos c2, Bool.not_true, cond_false, show (0 : Int) ≤ x5 by omega, hlt, decide_true, cond_true]
  by_cases c3 : 0 ≤ x6 ∧ x6 ≤ ((pst P x4.toNat x5.toNat).length : Int)
  rotate_left
  · rw [dcd_neg (fun h : EntT N P (x4, x5, x6, y, ()) => c3 h.num), dcd_neg c3]; rfl
  rw [dcd_pos c3]
  simp only [Bool.not_true, cond_false, c3.1, c3.2, decide_true, cond_true, List.drop_zero]
  have ht : ((pst P x4.toNat x5.toNat).take x6.toNat).length ≤ 100 := by
    rw [List.length_take]; have := hl.2; omega
  rw [zAg f ((pst P x4.toNat x5.toNat).take x6.toNat) (by omega) (by omega) (by omega), Option.bind_some]
  cases h4 : (sumOf ((pst P x4.toNat x5.toNat).take x6.toNat)).2 with
  | false =>
    simp only [cond_false]
    rw [dcd_neg fun h : EntT N P (x4, x5, x6, y, ()) => by have := h.fine; rw [h4] at this; cases this]
  | true =>
    simp only [cond_true]
    have hs := sums_eq f (sumOf ((pst P x4.toNat x5.toNat).take x6.toNat)).1 (flat y) (zlT _) (by omega) (by omega)
    refine (congrArg (fun o => Option.bind o _) hs).trans ?_
    rw [Option.bind_some]
    refine congrArg (fun b => some ((b, ()), ())) (za2 ⟨fun h => ⟨c1, c2, c3, h4, h⟩, fun h => h.sum⟩)
def ascP (p : Int) : List EY → Prop
  | [] => True
  | x :: l => p < x.1 ∧ ascP x.1 l
theorem ascP_lt : ∀ {l : List EY} {p q : Int}, q ≤ p → ascP p l → ∀ x ∈ l, q < x.1
  | [], _, _, _, _, x, h => by cases h
  | y :: l, p, q, hq, h, x, hx => by
    obtain ⟨h1, h2⟩ := h
    rcases List.mem_cons.1 hx with rfl | hx
    · omega
    · exact ascP_lt (p := y.1) (by omega) h2 x hx
theorem zl8 : ∀ {l : List EY} {p : Int}, ascP p l ↔ (∀ x ∈ l, p < x.1) ∧ l.Pairwise fun a b => a.1 < b.1
  | [], p => by simp [ascP]
  | y :: l, p => by
    simp only [ascP, List.pairwise_cons]
    constructor
    · rintro ⟨h1, h2⟩
      refine ⟨fun x hx => ?_, fun x hx => ascP_lt (Int.le_refl _) h2 x hx, (zl8.1 h2).2⟩
      rcases List.mem_cons.1 hx with rfl | hx
      · exact h1
      · exact ascP_lt (Int.le_of_lt h1) h2 x hx
    · rintro ⟨h1, h2, h3⟩
      exact ⟨h1 y (List.mem_cons_self ..), zl8.2 ⟨h2, h3⟩⟩
theorem KnT.iff {l : List EY} : KnT N P l ↔ (∀ e ∈ l, EntT N P e) ∧ ascP (-1) l := by
  unfold KnT
  rw [zl8]
  refine ⟨fun h => ⟨h.1, fun x hx => ?_, h.2⟩, fun h => ⟨h.1, h.2.2⟩⟩
  have := (h.1 x hx).node; omega
theorem zrM (hf : 1000 < f) (fr : Fr N P) (l : List EY) (hl : l.length < f) (hl2 : l.length < 4294967296) : zfL f ((N, L, W, P, ()), (l, ()), ()) = some ((dcd (KnT N P l), ()), ()) := by
  show iter (zh6 f) f ((0 : Int), l, N, L, W, P) = _
  refine (zlJ (st := zh6 f) (enc := fun i (s : Unit) => ((i : Int), l, N, L, W, P)) (fun x p k s => cond (!dcd (EntT N P x)) (some ((false, ()), ())) (cond (decide (p ≥ x.1)) (some ((false, ()), ())) (k s))) (fun _ => some ((true, ()), ())) l E0d (-1 : Int) (fun x => x.1) ?_ ?_ f () hl).trans ?_
  · intro i s g hi
    show zfK f g _ = _
    unfold zfK
    simp only [zz_eq, lt_cast hi, le_cast, decide_true, cond_true, Int.toNat_natCast, w64_up (show i < 4294967296 by omega), zAM hf fr, Option.bind_some]
    by_cases c : EntT N P (List.getD l i E0d)
    rotate_left
    · simp only [dcd_neg c, Bool.not_false, cond_true]
    simp only [dcd_pos c, Bool.not_true, cond_false]
    by_cases hi0 : i = 0
    · subst hi0
      have h2 : ¬ ((-1 : Int) ≥ (List.getD l 0 E0d).1) := by have := c.node; omega
      simp only [zlK rfl, decide_false, cond_false, if_true, h2]
    · simp only [zlL hi0, w64_dn hi0 (show i < 4294967296 by omega), lt_cast (show i - 1 < l.length by omega), le_cast, decide_true, cond_true, if_neg hi0, Int.toNat_natCast]
  · intro s g
    show zfK f g _ = _
    unfold zfK
    simp only [zz_eq, zh, decide_false, cond_false]
  · have : ∀ (l : List EY) (p : Int), goL (fun x k (ps : Int × Unit) => cond (!dcd (EntT N P x)) (some ((false, ()), ())) (cond (decide (ps.1 ≥ x.1)) (some ((false, ()), ())) (k (x.1, ps.2)))) (fun ps => some ((true, ()), ())) l (p, ()) = some ((dcd ((∀ e ∈ l, EntT N P e) ∧ ascP p l), ()), ()) := by
      intro l
      induction l with
      | nil => intro p; rw [dcd_pos ⟨fun e h => (by cases h), trivial⟩]; rfl
      | cons x l ih =>
        intro p
        show cond (!dcd (EntT N P x)) _ (cond (decide (p ≥ x.1)) _ (goL _ _ l (x.1, ()))) = _
        by_cases c : EntT N P x
        rotate_left
        · rw [dcd_neg c, dcd_neg fun h => c (h.1 x (List.mem_cons_self ..))]; rfl
        rw [dcd_pos c]
        by_cases c2 : p < x.1
        rotate_left
        · rw [decide_eq_true (show p ≥ x.1 by omega), dcd_neg fun h => c2 h.2.1]; rfl
        rw [decide_eq_false (show ¬ p ≥ x.1 by omega), ih]
        simp only [Bool.not_true, cond_false]
        refine congrArg (fun b => some ((b, ()), ())) (za2 ⟨fun h => ⟨fun e he => ?_, c2, h.2⟩, fun h => ⟨fun e he => h.1 e (List.mem_cons_of_mem _ he), h.2.2⟩⟩)
        rcases List.mem_cons.1 he with rfl | he
        · exact c
        · exact h.1 e he
    rw [this l (-1), za2 KnT.iff]
theorem own_eq (x : NY) (i : Int) (hl : x.2.1.length < f) (hl2 : x.2.1.length < 4294967296) :
    zfz f ((x.1, x.2.1, x.2.2.1, x.2.2.2.1, x.2.2.2.2.1, ()), (i, ()), ()) = some (((((own x.2.1 i).getD E0d).1, ((own x.2.1 i).getD E0d).2.1, ((own x.2.1 i).getD E0d).2.2.1, flat ((own x.2.1 i).getD E0d).2.2.2.1)), ((own x.2.1 i).isSome, ()), ()) := by
  obtain ⟨b, l, be, lv, up, ⟨⟩⟩ := x
  show iter (zhR f) f ((0 : Int), i, b, l, be, lv, up, (0 : Int), (0 : Int), (0 : Int), (0 : Int), (0 : Int), (0 : Int)) = _
  refine (zaH (st := zhR f) (enc := fun k (s : Unit) => ((k : Int), i, b, l, be, lv, up, (0 : Int), (0 : Int), (0 : Int), (0 : Int), (0 : Int), (0 : Int))) (fun x k s => cond (x.1 == i) (some ((x.1, x.2.1, x.2.2.1, flat x.2.2.2.1), (true, ()), ())) (k s)) (fun s => some ((E0d.1, E0d.2.1, E0d.2.2.1, flat E0d.2.2.2.1), (false, ()), ())) l E0d ?_ ?_ f () hl).trans ?_
  · intro k s g hi
    show zfy f g _ = _
    unfold zfy
    simp only at hi hl2
    simp only [zz_eq, lt_cast hi, le_cast, decide_true, cond_true, Int.toNat_natCast, w64_up (show k < 4294967296 by omega)]
    rfl
  · intro s g
    show zfy f g _ = _
    unfold zfy
    simp only [zz_eq, zh, decide_false, cond_false]
    rfl
  · clear hl hl2
    show goL _ _ l () = some ((((own l i).getD E0d).1, ((own l i).getD E0d).2.1, ((own l i).getD E0d).2.2.1, flat ((own l i).getD E0d).2.2.2.1), ((own l i).isSome, ()), ())
    induction l with
    | nil => rfl
    | cons x l ih =>
      show cond (x.1 == i) _ (goL _ _ l ()) = _
      unfold own at ih ⊢
      rw [ih, List.find?_cons]
      cases x.1 == i <;> rfl
end
end Go.Proofs.Ytljojacnjjgceaa.Den
namespace Go.Proofs.Ytljojacnjjgceaa.Den
open Go Go.RowKit
theorem bneF {a b : Int} (h : a = b) : (a != b) = false := by simp [h]
theorem bneT {a b : Int} (h : a ≠ b) : (a != b) = true := by simpa using h
theorem beqT {a b : Int} (h : a = b) : (a == b) = true := by simp [h]
theorem beqF {a b : Int} (h : a ≠ b) : (a == b) = false := by simpa using h
section
variable {f : Nat} {N : List NY} {L : List Bool} {W : List WY} {P : List (List (List Int))}
theorem link_eq (f : Nat) {a b : Nat} (ha : a < 5) (hb : b < 5) : zS f (((a : Int), ()), ((b : Int), ()), ()) = some ((((a * 5 + b : Nat) : Int), ()), ()) := by
  show some ((w64 (w64 ((a : Int) * (5 : Int)) + (b : Int)), ()), ()) = _
  rw [w64_id (x := (a : Int) * 5) (by omega) (by omega), w64_id (by omega) (by omega)]
  congr 3
theorem cst5 {i : Nat} (h : i < 5) : (i : Int) < ((5 : Nat) : Int) := by omega
theorem za4 {i : Nat} (h : i < 5) : (i : Int) < 5 := by omega
theorem node_eq (hf : 1000 < f) (fr : Fr N P) {i : Nat} (hi : i < 5) (hl : (nd N i).2.1.length < f) (hl2 : (nd N i).2.1.length < 4294967296) :
    zh8 f ((N, L, W, P, ()), ((i : Int), ()), ()) = some ((dcd (NodeT N P i), ()), ()) := by
  show zkm f N L W P (i : Int) = _
  unfold zkm
  have hb := fr.born i hi
  have hp := fr.past i hi
  simp only [zz_eq, fr.nodes, fr.pasts, Int.toNat_natCast, le_cast, cst5 hi, decide_true, cond_true]
  rw [own_eq (nd N i) (i : Int) hl hl2, Option.bind_some]
  cases ho : own (nd N i).2.1 (i : Int) with
  | none =>
    rw [dcd_neg fun h : NodeT N P i => by obtain ⟨e, h1, _⟩ := h.own; rw [ho] at h1; cases h1]
    rfl
  | some e =>
    simp only [Option.isSome_some, Option.getD_some, Bool.not_true, cond_false]
    rw [zrM hf fr (nd N i).2.1 hl hl2, Option.bind_some]
    by_cases ck : KnT N P (nd N i).2.1
    rotate_left
    · rw [dcd_neg ck, dcd_neg fun h : NodeT N P i => ck h.known]; rfl
    rw [dcd_pos ck]
    simp only [Bool.not_true, cond_false]
    by_cases cb : e.2.1 = (nd N i).1
    rotate_left
    · rw [bneT cb, cond_true, dcd_neg fun h : NodeT N P i => by
        obtain ⟨e', h1, h2, _⟩ := h.own
        rw [ho] at h1; cases h1; exact cb h2]
    rw [bneF cb, cond_false]
    have hlt : (nd N i).1 < ((List.getD P i []).length : Int) := by have := hp.len; omega
    simp only [show (0 : Int) ≤ (nd N i).1 by omega, hlt, decide_true, cond_true]
    by_cases cn : e.2.2.1 = ((pst P i (nd N i).1.toNat).length : Int)
    rotate_left
    · rw [bneT cn, cond_true, dcd_neg fun h : NodeT N P i => by
        obtain ⟨e', h1, _, h2⟩ := h.own
        rw [ho] at h1; cases h1; exact cn h2]
    rw [bneF cn, cond_false]
    by_cases h0 : i = 0
    · subst h0
      rw [show (((0 : Nat) : Int) == (0 : Int)) = true from rfl, cond_true]
      by_cases c1 : (nd N 0).2.2.2.1 = 0
      rotate_left
      · rw [beqF c1, cond_false, dcd_neg fun h : NodeT N P 0 => c1 (h.root rfl).level]
      rw [beqT c1, cond_true]
      by_cases c2 : (nd N 0).2.2.2.2.1 = -1
      rotate_left
      · rw [beqF c2, cond_false, dcd_neg fun h : NodeT N P 0 => c2 (h.root rfl).up]
      rw [beqT c2, cond_true, dcd_dec]
      exact congrArg (fun b => some ((b, ()), ())) (za2 ⟨fun h => ⟨⟨e, ho, cb, cn⟩, ck, fun _ => ⟨c1, c2, h⟩, fun h => absurd rfl h⟩, fun h => (h.root rfl).beacon⟩)
    · rw [show (((i : Nat) : Int) == (0 : Int)) = false by simp; omega, cond_false]
      simp only [show (0 : Int) < ((5 : Nat) : Int) by omega, decide_true, cond_true, in_dcd, Option.bind_some, Int.toNat_zero]
      by_cases c1 : 0 ≤ (nd N i).2.2.1 ∧ (nd N i).2.2.1 ≤ (nd N 0).2.2.1
      rotate_left
      · rw [dcd_neg c1, cond_false, dcd_neg fun h : NodeT N P i => c1 (h.leaf h0).beacon]
      rw [dcd_pos c1, cond_true]
      by_cases c2 : 1 ≤ (nd N i).2.2.2.1 ∧ (nd N i).2.2.2.1 ≤ 5
      rotate_left
      · rw [dcd_neg c2, cond_false, dcd_neg fun h : NodeT N P i => c2 (h.leaf h0).level]
      rw [dcd_pos c2, cond_true]
      by_cases c3 : ((nd N i).2.2.2.2.1 = -1 ↔ (nd N i).2.2.2.1 = 5)
      rotate_left
      · have e3 : (((nd N i).2.2.2.2.1 == (-1 : Int)) == ((nd N i).2.2.2.1 == (5 : Int))) = false := by
          cases e : (((nd N i).2.2.2.2.1 == (-1 : Int)) == ((nd N i).2.2.2.1 == (5 : Int))) with
          | false => rfl
          | true =>
            refine absurd ?_ c3
            have e' := eq_of_beq e
            constructor
            · intro h; rw [h] at e'; exact eq_of_beq e'.symm
            · intro h; rw [h] at e'; exact eq_of_beq e'
        rw [e3, cond_false, dcd_neg fun h : NodeT N P i => c3 (h.leaf h0).far]
      have e3 : (((nd N i).2.2.2.2.1 == (-1 : Int)) == ((nd N i).2.2.2.1 == (5 : Int))) = true := by
        by_cases h5 : (nd N i).2.2.2.1 = 5
        · rw [c3.2 h5, h5]; rfl
        · have : (nd N i).2.2.2.2.1 ≠ -1 := fun h => h5 (c3.1 h)
          rw [beq_false_of_ne this, beq_false_of_ne h5]; rfl
      rw [e3, cond_true, show w64 (((5 : Nat) : Int) - 1) = 4 from zjr]
      by_cases c4 : -1 ≤ (nd N i).2.2.2.2.1 ∧ (nd N i).2.2.2.2.1 ≤ 4
      rotate_left
      · rw [dcd_neg c4, cond_false, dcd_neg fun h : NodeT N P i => c4 (h.leaf h0).up]
      rw [dcd_pos c4, cond_true]
      refine congrArg (fun b => some ((b, ()), ())) ?_
      by_cases c5 : (nd N i).2.2.2.2.1 = (i : Int)
      · rw [bneF c5, dcd_neg fun h : NodeT N P i => (h.leaf h0).ne c5]
      · rw [bneT c5, dcd_pos ⟨⟨e, ho, cb, cn⟩, ck, fun h => absurd h h0, fun _ => ⟨c1, c2, c3, c4, c5⟩⟩]
theorem word_eq (hf : 1000 < f) (fr : Fr N P) (w : WY) (hl : w.2.2.2.2.2.1.length < f) (hl2 : w.2.2.2.2.2.1.length < 4294967296) :
    zh9 f ((N, L, W, P, ()), (w.1, w.2.1, w.2.2.1, w.2.2.2.1, w.2.2.2.2.1, w.2.2.2.2.2.1, ()), ()) = some ((dcd (WordT N P w), ()), ()) := by
  obtain ⟨x4, x5, x6, x7, x8, x9, ⟨⟩⟩ := w
  simp only at hl hl2
  show zko f N L W P x4 x5 x6 x7 x8 x9 = _
  unfold zko
  simp only [in_dcd, Option.bind_some, zz_eq, fr.nodes, show w64 (((5 : Nat) : Int) - 1) = 4 from zjr]
  have fin : ∀ {p : Prop}, ¬ p → (WordT N P (x4, x5, x6, x7, x8, x9, ()) → p) → some ((false, ()), ()) = some ((dcd (WordT N P (x4, x5, x6, x7, x8, x9, ())), ()), ()) := fun h1 h2 => by rw [dcd_neg fun h => h1 (h2 h)]
  by_cases c1 : 0 ≤ x5 ∧ x5 ≤ 4
  rotate_left
  · rw [dcd_neg c1, cond_false]
    cases x4 == (1 : Int) <;> cases x4 == (2 : Int) <;> exact fin c1 fun h => h.from_
  rw [dcd_pos c1, cond_true]
  by_cases c2 : 0 ≤ x6 ∧ x6 ≤ 4
  rotate_left
  · rw [dcd_neg c2, cond_false]
    cases x4 == (1 : Int) <;> cases x4 == (2 : Int) <;> exact fin c2 fun h => h.to_
  rw [dcd_pos c2, cond_true]
  by_cases k1 : x4 = 1
  · subst k1
    rw [show ((1 : Int) == 1) = true from rfl, cond_true]
    by_cases c3 : x5 ≠ x6
    rotate_left
    · rw [bneF (Classical.not_not.1 c3), cond_false]; exact fin c3 fun h => h.ne
    rw [bneT c3, cond_true]
    simp only [show (0 : Int) < ((5 : Nat) : Int) by omega, decide_true, cond_true, Int.toNat_zero]
    have kd : WordT N P (1, x5, x6, x7, x8, x9, ()) → (0 ≤ x7 ∧ x7 ≤ (nd N 0).2.2.1) ∧ (0 ≤ x8 ∧ x8 ≤ 4) ∧ x9 = [] := fun h => by
      rcases h.kind with h | h
      · exact h.2
      · exact absurd (show _ = _ from h.1) (by simp)
    by_cases c4 : 0 ≤ x7 ∧ x7 ≤ (nd N 0).2.2.1
    rotate_left
    · rw [dcd_neg c4, cond_false]; exact fin c4 fun h => (kd h).1
    rw [dcd_pos c4, cond_true]
    by_cases c5 : 0 ≤ x8 ∧ x8 ≤ 4
    rotate_left
    · rw [dcd_neg c5, cond_false]; exact fin c5 fun h => (kd h).2.1
    rw [dcd_pos c5, cond_true]
    by_cases c6 : x9 = []
    · subst c6
      rw [dcd_pos ⟨c1, c2, c3, .inl ⟨rfl, c4, c5, rfl⟩⟩]; rfl
    · rw [show (((x9.length : Nat) : Int) == (0 : Int)) = false by
        cases x9 with
        | nil => exact absurd rfl c6
        | cons a l => simp; omega]
      exact fin c6 fun h => (kd h).2.2
  · rw [beqF k1, cond_false]
    by_cases k2 : x4 = 2
    rotate_left
    · rw [beqF k2, cond_false]
      refine fin (p := x4 = 1 ∨ x4 = 2) (by omega) fun h => ?_
      rcases h.kind with h | h
      · exact .inl h.1
      · exact .inr h.1
    subst k2
    rw [show ((2 : Int) == 2) = true from rfl, cond_true]
    have kd : WordT N P (2, x5, x6, x7, x8, x9, ()) → x7 = 0 ∧ x8 = 0 ∧ KnT N P x9 := fun h => by
      rcases h.kind with h | h
      · exact absurd (show _ = _ from h.1) (by simp)
      · exact h.2
    by_cases c3 : x5 ≠ x6
    rotate_left
    · rw [bneF (Classical.not_not.1 c3), cond_false]; exact fin c3 fun h => h.ne
    rw [bneT c3, cond_true]
    by_cases c4 : x7 = 0
    rotate_left
    · rw [beqF c4, cond_false]; exact fin c4 fun h => (kd h).1
    rw [beqT c4, cond_true]
    by_cases c5 : x8 = 0
    rotate_left
    · rw [beqF c5, cond_false]; exact fin c5 fun h => (kd h).2.1
    rw [beqT c5, cond_true, zrM hf fr x9 hl hl2, Option.bind_some]
    exact congrArg (fun b => some ((b, ()), ())) (za2 ⟨fun h => ⟨c1, c2, c3, .inr ⟨rfl, c4, c5, h⟩⟩, fun h => (kd h).2.2⟩)
theorem past_eq {n : Nat} (hn : n < 1000000000) (hnf : n < f) (hN : N.length = 5) (hP : P.length = 5) {a : Nat} (ha : a < 5) (hb : 1 ≤ (nd N a).1 ∧ (nd N a).1 ≤ 20) (hs : ∀ p ∈ P, p.length ≤ n ∧ ∀ r ∈ p, r.length ≤ n) :
    zhV f ((N, L, W, P, ()), ((a : Int), ()), ()) = some ((dcd (PastT N P a), ()), ()) := by
  show zhU f (iter (zhT f) f) N L W P (a : Int) = _
  unfold zhU
  obtain ⟨s1, s2⟩ := hs (List.getD P a []) (zF [] (by omega))
  simp only [zz_eq, hN, hP, Int.toNat_natCast, le_cast, cst5 ha, decide_true, cond_true, Int.toNat_zero]
  rw [w64_id (x := (nd N a).1 + 1) (by omega) (by omega)]
  by_cases c1 : ((List.getD P a []).length : Int) = (nd N a).1 + 1
  rotate_left
  · rw [bneT c1, cond_true, dcd_neg fun h : PastT N P a => c1 h.len]
  rw [bneF c1, cond_false]
  simp only [show (0 : Int) < ((List.getD P a []).length : Int) by omega, decide_true, cond_true]
  by_cases c2 : pst P a 0 = []
  rotate_left
  · rw [show (((pst P a 0).length : Int) != (0 : Int)) = true by
      cases h : pst P a 0 with
      | nil => exact absurd h c2
      | cons x l => simp; omega, cond_true, dcd_neg fun h : PastT N P a => c2 h.zero]
  rw [show (((pst P a 0).length : Int) != (0 : Int)) = false by rw [c2]; rfl, cond_false]
  let Rw : Nat → Prop := fun i => (∀ t ∈ pst P a i, thingB t = true) ∧ (pst P a i).length ≤ 100
  refine (iter_up (st := zhT f) (enc := fun i (s : Unit) => ((i : Int), (a : Int), N, L, W, P)) (body := fun i k s => cond (dcd (Rw i)) (k s) (some ((false, ()), ()))) (fin := fun _ => some ((true, ()), ())) (List.getD P a []).length ?_ ?_ (List.getD P a []).length 0 () f (by omega) (by omega)).trans ?_
  · intro i s g hi
    show zcO f _ g _ = _
    unfold zcO
    simp only [zz_eq, hP, cst5 ha, lt_cast hi, le_cast, decide_true, cond_true, Int.toNat_natCast]
    have hr := s2 (pst P a i) (zF [] hi)
    refine (zaH (st := zkg f g) (enc := fun k (s : Unit) => ((k : Int), (a : Int), (i : Int), N, L, W, P)) (fun x k s => cond (dcd (thingB x = true)) (k s) (some ((false, ()), ()))) (fun s => cond (decide ((pst P a i).length ≤ 100)) (g (((i + 1 : Nat) : Int), (a : Int), N, L, W, P)) (some ((false, ()), ()))) (pst P a i) 0 ?_ ?_ f () (by omega)).trans ?_
    · intro k s g' hk
      show zcN f _ g' _ = _
      unfold zcN
      simp only [zz_eq, hP, cst5 ha, lt_cast hi, lt_cast hk, le_cast, decide_true, cond_true, Int.toNat_natCast, zcc, Option.bind_some, w64_up (show k < 4294967296 by omega)]
      cases h : thingB (List.getD (pst P a i) k 0) with
      | true => rw [dcd_pos rfl]; rfl
      | false => rw [dcd_neg (by simp)]; rfl
    · intro s g'
      show zcN f _ g' _ = _
      unfold zcN
      simp only [zz_eq, hP, cst5 ha, lt_cast hi, zh, le_cast, decide_true, decide_false, cond_true, cond_false, Int.toNat_natCast, w64_up (show i < 4294967296 by omega)]
      by_cases c : (pst P a i).length ≤ 100
      · have c' : (List.getD (List.getD P a []) i []).length ≤ 100 := c
        have e1 : ¬ (((List.getD (List.getD P a []) i []).length : Nat) : Int) > 100 := by omega
        simp only [e1, c', decide_false, decide_true, cond_false, cond_true]
      · have c' : ¬ (List.getD (List.getD P a []) i []).length ≤ 100 := c
        have e1 : (((List.getD (List.getD P a []) i []).length : Nat) : Int) > 100 := by omega
        simp only [e1, c', decide_false, decide_true, cond_false, cond_true]
    · rw [zrL]
      by_cases c : ∀ t ∈ pst P a i, thingB t = true
      · rw [dcd_pos c, cond_true]
        by_cases c' : (pst P a i).length ≤ 100
        · rw [decide_eq_true c', dcd_pos (show Rw i from ⟨c, c'⟩)]
        · rw [decide_eq_false c', dcd_neg fun h : Rw i => c' h.2]
      · rw [dcd_neg c, dcd_neg fun h : Rw i => c h.1]; rfl
  · intro s g
    show zcO f _ g _ = _
    unfold zcO
    simp only [zz_eq, hP, cst5 ha, zh, le_cast, decide_true, decide_false, cond_true, cond_false, Int.toNat_natCast]
  · rw [up_all]
    refine za3 (fun h => ?_) fun h => ?_
    · rw [dcd_pos (show PastT N P a from ⟨c1, c2, fun r hr => by
        obtain ⟨i, hi, rfl⟩ := List.getElem_of_mem hr
        have := h i (by omega) (by omega)
        have e : pst P a i = (List.getD P a [])[i] := by rw [pst, List.getD_eq_getElem?_getD (l := List.getD P a []), List.getElem?_eq_getElem hi]; rfl
        simp only [Rw, e] at this
        exact this⟩)]
    · rw [dcd_neg fun hp : PastT N P a => h fun j h1 h2 => hp.rows _ (zF [] (by omega))]
end
end Go.Proofs.Ytljojacnjjgceaa.Den
namespace Go.Proofs.Ytljojacnjjgceaa.Den
open Go Go.RowKit
section
variable {f : Nat} {N : List NY} {L : List Bool} {W : List WY} {P : List (List (List Int))}
structure AreaT (N : List NY) (L : List Bool) (P : List (List (List Int))) (a : Nat) : Prop where
  born : 1 ≤ (nd N a).1 ∧ (nd N a).1 ≤ 20
  past : PastT N P a
  link : LinkT L a
theorem zAN {a b : Bool} : (a == b) = dcd (a = b) := by
  cases a <;> cases b <;> first | (rw [dcd_pos rfl]; rfl) | (rw [dcd_neg (by simp)]; rfl)
theorem idx_lt {a b : Nat} (ha : a < 5) (hb : b < 5) : ((a * 5 + b : Nat) : Int) < ((25 : Nat) : Int) := by omega
theorem zl9 {n : Nat} (hn : n < 1000000000) (hnf : n < f) (hf : 1000 < f) (hs : SmallN n N L W P) : zc6 f ((N, L, W, P, ()), ()) = some ((dcd (NetT N L W P), ()), ()) := by
  show zia f (iter (zfR f) f) N L W P = _
  unfold zia
  simp only [zz_eq]
  by_cases c1 : N.length = 5
  rotate_left
  · rw [bneT (show ((N.length : Nat) : Int) ≠ 5 by omega), cond_true, dcd_neg fun h : NetT N L W P => c1 h.nodes]
  rw [bneF (show ((N.length : Nat) : Int) = 5 by omega), cond_false]
  by_cases c2 : P.length = 5
  rotate_left
  · rw [bneT (show ((P.length : Nat) : Int) ≠ 5 by omega), cond_true, dcd_neg fun h : NetT N L W P => c2 h.pasts]
  rw [bneF (show ((P.length : Nat) : Int) = 5 by omega), cond_false]
  by_cases c3 : L.length = 25
  rotate_left
  · rw [bneT (show ((L.length : Nat) : Int) ≠ 25 by omega), cond_true, dcd_neg fun h : NetT N L W P => c3 h.links]
  rw [bneF (show ((L.length : Nat) : Int) = 25 by omega), cond_false]
  by_cases c4 : W.length ≤ 24
  rotate_left
  · simp only [show ((W.length : Nat) : Int) > 24 by omega, decide_true, cond_true]
    rw [dcd_neg fun h : NetT N L W P => c4 h.words]
  simp only [show ¬ ((W.length : Nat) : Int) > 24 by omega, decide_false, cond_false]
  -- the first loop
  have l0 : iter (zfR f) f ((0 : Int), N, L, W, P) = cond (dcd (∀ a, 0 ≤ a → a < 0 + 5 → AreaT N L P a)) (iter (zfQ f) f ((0 : Int), N, L, W, P)) (some ((false, ()), ())) := by
    refine (iter_up (st := zfR f) (enc := fun i (s : Unit) => ((i : Int), N, L, W, P)) (body := fun i k s => cond (dcd (AreaT N L P i)) (k s) (some ((false, ()), ()))) (fin := fun _ => iter (zfQ f) f ((0 : Int), N, L, W, P)) 5 ?_ ?_ 5 0 () f (by omega) (by omega)).trans (up_all _ _ 5 0)
    · intro i s g hi
      show zc5 f _ _ g _ = _
      unfold zc5
      simp only [zz_eq, za4 hi, le_cast, c1, cst5 hi, decide_true, cond_true, Int.toNat_natCast, in_dcd, Option.bind_some]
      by_cases cb : 1 ≤ (nd N i).1 ∧ (nd N i).1 ≤ 20
      rotate_left
      · rw [dcd_neg cb, dcd_neg fun h : AreaT N L P i => cb h.born]; rfl
      rw [dcd_pos cb]
      simp only [Bool.not_true, cond_false]
      rw [past_eq hn hnf c1 c2 hi cb hs.past, Option.bind_some]
      by_cases cp : PastT N P i
      rotate_left
      · rw [dcd_neg cp, dcd_neg fun h : AreaT N L P i => cp h.past]; rfl
      rw [dcd_pos cp]
      simp only [Bool.not_true, cond_false]
      rw [link_eq f hi hi, Option.bind_some]
      simp only [c3, idx_lt hi hi, le_cast, decide_true, cond_true, Int.toNat_natCast]
      cases cs : List.getD L (i * 5 + i) false with
      | true =>
        rw [cond_true, dcd_neg fun h : AreaT N L P i => (by have := h.link.self; rw [cs] at this; cases this), cond_false]
      | false =>
        rw [cond_false]
        refine (iter_up (st := zkq f g) (enc := fun j (s : Unit) => ((j : Int), (i : Int), N, L, W, P)) (body := fun j k s => cond (dcd (List.getD L (i * 5 + j) false = List.getD L (j * 5 + i) false)) (k s) (some ((false, ()), ()))) (fin := fun _ => g (((i + 1 : Nat) : Int), N, L, W, P)) i ?_ ?_ i 0 () f (by omega) (by omega)).trans ?_
        · intro j s g' hj
          show zc3 f _ g' _ = _
          unfold zc3
          have hj5 : j < 5 := by omega
          simp only [lt_cast hj, decide_true, cond_true, link_eq f hi hj5, link_eq f hj5 hi, Option.bind_some, zz_eq, c3, idx_lt hi hj5, idx_lt hj5 hi, le_cast, Int.toNat_natCast, w64_up (show j < 4294967296 by omega), zAN]
          cases dcd (List.getD L (i * 5 + j) false = List.getD L (j * 5 + i) false) <;> rfl
        · intro s g'
          show zc3 f _ g' _ = _
          unfold zc3
          simp only [zh, decide_false, cond_false, w64_up (show i < 4294967296 by omega)]
        · rw [up_all]
          by_cases cl : ∀ j, 0 ≤ j → j < 0 + i → List.getD L (i * 5 + j) false = List.getD L (j * 5 + i) false
          · rw [dcd_pos cl, dcd_pos (show AreaT N L P i from ⟨cb, cp, cs, fun b hb => cl b (by omega) (by omega)⟩)]
          · rw [dcd_neg cl, dcd_neg fun h : AreaT N L P i => cl fun j _ hj => h.link.sym j (by omega)]
    · intro s g
      show zc5 f _ _ g _ = _
      unfold zc5
      have : ¬ (((5 : Nat) : Int) < 5) := by omega
      simp only [this, decide_false, cond_false]
  rw [l0]
  refine za3 (fun hA => ?_) fun hA => ?_
  rotate_left
  · rw [dcd_neg fun h : NetT N L W P => hA fun a _ ha => ⟨h.born a (by omega), h.past a (by omega), h.link a (by omega)⟩]
  have fr : Fr N P := ⟨c1, c2, fun a ha => (hA a (by omega) (by omega)).born, fun a ha => (hA a (by omega) (by omega)).past⟩
  have hnk : ∀ a, a < 5 → (nd N a).2.1.length < f ∧ (nd N a).2.1.length < 4294967296 := fun a ha => by
    have := (hs.known _ (zF N0d (show a < N.length by omega))).1
    exact ⟨Nat.lt_of_le_of_lt this hnf, Nat.lt_of_le_of_lt this (by omega)⟩
  -- words
  have l3 : iter (zfP f) f ((0 : Int), N, L, W, P) = cond (dcd (∀ w ∈ W, WordT N P w)) (some ((dcd (0 ≤ (nd N 0).2.2.1 ∧ (nd N 0).2.2.1 ≤ 1000), ()), ())) (some ((false, ()), ())) := by
    refine (zaH (st := zfP f) (enc := fun i (s : Unit) => ((i : Int), N, L, W, P)) (fun w k s => cond (dcd (WordT N P w)) (k s) (some ((false, ()), ()))) (fun _ => some ((dcd (0 ≤ (nd N 0).2.2.1 ∧ (nd N 0).2.2.1 ≤ 1000), ()), ())) W W0d ?_ ?_ f () (by omega)).trans (zrL _ _ W)
    · intro i s g hi
      show zfO f g _ = _
      unfold zfO
      have hw := (hs.said _ (zF W0d hi)).1
      simp only [zz_eq, lt_cast hi, le_cast, decide_true, cond_true, Int.toNat_natCast, w64_up (show i < 4294967296 by omega)]
      rw [word_eq hf fr (List.getD W i W0d) (by omega) (by omega), Option.bind_some]
      cases dcd (WordT N P (List.getD W i W0d)) <;> rfl
    · intro s g
      show zfO f g _ = _
      unfold zfO
      simp only [zz_eq, zh, decide_false, cond_false, c1, show (0 : Int) < ((5 : Nat) : Int) by omega, decide_true, cond_true, in_dcd, Option.bind_some, Int.toNat_zero]
  refine (iter_up (st := zfQ f) (enc := fun i (s : Unit) => ((i : Int), N, L, W, P)) (body := fun i k s => cond (dcd (NodeT N P i)) (k s) (some ((false, ()), ()))) (fin := fun _ => iter (zfP f) f ((0 : Int), N, L, W, P)) 5 ?_ ?_ 5 0 () f (by omega) (by omega)).trans ?_
  · intro i s g hi
    show zc4 f _ g _ = _
    unfold zc4
    simp only [za4 hi, decide_true, cond_true, node_eq hf fr hi (hnk i hi).1 (hnk i hi).2, Option.bind_some, w64_up (show i < 4294967296 by omega)]
    cases dcd (NodeT N P i) <;> rfl
  · intro s g
    show zc4 f _ g _ = _
    unfold zc4
    have : ¬ (((5 : Nat) : Int) < 5) := by omega
    simp only [this, decide_false, cond_false]
  · rw [up_all]
    refine za3 (fun hN => ?_) fun hN => ?_
    rotate_left
    · rw [dcd_neg fun h : NetT N L W P => hN fun a _ ha => h.node a (by omega)]
    rw [l3]
    refine za3 (fun hW => ?_) fun hW => ?_
    rotate_left
    · rw [dcd_neg fun h : NetT N L W P => hW h.word]
    refine congrArg (fun b => some ((b, ()), ())) (za2 ⟨fun h => ?_, fun h => ⟨((h.node 0 (by omega)).root rfl).beacon, h.beacon⟩⟩)
    exact {
      nodes := c1
      pasts := c2
      links := c3
      words := c4
      born := fun a ha => (hA a (by omega) (by omega)).born
      past := fun a ha => (hA a (by omega) (by omega)).past
      link := fun a ha => (hA a (by omega) (by omega)).link
      node := fun a ha => hN a (by omega) (by omega)
      word := hW
      beacon := h.2 }
end
end Go.Proofs.Ytljojacnjjgceaa.Den
namespace Go.Proofs.Ytljojacnjjgceaa.Den
open Go Go.RowKit
abbrev zab := Option (((List NY) × ((List Bool) × ((List WY) × ((List (List (List Int))) × Unit)))) × ((Bool × Unit) × Unit))
def zaP (fuel : Nat) : Tab := Tab.of [(14, (zbY fuel).te), (15, (zm fuel).te), (29, (zhP fuel).te)] []
def zoH : List Norm := [⟨[5, 0, 2, 4], [], [], []⟩, { live := [8, 4, 2], fix := [], tr := [(4, some 0, KN, 1), (4, some 3, Kd.list (Kd.list I6), 2)] }]
noncomputable def zaQ : C := irOf Try.prog Try.f23 [1000078, 2000072, 3000080] zoH []
def zbt : List (Nat × Option (Nat × Bool)) := [(2, some (4, true)), (3, none)]
abbrev zv5 : Sx := .grp (.dat (Kd.list I6) .nil) .nil
abbrev zv6 : Sx := .agg (.own 1 KN (.own 0 Kd.bool (.own 0 KW (.own 2 (Kd.list (Kd.list I6)) .nil)))) (.grp (.dat Kd.bool .nil) .nil)
abbrev zam : LF := .pure zv5 zv6 false
abbrev zc7 := (Int) × (List Int) × (List Bool)
abbrev zc8 := (Int) × (List NY) × (List Bool) × (List (List (List Int)))
def zc9 (v : zc7) : Env × Heap := ([(5, SV.int .i64 v.1), (0, SV.es I6 v.2.1), (2, SV.ptr 0 0), (4, SV.ptr 1 0)], [Blk.cells [SV.nils, SV.nils, SV.nils, SV.nils] 0 4, Blk.cells [SV.nils, SV.own 2, SV.nils, SV.nils] 0 4, Blk.arr Kd.bool v.2.2 0])
def zoI (v : zc8) : Env × Heap := ([(8, SV.int .i64 v.1), (4, SV.ptr 0 0), (2, SV.ptr 1 0)], [Blk.cells [SV.own 2, SV.own 3, SV.nils, SV.own 4] 0 4, Blk.cells [SV.nils, SV.nils, SV.nils, SV.nils] 0 4, Blk.tree 1 KN v.2.1 none, Blk.arr Kd.bool v.2.2.1 0, Blk.tree 2 (Kd.list (Kd.list I6)) v.2.2.2 none])
def zks (fuel : Nat) (g1 : zc8 → zab) (v : zc8) : zab :=
 cond (decide (v.1 < (5 : Int)))
 (Option.bind (zfv fuel ((v.1, ()), ((1 : Int), ()), ())) fun y_2 =>
 tst (decide (List.length v.2.1 + List.length [(y_2.1.1, y_2.1.2.1, y_2.1.2.2.1, y_2.1.2.2.2.1, y_2.1.2.2.2.2.1, ())] < LIM)) <|
 tst (decide (List.length v.2.2.2 + 1 < LIM)) <|
 g1 (w64 (v.1 + (1 : Int)), v.2.1 ++ [(y_2.1.1, y_2.1.2.1, y_2.1.2.2.1, y_2.1.2.2.2.1, y_2.1.2.2.2.2.1, ())], v.2.2.1, v.2.2.2 ++ [[[], []]]))
 (some (((v.2.1, v.2.2.1, [], v.2.2.2, ()), (true, ()), ())))
def zkt (fuel : Nat) (g1 : zc8 → zab) : zc8 → zab := zks fuel g1
theorem zv7 (fuel : Nat) (G) : zaQ.lp (zaP fuel) 0 fuel G (endX zbt zam) 1 zoI = iter (zkt fuel) fuel := C.lp_iter fun g v => by kernel_rfl
def zib (fuel : Nat) (X1 : zc8 → zab) (g0 : zc7 → zab) (v : zc7) : zab :=
 cond (decide (v.1 < (zz (List.length v.2.1))))
 (tst (decide (0 ≤ v.1)) <|
 tst (decide (v.1 < (zz (List.length v.2.1)))) <|
 tst (decide (0 ≤ w64 (v.1 + (1 : Int)))) <|
 tst (decide (w64 (v.1 + (1 : Int)) < (zz (List.length v.2.1)))) <|
 Option.bind (zc fuel ((List.getD v.2.1 (Int.toNat v.1) 0, ()), ((0 : Int), ()), ((4 : Int), ()), ())) fun y_2 =>
 cond (!y_2.1.1)
 (some ((([], [], [], [], ()), (false, ()), ())))
 (Option.bind (zc fuel ((List.getD v.2.1 (Int.toNat (w64 (v.1 + (1 : Int)))) 0, ()), ((0 : Int), ()), ((4 : Int), ()), ())) fun y_4 =>
 cond (!y_4.1.1)
 (some ((([], [], [], [], ()), (false, ()), ())))
 (cond (List.getD v.2.1 (Int.toNat v.1) 0 == List.getD v.2.1 (Int.toNat (w64 (v.1 + (1 : Int)))) 0)
 (some ((([], [], [], [], ()), (false, ()), ())))
 (Option.bind (zS fuel ((List.getD v.2.1 (Int.toNat v.1) 0, ()), (List.getD v.2.1 (Int.toNat (w64 (v.1 + (1 : Int)))) 0, ()), ())) fun y_7 =>
 tst (decide (0 ≤ y_7.1.1)) <|
 tst (decide (y_7.1.1 < (zz (List.length v.2.2)))) <|
 tst (decide (Int.toNat y_7.1.1 < List.length v.2.2)) <|
 Option.bind (zS fuel ((List.getD v.2.1 (Int.toNat (w64 (v.1 + (1 : Int)))) 0, ()), (List.getD v.2.1 (Int.toNat v.1) 0, ()), ())) fun y_8 =>
 tst (decide (0 ≤ y_8.1.1)) <|
 tst (decide (y_8.1.1 < (zz (List.length (List.set v.2.2 (Int.toNat y_7.1.1) true))))) <|
 tst (decide (Int.toNat y_8.1.1 < List.length (List.set v.2.2 (Int.toNat y_7.1.1) true))) <|
 g0 (w64 (v.1 + (2 : Int)), v.2.1, List.set (List.set v.2.2 (Int.toNat y_7.1.1) true) (Int.toNat y_8.1.1) true)))))
 (X1 ((0 : Int), [], v.2.2, []))
def zku (fuel : Nat) (g0 : zc7 → zab) : zc7 → zab := zib fuel (iter (zkt fuel) fuel) g0
theorem zv8 (fuel : Nat) (G) : zaQ.lp (zaP fuel) 0 fuel G (endX zbt zam) 0 zc9 = iter (zku fuel) fuel := C.lp_iter fun g v =>
  (show run (zaP fuel) 0 fuel (zaQ.bdAt 0) (zc9 v).1 (zc9 v).2 (loopK 0 (zaQ.nmAt 0) g (zaQ.contAt (zaP fuel) 0 fuel G 0 0 (endX zbt zam))) = zib fuel (zaQ.lp (zaP fuel) 0 fuel (fun m => bif Nat.beq m 0 then g else G m) (endX zbt zam) 1 zoI) (fun v => g (zc9 v).1 (zc9 v).2) v by kernel_rfl).trans (by rw [zv7]; rfl)
def zic (fuel : Nat) (X0 : zc7 → zab) (x0 : List Int) : zab :=
 cond (Int.tmod ((zz (List.length x0))) (2 : Int) != (0 : Int))
 (some ((([], [], [], [], ()), (false, ()), ())))
 (cond (decide ((zz (List.length x0)) > (40 : Int)))
 (some ((([], [], [], [], ()), (false, ()), ())))
 (X0 ((0 : Int), x0, List.replicate (Int.toNat (25 : Int)) false)))
def zid (fuel : Nat) (z : (((List Int) × Unit) × Unit)) : zab := zic fuel (iter (zku fuel) fuel) z.1.1
theorem zv9 (fuel : Nat) (xa : zam.rt.T) (xd : zam.D.T) : zam.go (zaP fuel) fuel zaQ zbt xa xd = zid fuel (zam.xb (xa, xd)) :=
  (show zam.go (zaP fuel) fuel zaQ zbt xa xd = zic fuel (zaQ.lp (zaP fuel) 0 fuel (fun _ _ _ => none) (endX zbt zam) 0 zc9) xd.1.1 by kernel_rfl).trans (by rw [zv8]; rfl)
abbrev zkv (fuel : Nat) : LE := ⟨zam, zid fuel⟩
theorem zwa (fuel : Nat) : EntryOK Try.prog 23 (zkv fuel).te := okF (T := zaP fuel) (fn := Try.f23) (le := zkv fuel) (frz := [1000078, 2000072, 3000080]) (ann := zoH) (cuts := []) (rv := zbt) (TabOK.of (entCons (zfB fuel) (entCons (zq fuel) (entCons (zof fuel) entNil))) (methNil)) mixed (by kernel_rfl) (by kernel_rfl) (by kernel_rfl) (fun _ => rfl) (fun _ => rfl) (fun xa xd y h => ⟨fuel, (zv9 fuel xa xd).trans h⟩)
abbrev zk := Option (((List NY) × ((List Bool) × ((List WY) × ((List (List (List Int))) × Unit)))) × Unit)
def zu (fuel : Nat) : Tab := Tab.of [(39, (zkc fuel).te)] []
def zoJ : List Norm := [{ live := [4, 1, 3, 2], fix := [], tr := [(3, some 0, KN, 3), (3, some 2, KW, 3), (3, some 3, Kd.list (Kd.list I6), 2)] }, { live := [6, 1, 3, 2], fix := [], tr := [(3, some 0, KN, 3), (3, some 2, KW, 3), (3, some 3, Kd.list (Kd.list I6), 2)] }, { live := [8, 1, 3, 2], fix := [], tr := [(3, some 0, KN, 3), (3, some 2, KW, 3), (3, some 3, Kd.list (Kd.list I6), 2)] }, { live := [10, 1, 8, 9, 3, 2], fix := [], tr := [(3, some 0, KN, 3), (3, some 2, KW, 3), (3, some 3, Kd.list (Kd.list I6), 2), (9, none, Kd.list I6, 1)] }]
noncomputable def zn : C := irOf Try.prog Try.f30 [2000091, 3000096, 4000037, 4000059] zoJ []
def zO : List (Nat × Option (Nat × Bool)) := [(2, some (4, true))]
abbrev zwb : Sx := .agg (.dat (Kd.list KN) (.dat (Kd.list Kd.bool) (.dat (Kd.list KW) (.dat (Kd.list (Kd.list (Kd.list I6))) .nil)))) .nil
abbrev zwc : Sx := .agg (.own 3 KN (.own 0 Kd.bool (.own 3 KW (.own 2 (Kd.list (Kd.list I6)) .nil)))) .nil
abbrev zB : LF := .pure zwb zwc true
abbrev zda := (Int) × (List NY) × (List Bool) × (List WY) × (List (List (List Int))) × (List NY) × (List Bool) × (List WY) × (List (List (List Int)))
abbrev zdb := (Int) × (List NY) × (List Bool) × (List WY) × (List (List (List Int))) × (List NY) × (List Bool) × (List WY) × (List (List (List Int)))
abbrev zbu := (Int) × (List NY) × (List Bool) × (List WY) × (List (List (List Int))) × (List NY) × (List Bool) × (List WY) × (List (List (List Int)))
abbrev zdc := (Int) × (Int) × (List NY) × (List Bool) × (List WY) × (List (List (List Int))) × (List (List Int)) × (List NY) × (List Bool) × (List WY) × (List (List (List Int)))
def zdd (v : zda) : Env × Heap := ([(4, SV.int .i64 v.1), (1, SV.ptr 0 0), (3, SV.ptr 1 0), (2, SV.ptr 2 0)], [Blk.cells [SV.es KN v.2.1, SV.es Kd.bool v.2.2.1, SV.es KW v.2.2.2.1, SV.es (Kd.list (Kd.list I6)) v.2.2.2.2.1] 0 4, Blk.cells [SV.own 3, SV.own 4, SV.own 5, SV.own 6] 0 4, Blk.cells [SV.nils, SV.nils, SV.nils, SV.nils] 0 4, Blk.tree 3 KN v.2.2.2.2.2.1 none, Blk.arr Kd.bool v.2.2.2.2.2.2.1 0, Blk.tree 3 KW v.2.2.2.2.2.2.2.1 none, Blk.tree 2 (Kd.list (Kd.list I6)) v.2.2.2.2.2.2.2.2 none])
def zde (v : zdb) : Env × Heap := ([(6, SV.int .i64 v.1), (1, SV.ptr 0 0), (3, SV.ptr 1 0), (2, SV.ptr 2 0)], [Blk.cells [SV.es KN v.2.1, SV.es Kd.bool v.2.2.1, SV.es KW v.2.2.2.1, SV.es (Kd.list (Kd.list I6)) v.2.2.2.2.1] 0 4, Blk.cells [SV.own 3, SV.own 4, SV.own 5, SV.own 6] 0 4, Blk.cells [SV.nils, SV.nils, SV.nils, SV.nils] 0 4, Blk.tree 3 KN v.2.2.2.2.2.1 none, Blk.arr Kd.bool v.2.2.2.2.2.2.1 0, Blk.tree 3 KW v.2.2.2.2.2.2.2.1 none, Blk.tree 2 (Kd.list (Kd.list I6)) v.2.2.2.2.2.2.2.2 none])
def zay (v : zbu) : Env × Heap := ([(8, SV.int .i64 v.1), (1, SV.ptr 0 0), (3, SV.ptr 1 0), (2, SV.ptr 2 0)], [Blk.cells [SV.es KN v.2.1, SV.es Kd.bool v.2.2.1, SV.es KW v.2.2.2.1, SV.es (Kd.list (Kd.list I6)) v.2.2.2.2.1] 0 4, Blk.cells [SV.own 3, SV.own 4, SV.own 5, SV.own 6] 0 4, Blk.cells [SV.nils, SV.nils, SV.nils, SV.nils] 0 4, Blk.tree 3 KN v.2.2.2.2.2.1 none, Blk.arr Kd.bool v.2.2.2.2.2.2.1 0, Blk.tree 3 KW v.2.2.2.2.2.2.2.1 none, Blk.tree 2 (Kd.list (Kd.list I6)) v.2.2.2.2.2.2.2.2 none])
def zdf (v : zdc) : Env × Heap := ([(10, SV.int .i64 v.1), (1, SV.ptr 0 0), (8, SV.int .i64 v.2.1), (9, SV.own 1), (3, SV.ptr 2 0), (2, SV.ptr 3 0)], [Blk.cells [SV.es KN v.2.2.1, SV.es Kd.bool v.2.2.2.1, SV.es KW v.2.2.2.2.1, SV.es (Kd.list (Kd.list I6)) v.2.2.2.2.2.1] 0 4, Blk.tree 1 (Kd.list I6) v.2.2.2.2.2.2.1 none, Blk.cells [SV.own 4, SV.own 5, SV.own 6, SV.own 7] 0 4, Blk.cells [SV.nils, SV.nils, SV.nils, SV.nils] 0 4, Blk.tree 3 KN v.2.2.2.2.2.2.2.1 none, Blk.arr Kd.bool v.2.2.2.2.2.2.2.2.1 0, Blk.tree 3 KW v.2.2.2.2.2.2.2.2.2.1 none, Blk.tree 2 (Kd.list (Kd.list I6)) v.2.2.2.2.2.2.2.2.2.2 none])
def zdg (fuel : Nat) (g2 : zbu → zk) (g3 : zdc → zk) (v : zdc) : zk :=
 tst (decide (0 ≤ v.2.1)) <|
 tst (decide (v.2.1 < (zz (List.length v.2.2.2.2.2.1)))) <|
 cond (decide (v.1 < (zz (List.length (List.getD v.2.2.2.2.2.1 (Int.toNat v.2.1) [])))))
 (tst (decide (0 ≤ v.2.1)) <|
 tst (decide (v.2.1 < (zz (List.length v.2.2.2.2.2.1)))) <|
 tst (decide (0 ≤ v.1)) <|
 tst (decide (v.1 < (zz (List.length (List.getD v.2.2.2.2.2.1 (Int.toNat v.2.1) []))))) <|
 tst (decide (0 + List.length (List.getD (List.getD v.2.2.2.2.2.1 (Int.toNat v.2.1) []) (Int.toNat v.1) []) < LIM)) <|
 tst (decide (List.length v.2.2.2.2.2.2.1 + List.length [[] ++ List.getD (List.getD v.2.2.2.2.2.1 (Int.toNat v.2.1) []) (Int.toNat v.1) []] < LIM)) <|
 g3 (w64 (v.1 + (1 : Int)), v.2.1, v.2.2.1, v.2.2.2.1, v.2.2.2.2.1, v.2.2.2.2.2.1, v.2.2.2.2.2.2.1 ++ [[] ++ List.getD (List.getD v.2.2.2.2.2.1 (Int.toNat v.2.1) []) (Int.toNat v.1) []], v.2.2.2.2.2.2.2.1, v.2.2.2.2.2.2.2.2.1, v.2.2.2.2.2.2.2.2.2.1, v.2.2.2.2.2.2.2.2.2.2))
 (tst (decide (List.length v.2.2.2.2.2.2.2.2.2.2 + List.length [v.2.2.2.2.2.2.1] < LIM)) <|
 g2 (w64 (v.2.1 + (1 : Int)), v.2.2.1, v.2.2.2.1, v.2.2.2.2.1, v.2.2.2.2.2.1, v.2.2.2.2.2.2.2.1, v.2.2.2.2.2.2.2.2.1, v.2.2.2.2.2.2.2.2.2.1, v.2.2.2.2.2.2.2.2.2.2 ++ [v.2.2.2.2.2.2.1]))
def zkw (fuel : Nat) (g2 : zbu → zk) (g3 : zdc → zk) : zdc → zk := zdg fuel g2 g3
theorem zwd (fuel : Nat) (G) : zn.lp (zu fuel) 0 fuel G (endX zO zB) 3 zdf = iter (zkw fuel (fun v => G 2 (zay v).1 (zay v).2)) fuel := C.lp_iter fun g v =>
  (show run (zu fuel) 0 fuel (zn.bdAt 3) (zdf v).1 (zdf v).2 (loopK 0 (zn.nmAt 3) g (zn.contAt (zu fuel) 0 fuel G 0 3 (endX zO zB))) = zdg fuel (fun v => G 2 (zay v).1 (zay v).2) (fun v => g (zdf v).1 (zdf v).2) v by kernel_rfl)
def zdh (fuel : Nat) (X3 : zdc → zk) (g2 : zbu → zk) (v : zbu) : zk :=
 cond (decide (v.1 < (zz (List.length v.2.2.2.2.1))))
 (X3 ((0 : Int), v.1, v.2.1, v.2.2.1, v.2.2.2.1, v.2.2.2.2.1, [], v.2.2.2.2.2.1, v.2.2.2.2.2.2.1, v.2.2.2.2.2.2.2.1, v.2.2.2.2.2.2.2.2))
 (some (((v.2.2.2.2.2.1, v.2.2.2.2.2.2.1, v.2.2.2.2.2.2.2.1, v.2.2.2.2.2.2.2.2, ()), ())))
def zie (fuel : Nat) (g2 : zbu → zk) : zbu → zk := zdh fuel (iter (zkw fuel g2) fuel) g2
theorem zwe (fuel : Nat) (G) : zn.lp (zu fuel) 0 fuel G (endX zO zB) 2 zay = iter (zie fuel) fuel := C.lp_iter fun g v =>
  (show run (zu fuel) 0 fuel (zn.bdAt 2) (zay v).1 (zay v).2 (loopK 0 (zn.nmAt 2) g (zn.contAt (zu fuel) 0 fuel G 0 2 (endX zO zB))) = zdh fuel (zn.lp (zu fuel) 0 fuel (fun m => bif Nat.beq m 2 then g else G m) (endX zO zB) 3 zdf) (fun v => g (zay v).1 (zay v).2) v by kernel_rfl).trans (by rw [zwd]; rfl)
def zdi (fuel : Nat) (X2 : zbu → zk) (g1 : zdb → zk) (v : zdb) : zk :=
 cond (decide (v.1 < (zz (List.length v.2.2.2.1))))
 (tst (decide (0 ≤ v.1)) <|
 tst (decide (v.1 < (zz (List.length v.2.2.2.1)))) <|
 Option.bind (zfm fuel (((List.getD v.2.2.2.1 (Int.toNat v.1) (0, (0, (0, (0, (0, ([], ()))))))).2.2.2.2.2.1, ()), ())) fun y_2 =>
 tst (decide (List.length v.2.2.2.2.2.2.2.1 + List.length [((List.getD v.2.2.2.1 (Int.toNat v.1) (0, (0, (0, (0, (0, ([], ()))))))).1, (List.getD v.2.2.2.1 (Int.toNat v.1) (0, (0, (0, (0, (0, ([], ()))))))).2.1, (List.getD v.2.2.2.1 (Int.toNat v.1) (0, (0, (0, (0, (0, ([], ()))))))).2.2.1, (List.getD v.2.2.2.1 (Int.toNat v.1) (0, (0, (0, (0, (0, ([], ()))))))).2.2.2.1, (List.getD v.2.2.2.1 (Int.toNat v.1) (0, (0, (0, (0, (0, ([], ()))))))).2.2.2.2.1, y_2.1.1, ())] < LIM)) <|
 g1 (w64 (v.1 + (1 : Int)), v.2.1, v.2.2.1, v.2.2.2.1, v.2.2.2.2.1, v.2.2.2.2.2.1, v.2.2.2.2.2.2.1, v.2.2.2.2.2.2.2.1 ++ [((List.getD v.2.2.2.1 (Int.toNat v.1) (0, (0, (0, (0, (0, ([], ()))))))).1, (List.getD v.2.2.2.1 (Int.toNat v.1) (0, (0, (0, (0, (0, ([], ()))))))).2.1, (List.getD v.2.2.2.1 (Int.toNat v.1) (0, (0, (0, (0, (0, ([], ()))))))).2.2.1, (List.getD v.2.2.2.1 (Int.toNat v.1) (0, (0, (0, (0, (0, ([], ()))))))).2.2.2.1, (List.getD v.2.2.2.1 (Int.toNat v.1) (0, (0, (0, (0, (0, ([], ()))))))).2.2.2.2.1, y_2.1.1, ())], v.2.2.2.2.2.2.2.2))
 (X2 ((0 : Int), v.2.1, v.2.2.1, v.2.2.2.1, v.2.2.2.2.1, v.2.2.2.2.2.1, v.2.2.2.2.2.2.1, v.2.2.2.2.2.2.2.1, v.2.2.2.2.2.2.2.2))
def zif (fuel : Nat) (g1 : zdb → zk) : zdb → zk := zdi fuel (iter (zie fuel) fuel) g1
theorem zwf (fuel : Nat) (G) : zn.lp (zu fuel) 0 fuel G (endX zO zB) 1 zde = iter (zif fuel) fuel := C.lp_iter fun g v =>
  (show run (zu fuel) 0 fuel (zn.bdAt 1) (zde v).1 (zde v).2 (loopK 0 (zn.nmAt 1) g (zn.contAt (zu fuel) 0 fuel G 0 1 (endX zO zB))) = zdi fuel (zn.lp (zu fuel) 0 fuel (fun m => bif Nat.beq m 1 then g else G m) (endX zO zB) 2 zay) (fun v => g (zde v).1 (zde v).2) v by kernel_rfl).trans (by rw [zwe]; rfl)
def zdj (fuel : Nat) (X1 : zdb → zk) (g0 : zda → zk) (v : zda) : zk :=
 cond (decide (v.1 < (zz (List.length v.2.1))))
 (tst (decide (0 ≤ v.1)) <|
 tst (decide (v.1 < (zz (List.length v.2.1)))) <|
 Option.bind (zfm fuel (((List.getD v.2.1 (Int.toNat v.1) (0, ([], (0, (0, (0, ())))))).2.1, ()), ())) fun y_2 =>
 tst (decide (List.length v.2.2.2.2.2.1 + List.length [((List.getD v.2.1 (Int.toNat v.1) (0, ([], (0, (0, (0, ())))))).1, y_2.1.1, (List.getD v.2.1 (Int.toNat v.1) (0, ([], (0, (0, (0, ())))))).2.2.1, (List.getD v.2.1 (Int.toNat v.1) (0, ([], (0, (0, (0, ())))))).2.2.2.1, (List.getD v.2.1 (Int.toNat v.1) (0, ([], (0, (0, (0, ())))))).2.2.2.2.1, ())] < LIM)) <|
 g0 (w64 (v.1 + (1 : Int)), v.2.1, v.2.2.1, v.2.2.2.1, v.2.2.2.2.1, v.2.2.2.2.2.1 ++ [((List.getD v.2.1 (Int.toNat v.1) (0, ([], (0, (0, (0, ())))))).1, y_2.1.1, (List.getD v.2.1 (Int.toNat v.1) (0, ([], (0, (0, (0, ())))))).2.2.1, (List.getD v.2.1 (Int.toNat v.1) (0, ([], (0, (0, (0, ())))))).2.2.2.1, (List.getD v.2.1 (Int.toNat v.1) (0, ([], (0, (0, (0, ())))))).2.2.2.2.1, ())], v.2.2.2.2.2.2.1, v.2.2.2.2.2.2.2.1, v.2.2.2.2.2.2.2.2))
 (X1 ((0 : Int), v.2.1, v.2.2.1, v.2.2.2.1, v.2.2.2.2.1, v.2.2.2.2.2.1, v.2.2.2.2.2.2.1, v.2.2.2.2.2.2.2.1, v.2.2.2.2.2.2.2.2))
def zig (fuel : Nat) (g0 : zda → zk) : zda → zk := zdj fuel (iter (zif fuel) fuel) g0
theorem zwg (fuel : Nat) (G) : zn.lp (zu fuel) 0 fuel G (endX zO zB) 0 zdd = iter (zig fuel) fuel := C.lp_iter fun g v =>
  (show run (zu fuel) 0 fuel (zn.bdAt 0) (zdd v).1 (zdd v).2 (loopK 0 (zn.nmAt 0) g (zn.contAt (zu fuel) 0 fuel G 0 0 (endX zO zB))) = zdj fuel (zn.lp (zu fuel) 0 fuel (fun m => bif Nat.beq m 0 then g else G m) (endX zO zB) 1 zde) (fun v => g (zdd v).1 (zdd v).2) v by kernel_rfl).trans (by rw [zwf]; rfl)
def zih (fuel : Nat) (X0 : zda → zk) (x0 : List NY) (x1 : List Bool) (x2 : List WY) (x3 : List (List (List Int))) : zk :=
 tst (decide (0 + List.length x1 < LIM)) <|
 X0 ((0 : Int), x0, x1, x2, x3, [], [] ++ x1, [], [])
def zdk (fuel : Nat) (z : (((List NY) × ((List Bool) × ((List WY) × ((List (List (List Int))) × Unit)))) × Unit)) : zk := zih fuel (iter (zig fuel) fuel) z.1.1 z.1.2.1 z.1.2.2.1 z.1.2.2.2.1
theorem zwh (fuel : Nat) (xa : zB.rt.T) (xd : zB.D.T) : zB.go (zu fuel) fuel zn zO xa xd = zdk fuel (zB.xb (xa, xd)) :=
  (show zB.go (zu fuel) fuel zn zO xa xd = zih fuel (zn.lp (zu fuel) 0 fuel (fun _ _ _ => none) (endX zO zB) 0 zdd) xd.1.1 xd.1.2.1 xd.1.2.2.1 xd.1.2.2.2.1 by kernel_rfl).trans (by rw [zwg]; rfl)
abbrev zii (fuel : Nat) : LE := ⟨zB, zdk fuel⟩
theorem zoK (fuel : Nat) : EntryOK Try.prog 30 (zii fuel).te := okF (T := zu fuel) (fn := Try.f30) (le := zii fuel) (frz := [2000091, 3000096, 4000037, 4000059]) (ann := zoJ) (cuts := []) (rv := zO) (TabOK.of (entCons (zuU fuel) entNil) (methNil)) mixed (by kernel_rfl) (by kernel_rfl) (by kernel_rfl) (fun _ => rfl) (fun _ => rfl) (fun xa xd y h => ⟨fuel, (zwh fuel xa xd).trans h⟩)
end Go.Proofs.Ytljojacnjjgceaa.Den
namespace Go.Proofs.Ytljojacnjjgceaa.Den
open Go Go.RowKit
section
variable {R V α : Type}
theorem zrN {st : (V → Option R) → V → Option R} {enc : Nat → List α → V} {fin : Option R} (l : List α) (d0 : α)
    (hs : ∀ i g, i < l.length → st g (enc i (l.take i)) = g (enc (i + 1) (l.take i ++ [List.getD l i d0]))) (he : ∀ g, st g (enc l.length l) = fin) :
    ∀ (d i fuel : Nat), i + d = l.length → d < fuel → iter st fuel (enc i (l.take i)) = fin
  | 0, i, fuel + 1, hi, hf => by
    obtain rfl : i = l.length := by omega
    rw [iter, List.take_length, he]
  | d + 1, i, fuel + 1, hi, hf => by
    rw [iter, hs i _ (by omega)]
    have e : l.take i ++ [List.getD l i d0] = l.take (i + 1) := by
      rw [List.take_succ_eq_append_getElem (show i < l.length by omega), List.getD_eq_getElem?_getD, List.getElem?_eq_getElem (show i < l.length by omega)]; rfl
    rw [e]
    exact zrN l d0 hs he d (i + 1) fuel (by omega) (by omega)
theorem zce {st : (V → Option R) → V → Option R} {enc : Nat → List α → V} {fin : Option R} (l : List α) (d0 : α) {fuel : Nat}
    (hs : ∀ i g, i < l.length → st g (enc i (l.take i)) = g (enc (i + 1) (l.take i ++ [List.getD l i d0]))) (he : ∀ g, st g (enc l.length l) = fin) (hf : l.length < fuel) : iter st fuel (enc 0 []) = fin :=
  zrN (enc := enc) l d0 hs he l.length 0 fuel (by omega) hf
end
theorem take_lt {α : Type} {l : List α} {i n : Nat} (hl : l.length < n) (hn : n < 4294967295) : (l.take i).length + 1 < LIM := by
  rw [List.length_take]; simp only [LIM]; omega
def Full (s : SumD) : Prop := s.1.length = 3 ∧ SmallS s 128
theorem full_of {l : List Int} (h : (sumOf l).2 = true) : Full (sumOf l).1 := by
  obtain ⟨a, b, c, h1, _⟩ := zjo (zAK h).form.rough
  exact ⟨by rw [h1]; rfl, zlT l⟩
section
variable {f : Nat}
theorem zma (f : Nat) {s : SumD} (hs : Full s) : zfb f (s, ()) = some (s, ()) := by
  obtain ⟨x0, x1, x2, x3, x4, x5, x6, ⟨⟩⟩ := s
  obtain ⟨h3, hs⟩ := hs
  obtain ⟨a, b, c, rfl⟩ := three (show x0.length = 3 from h3)
  have h2 := hs.row; have h3 := hs.marks; have h4 := hs.pairs; have h5 := hs.knots
  simp only at h2 h3 h4 h5
  have ha := h2 a (by simp); have hb := h2 b (by simp); have hc := h2 c (by simp)
  show zj8 f [a, b, c] x1 x2 x3 x4 x5 x6 = _
  unfold zj8
  have e : zcs f (([a, b, c], ()), ()) = some (([a, b, c], ()), ()) := by
    show zbL f a b c = _
    unfold zbL
    simp only [LIM, show 0 + a.length < 4294967296 by omega, show 0 + b.length < 4294967296 by omega, show 0 + c.length < 4294967296 by omega, decide_true, cond_true, List.nil_append]
  rw [e, Option.bind_some]
  simp only [LIM, show 0 + x1.length < 4294967296 by omega, show 0 + x2.length < 4294967296 by omega, show 0 + x5.length < 4294967296 by omega, decide_true, cond_true, List.nil_append]
  rfl
theorem zAO (f : Nat) {s : SumD} (hs : Full s) : zhA f (s, ()) = some (s, ()) := zma f hs
def FullE (l : List EY) : Prop := l.length ≤ 100 ∧ ∀ e ∈ l, Full (flat e.2.2.2.1)
theorem zAP (hf : 1000 < f) {l : List EY} (hl : FullE l) : zhD f ((l, ()), ()) = some ((l, ()), ()) := by
  show iter (zhC f) f ((0 : Int), l, []) = _
  refine zce (st := zhC f) (enc := fun i out => ((i : Int), l, out)) l E0d ?_ ?_ (by have := hl.1; omega)
  · intro i g hi
    show zff f g _ = _
    unfold zff
    have h100 := hl.1
    simp only [zz_eq, lt_cast hi, le_cast, decide_true, cond_true, Int.toNat_natCast, w64_up (show i < 4294967296 by omega), take_lt (i := i) (show l.length < 1000 by omega) (by omega)]
    have := zma f (hl.2 _ (zF E0d hi))
    refine (congrArg (fun o => Option.bind o _) this).trans ?_
    rfl
  · intro g
    show zff f g _ = _
    unfold zff
    simp only [zz_eq, zh, decide_false, cond_false]
theorem zAQ (hf : 1000 < f) {l : List EY} (hl : FullE l) : zhG f (l, (), ()) = some (l, (l, ()), ()) := by
  show iter (zhF f) f ((0 : Int), l, []) = _
  refine zce (st := zhF f) (enc := fun i out => ((i : Int), l, out)) l E0d ?_ ?_ (by have := hl.1; omega)
  · intro i g hi
    show zfi f g _ = _
    unfold zfi
    have h100 := hl.1
    simp only [zz_eq, lt_cast hi, hi, le_cast, decide_true, cond_true, Int.toNat_natCast, w64_up (show i < 4294967296 by omega), take_lt (i := i) (show l.length < 1000 by omega) (by omega)]
    have := zma f (hl.2 _ (zF E0d hi))
    refine (congrArg (fun o => Option.bind o _) this).trans ?_
    rfl
  · intro g
    show zfi f g _ = _
    unfold zfi
    simp only [zz_eq, zh, decide_false, cond_false]
theorem zrO (hf : 1000 < f) {l : List EY} (hl : FullE l) : zfm f ((l, ()), ()) = some ((l, ()), ()) := by
  show iter (zhI f) f ((0 : Int), l, []) = _
  refine zce (st := zhI f) (enc := fun i out => ((i : Int), l, out)) l E0d ?_ ?_ (by have := hl.1; omega)
  · intro i g hi
    show zfl f g _ = _
    unfold zfl
    have h100 := hl.1
    simp only [zz_eq, lt_cast hi, le_cast, decide_true, cond_true, Int.toNat_natCast, w64_up (show i < 4294967296 by omega), List.length_cons, List.length_nil, Nat.zero_add, take_lt (i := i) (show l.length < 1000 by omega) (by omega)]
    have := zAO f (hl.2 _ (zF E0d hi))
    refine (congrArg (fun o => Option.bind o _) this).trans ?_
    rfl
  · intro g
    show zfl f g _ = _
    unfold zfl
    simp only [zz_eq, zh, decide_false, cond_false]
structure FullN (N : List NY) (L : List Bool) (W : List WY) (P : List (List (List Int))) : Prop where
  nodes : N.length ≤ 100
  known : ∀ x ∈ N, FullE x.2.1
  links : L.length ≤ 100
  words : W.length ≤ 100
  said : ∀ w ∈ W, FullE w.2.2.2.2.2.1
  pasts : P.length ≤ 100
  past : ∀ p ∈ P, p.length ≤ 1000 ∧ ∀ r ∈ p, r.length ≤ 1000
theorem zmb {N : List NY} {L : List Bool} {W : List WY} {P : List (List (List Int))} (hf : 2000 < f) (hn : FullN N L W P) : zdk f ((N, L, W, P, ()), ()) = some ((N, L, W, P, ()), ()) := by
  show zih f (iter (zig f) f) N L W P = _
  unfold zih
  have a1 := hn.nodes; have a2 := hn.links; have a3 := hn.words; have a4 := hn.pasts
  simp only [LIM, show 0 + L.length < 4294967296 by omega, decide_true, cond_true, List.nil_append]
  -- pasts
  have l2 : iter (zie f) f ((0 : Int), N, L, W, P, N, L, W, []) = some ((N, L, W, P, ()), ()) := by
    refine zce (st := zie f) (enc := fun i out => ((i : Int), N, L, W, P, N, L, W, out)) P [] ?_ ?_ (by omega)
    · intro i g hi
      show zdh f _ g _ = _
      unfold zdh
      simp only [zz_eq, lt_cast hi, decide_true, cond_true]
      obtain ⟨h1, h2⟩ := hn.past _ (zF [] hi)
      refine zce (st := zkw f g) (enc := fun j out => ((j : Int), (i : Int), N, L, W, P, out, N, L, W, P.take i)) (List.getD P i []) [] ?_ ?_ (by omega)
      · intro j g' hj
        show zdg f g g' _ = _
        unfold zdg
        have h3 := h2 _ (zF [] hj)
        have h4 : 0 + (List.getD (List.getD P i []) j []).length < LIM := by simp only [LIM]; omega
        simp only [zz_eq, lt_cast hi, lt_cast hj, le_cast, decide_true, cond_true, Int.toNat_natCast, w64_up (show j < 4294967296 by omega), List.length_cons, List.length_nil, Nat.zero_add, take_lt (l := List.getD P i []) (i := j) (show _ < 2000 by omega) (by omega), List.nil_append, show (List.getD (List.getD P i []) j []).length < LIM by simp only [LIM]; omega]
      · intro g'
        show zdg f g g' _ = _
        unfold zdg
        simp only [zz_eq, lt_cast hi, zh, le_cast, decide_true, decide_false, cond_true, cond_false, Int.toNat_natCast, w64_up (show i < 4294967296 by omega), List.length_cons, List.length_nil, Nat.zero_add, take_lt (l := P) (i := i) (show _ < 2000 by omega) (by omega)]
    · intro g
      show zdh f _ g _ = _
      unfold zdh
      simp only [zz_eq, zh, decide_false, cond_false]
  have l1 : iter (zif f) f ((0 : Int), N, L, W, P, N, L, [], []) = some ((N, L, W, P, ()), ()) := by
    refine zce (st := zif f) (enc := fun i out => ((i : Int), N, L, W, P, N, L, out, [])) W W0d ?_ ?_ (by omega)
    · intro i g hi
      show zdi f _ g _ = _
      unfold zdi
      simp only [zz_eq, lt_cast hi, le_cast, decide_true, cond_true, Int.toNat_natCast, w64_up (show i < 4294967296 by omega), zrO (show 1000 < f by omega) (hn.said _ (zF W0d hi)), Option.bind_some, List.length_cons, List.length_nil, Nat.zero_add, take_lt (l := W) (i := i) (show _ < 2000 by omega) (by omega)]
    · intro g
      show zdi f _ g _ = _
      unfold zdi
      simp only [zz_eq, zh, decide_false, cond_false]
      exact l2
  refine zce (st := zig f) (enc := fun i out => ((i : Int), N, L, W, P, out, L, [], [])) N N0d ?_ ?_ (by omega)
  · intro i g hi
    show zdj f _ g _ = _
    unfold zdj
    simp only [zz_eq, lt_cast hi, le_cast, decide_true, cond_true, Int.toNat_natCast, w64_up (show i < 4294967296 by omega), zrO (show 1000 < f by omega) (hn.known _ (zF N0d hi)), Option.bind_some, List.length_cons, List.length_nil, Nat.zero_add, take_lt (l := N) (i := i) (show _ < 2000 by omega) (by omega)]
  · intro g
    show zdj f _ g _ = _
    unfold zdj
    simp only [zz_eq, zh, decide_false, cond_false]
    exact l1
end
section
variable {N : List NY} {L : List Bool} {W : List WY} {P : List (List (List Int))}
theorem EntT.full {e : EY} (h : EntT N P e) : Full (flat e.2.2.2.1) := by rw [← h.sum]; exact full_of h.fine
theorem asc_len : ∀ {l : List EY} {p : Int}, -1 ≤ p → ascP p l → (∀ e ∈ l, e.1 ≤ 4) → l.length ≤ (4 - p).toNat
  | [], _, _, _, _ => by simp
  | x :: l, p, hp, h, h4 => by
    have h1 := h4 x (List.mem_cons_self ..)
    have := asc_len (l := l) (p := x.1) (by have := h.1; omega) h.2 fun e he => h4 e (List.mem_cons_of_mem _ he)
    have := h.1
    rw [List.length_cons]; omega
theorem KnT.len {l : List EY} (h : KnT N P l) : l.length ≤ 5 := by
  have h' := KnT.iff.1 h
  exact asc_len (by omega) h'.2 fun e he => (h.1 e he).node.2
theorem KnT.full {l : List EY} (h : KnT N P l) : FullE l := ⟨by have := h.len; omega, fun e he => (h.1 e he).full⟩
theorem WordT.full {w : WY} (h : WordT N P w) : FullE w.2.2.2.2.2.1 := by
  rcases h.kind with h | h
  · rw [h.2.2.2]; exact ⟨by simp, fun e he => by cases he⟩
  · exact h.2.2.2.full
theorem mem_nd {x : NY} (hx : x ∈ N) : ∃ i, i < N.length ∧ nd N i = x := by
  obtain ⟨i, hi, rfl⟩ := List.getElem_of_mem hx
  exact ⟨i, hi, by rw [nd, List.getD_eq_getElem?_getD, List.getElem?_eq_getElem hi]; rfl⟩
theorem NetT.full (h : NetT N L W P) : FullN N L W P where
  nodes := by have := h.nodes; omega
  known x hx := by
    obtain ⟨i, hi, rfl⟩ := mem_nd hx
    exact (h.node i (by have := h.nodes; omega)).known.full
  links := by have := h.links; omega
  words := by have := h.words; omega
  said w hw := (h.word w hw).full
  pasts := by have := h.pasts; omega
  past p hp := by
    obtain ⟨i, hi, rfl⟩ := List.getElem_of_mem hp
    have h5 : i < 5 := by have := h.pasts; omega
    have h1 := h.past i h5
    have h2 := h.born i h5
    have e : List.getD P i [] = P[i] := by rw [List.getD_eq_getElem?_getD, List.getElem?_eq_getElem hi]; rfl
    have h3 := h1.len; have h4 := h1.rows
    rw [e] at h3 h4
    exact ⟨by omega, fun r hr => by have := (h4 r hr).2; omega⟩
theorem FullE.small {l : List EY} (h : FullE l) : SmallE 1000 l := ⟨by have := h.1; omega, fun e he => (h.2 e he).2.mono (by omega)⟩
theorem FullN.small (h : FullN N L W P) : SmallN 1000 N L W P where
  nodes := by have := h.nodes; omega
  known x hx := (h.known x hx).small
  links := by have := h.links; omega
  words := by have := h.words; omega
  said w hw := (h.said w hw).small
  pasts := by have := h.pasts; omega
  past := h.past
end
end Go.Proofs.Ytljojacnjjgceaa.Den
namespace Go.Proofs.Ytljojacnjjgceaa.Den
open Go Go.RowKit
def Newer (e x : EY) : Prop := e.2.1 > x.2.1 ∨ e.2.1 = x.2.1 ∧ e.2.2.1 > x.2.2.1
noncomputable def putGo (e : EY) : List EY → List EY
  | [] => [e]
  | x :: r => cond (decide (x.1 ≥ e.1)) (cond (x.1 == e.1) (cond (dcd (Newer e x)) (e :: r) (x :: r)) (e :: x :: r)) (x :: putGo e r)
theorem cond_if {α : Type} {b : Bool} {x y : α} {Q : α → Prop} (h1 : b = true → Q x) (h2 : b = false → Q y) : Q (cond b x y) := by
  cases b
  · exact h2 rfl
  · exact h1 rfl
theorem put_mem {e : EY} : ∀ {l : List EY} {x : EY}, x ∈ putGo e l → x = e ∨ x ∈ l
  | [], x, h => by simp [putGo] at h; exact .inl h
  | y :: l, x, h => by
    unfold putGo at h
    cases h1 : decide (y.1 ≥ e.1) <;> rw [h1] at h
    · simp only [cond_false] at h
      rcases List.mem_cons.1 h with rfl | h
      · exact .inr (List.mem_cons_self ..)
      · exact (put_mem h).imp id fun h => List.mem_cons_of_mem _ h
    · simp only [cond_true] at h
      cases h2 : y.1 == e.1 <;> rw [h2] at h
      · simp only [cond_false] at h
        rcases List.mem_cons.1 h with h | h
        · exact .inl h
        · exact .inr h
      · simp only [cond_true] at h
        cases h3 : dcd (Newer e y) <;> rw [h3] at h
        · exact .inr h
        · simp only [cond_true] at h
          rcases List.mem_cons.1 h with h | h
          · exact .inl h
          · exact .inr (List.mem_cons_of_mem _ h)
theorem put_asc {e : EY} : ∀ {l : List EY} {p : Int}, p < e.1 → ascP p l → ascP p (putGo e l)
  | [], p, h, _ => ⟨h, trivial⟩
  | y :: l, p, h, h2 => by
    unfold putGo
    refine cond_if (fun h3 => cond_if (fun h4 => cond_if (fun _ => ?_) fun _ => h2) fun h4 => ?_) fun h3 => ?_
    · have : y.1 = e.1 := by simpa using h4
      exact ⟨h, by rw [← this]; exact h2.2⟩
    · have h5 : y.1 ≠ e.1 := by simpa using h4
      have h6 : y.1 ≥ e.1 := by simpa using h3
      exact ⟨h, by omega, h2.2⟩
    · have h6 : ¬ y.1 ≥ e.1 := by simpa using h3
      exact ⟨h2.1, put_asc (by omega) h2.2⟩
theorem zL (x : EY) (l : List EY) (i : Int) : own (x :: l) i = cond (x.1 == i) (some x) (own l i) := by
  unfold own
  rw [List.find?_cons]
  cases x.1 == i <;> rfl
theorem zrP {e : EY} {i : Int} (hi : e.1 ≠ i) : ∀ (l : List EY), own (putGo e l) i = own l i
  | [] => by
    unfold putGo
    rw [zL, beqF hi]; rfl
  | y :: l => by
    unfold putGo
    rw [zL y]
    refine cond_if (Q := fun t => own t i = _) (fun h3 => cond_if (Q := fun t => own t i = _) (fun h4 => cond_if (Q := fun t => own t i = _) (fun _ => ?_) fun _ => zL ..) fun h4 => ?_) fun h3 => ?_
    · have : y.1 = e.1 := by simpa using h4
      rw [zL, beqF hi, beqF (show y.1 ≠ i by rw [this]; exact hi)]; rfl
    · rw [zL, beqF hi, cond_false, zL]
    · rw [zL, zrP hi l]
theorem own_no {i p : Int} : ∀ {l : List EY}, i ≤ p → ascP p l → own l i = none
  | [], _, _ => rfl
  | x :: l, h, h2 => by
    have h1 := h2.1
    rw [zL, beqF (show x.1 ≠ i by omega), cond_false]
    exact own_no (p := x.1) (by omega) h2.2
theorem zrQ {e : EY} : ∀ {l : List EY} {p : Int}, ascP p l → own (putGo e l) e.1 = some (match own l e.1 with | some x => cond (dcd (Newer e x)) e x | none => e)
  | [], p, _ => by
    unfold putGo
    rw [zL, beqT rfl]; rfl
  | y :: l, p, h => by
    unfold putGo
    by_cases h3 : y.1 ≥ e.1
    · rw [decide_eq_true h3, cond_true]
      by_cases h4 : y.1 = e.1
      · rw [beqT h4, cond_true, zL y, beqT h4, cond_true]
        by_cases h5 : Newer e y
        · show _ = some (cond (dcd (Newer e y)) e y)
          rw [dcd_pos h5, cond_true, zL, beqT rfl, cond_true]; rfl
        · show _ = some (cond (dcd (Newer e y)) e y)
          rw [dcd_neg h5, cond_false, zL, beqT h4, cond_true]; rfl
      · rw [beqF h4, cond_false, zL, beqT rfl, cond_true, own_no (l := y :: l) (p := e.1) (Int.le_refl _) ⟨by omega, h.2⟩]
    · rw [decide_eq_false h3, cond_false, zL, zL y, beqF (show y.1 ≠ e.1 by omega), cond_false, zrQ h.2]; rfl
theorem own_mem {l : List EY} {i : Int} {x : EY} (h : own l i = some x) : x ∈ l ∧ x.1 = i := by
  unfold own at h
  exact ⟨List.mem_of_find?_eq_some h, by simpa using List.find?_some h⟩
section
variable {N N' : List NY} {L : List Bool} {W : List WY} {P P' : List (List (List Int))}
theorem KnT.put {l : List EY} {e : EY} (h : KnT N P l) (he : EntT N P e) : KnT N P (putGo e l) := by
  have h' := KnT.iff.1 h
  exact KnT.iff.2 ⟨fun x hx => (put_mem hx).elim (fun e' => e' ▸ he) fun hx => h.1 x hx, put_asc (by have := he.node; omega) h'.2⟩
structure Ext (N N' : List NY) (P P' : List (List (List Int))) : Prop where
  born : ∀ a, a < 5 → (nd N a).1 ≤ (nd N' a).1
  past : ∀ a, a < 5 → ∀ b : Nat, 1 ≤ b → (b : Int) ≤ (nd N a).1 → ∃ t, pst P' a b = pst P a b ++ t
theorem EntT.ext (hx : Ext N N' P P') {e : EY} (h : EntT N P e) : EntT N' P' e := by
  have h1 := h.node; have h2 := h.born; have h3 := h.num
  obtain ⟨t, ht⟩ := hx.past e.1.toNat (by omega) e.2.1.toNat (by omega) (by omega)
  have hk : (pst P' e.1.toNat e.2.1.toNat).take e.2.2.1.toNat = (pst P e.1.toNat e.2.1.toNat).take e.2.2.1.toNat := by
    rw [ht, List.take_append_of_le_length (by omega)]
  exact ⟨h1, ⟨h2.1, Int.le_trans h2.2 (hx.born _ (by omega))⟩, ⟨h3.1, by rw [ht, List.length_append]; omega⟩, by rw [hk]; exact h.fine, by rw [hk]; exact h.sum⟩
theorem KnT.ext (hx : Ext N N' P P') {l : List EY} (h : KnT N P l) : KnT N' P' l := ⟨fun e he => (h.1 e he).ext hx, h.2⟩
theorem WordT.ext (hx : Ext N N' P P') (hb : (nd N 0).2.2.1 ≤ (nd N' 0).2.2.1) {w : WY} (h : WordT N P w) : WordT N' P' w :=
  ⟨h.from_, h.to_, h.ne, h.kind.imp (fun k => ⟨k.1, ⟨k.2.1.1, Int.le_trans k.2.1.2 hb⟩, k.2.2⟩) fun k => ⟨k.1, k.2.1, k.2.2.1, k.2.2.2.ext hx⟩⟩
theorem LeafT.mono {b0 b1 : Int} (h : b0 ≤ b1) {i : Nat} {x : NY} (hx : LeafT b0 i x) : LeafT b1 i x := ⟨⟨hx.beacon.1, Int.le_trans hx.beacon.2 h⟩, hx.level, hx.far, hx.up, hx.ne⟩
theorem zM {α : Type} {l : List α} {i : Nat} {x d : α} (h : i < l.length) : List.getD (l.set i x) i d = x := by
  rw [List.getD_eq_getElem?_getD, List.getElem?_set_self h]; rfl
theorem z3 {α : Type} {l : List α} {i j : Nat} {x d : α} (h : i ≠ j) : List.getD (l.set i x) j d = List.getD l j d := by
  rw [List.getD_eq_getElem?_getD, List.getD_eq_getElem?_getD, List.getElem?_set_ne h]
theorem zd7 {α : Type} {l : List α} {i : Nat} {d : α} (h : i < l.length) : l.set i (List.getD l i d) = l := by
  rw [List.getD_eq_getElem?_getD, List.getElem?_eq_getElem h]
  exact List.set_getElem_self h
theorem NetT.upd (h : NetT N L W P) {i : Nat} (hi : i < 5) {x : NY} {p : List (List Int)} (hb : (nd N i).1 ≤ x.1 ∧ x.1 ≤ 20) (hlen : (p.length : Int) = x.1 + 1) (hz : List.getD p 0 [] = [])
    (hr : ∀ r ∈ p, (∀ t ∈ r, thingB t = true) ∧ r.length ≤ 100) (hp : ∀ b : Nat, 1 ≤ b → (b : Int) ≤ (nd N i).1 → ∃ t, List.getD p b [] = pst P i b ++ t)
    (hown : ∃ e, own x.2.1 (i : Int) = some e ∧ e.2.1 = x.1 ∧ e.2.2.1 = ((List.getD p x.1.toNat []).length : Int))
    (hk : ∀ e ∈ x.2.1, EntT N P e ∨ EntT (N.set i x) (P.set i p) e) (hasc : ascP (-1) x.2.1) (h0 : i = 0 → RootT x ∧ (nd N 0).2.2.1 ≤ x.2.2.1 ∧ x.2.2.1 ≤ 1000) (h1 : i ≠ 0 → LeafT (nd N 0).2.2.1 i x) :
    NetT (N.set i x) L W (P.set i p) := by
  have hN : i < N.length := by rw [h.nodes]; exact hi
  have hP : i < P.length := by rw [h.pasts]; exact hi
  have n1 : nd (N.set i x) i = x := zM hN
  have n2 : ∀ a, a ≠ i → nd (N.set i x) a = nd N a := fun a ha => z3 (Ne.symm ha)
  have p1 : List.getD (P.set i p) i [] = p := zM hP
  have p2 : ∀ a, a ≠ i → List.getD (P.set i p) a [] = List.getD P a [] := fun a ha => z3 (Ne.symm ha)
  have hx : Ext N (N.set i x) P (P.set i p) := ⟨fun a ha => by
    by_cases e : a = i
    · subst e; rw [n1]; exact hb.1
    · rw [n2 a e]; omega, fun a ha b hb1 hb2 => by
    by_cases e : a = i
    · subst e
      simp only [pst, p1]
      exact hp b hb1 hb2
    · simp only [pst, p2 a e]; exact ⟨[], by simp⟩⟩
  have hbe : (nd N 0).2.2.1 ≤ (nd (N.set i x) 0).2.2.1 := by
    by_cases e : 0 = i
    · subst e; rw [n1]; exact (h0 rfl).2.1
    · rw [n2 0 e]; omega
  exact {
    nodes := by rw [List.length_set]; exact h.nodes
    pasts := by rw [List.length_set]; exact h.pasts
    links := h.links
    words := h.words
    born := fun a ha => by
      by_cases e : a = i
      · subst e; rw [n1]; exact ⟨Int.le_trans (h.born a ha).1 hb.1, hb.2⟩
      · rw [n2 a e]; exact h.born a ha
    past := fun a ha => by
      by_cases e : a = i
      · subst e
        exact ⟨by rw [p1, n1]; exact hlen, by simp only [pst, p1]; exact hz, by rw [p1]; exact hr⟩
      · have := h.past a ha
        exact ⟨by rw [p2 a e, n2 a e]; exact this.len, by simp only [pst, p2 a e]; exact this.zero, by rw [p2 a e]; exact this.rows⟩
    link := h.link
    node := fun a ha => by
      by_cases e : a = i
      · subst e
        refine ⟨?_, ?_, fun ha0 => ?_, fun ha0 => ?_⟩
        · rw [n1]; simp only [pst, p1]; exact hown
        · rw [n1]; exact KnT.iff.2 ⟨fun e' he' => (hk e' he').elim (fun h => h.ext hx) id, hasc⟩
        · rw [n1]; exact (h0 ha0).1
        · rw [n1]; exact (h1 ha0).mono hbe
      · have := h.node a ha
        refine ⟨?_, ?_, fun ha0 => ?_, fun ha0 => ?_⟩
        · rw [n2 a e]; simp only [pst, p2 a e]; exact this.own
        · rw [n2 a e]; exact this.known.ext hx
        · rw [n2 a e]; exact this.root ha0
        · rw [n2 a e]; exact (this.leaf ha0).mono hbe
    word := fun w hw => (h.word w hw).ext hx hbe
    beacon := by
      by_cases e : 0 = i
      · subst e; rw [n1]; exact (h0 rfl).2.2
      · rw [n2 0 e]; exact h.beacon }
theorem NetT.updN (h : NetT N L W P) {i : Nat} (hi : i < 5) {x : NY} (hb : x.1 = (nd N i).1) (hown : own x.2.1 (i : Int) = own (nd N i).2.1 (i : Int)) (hk : KnT N P x.2.1)
    (h0 : i = 0 → RootT x ∧ (nd N 0).2.2.1 ≤ x.2.2.1 ∧ x.2.2.1 ≤ 1000) (h1 : i ≠ 0 → LeafT (nd N 0).2.2.1 i x) : NetT (N.set i x) L W P := by
  have hP : i < P.length := by rw [h.pasts]; exact hi
  have hp := h.past i hi
  have := h.upd hi (x := x) (p := List.getD P i []) (by rw [hb]; exact ⟨Int.le_refl _, (h.born i hi).2⟩) (by rw [hb]; exact hp.len) hp.zero hp.rows (fun b _ _ => ⟨[], by simp⟩) (by rw [hown, hb]; exact (h.node i hi).own)
    (fun e he => .inl (hk.1 e he)) (KnT.iff.1 hk).2 h0 h1
  rwa [zd7 hP] at this
theorem NetT.wordsAll (h : NetT N L W P) {W' : List WY} (hl : W'.length ≤ 24) (hw : ∀ w ∈ W', WordT N P w) : NetT N L W' P :=
  ⟨h.nodes, h.pasts, h.links, hl, h.born, h.past, h.link, h.node, hw, h.beacon⟩
theorem NetT.wordsSub (h : NetT N L W P) {W' : List WY} (hs : ∀ w ∈ W', w ∈ W) (hl : W'.length ≤ 24) : NetT N L W' P := h.wordsAll hl fun w hw => h.word w (hs w hw)
theorem NetT.wordAdd (h : NetT N L W P) {w : WY} (hw : WordT N P w) (hl : W.length < 24) : NetT N L (W ++ [w]) P :=
  h.wordsAll (by rw [List.length_append, List.length_singleton]; omega) fun w' hw' => (List.mem_append.1 hw').elim (fun h' => h.word w' h') fun h' => by rw [List.mem_singleton.1 h']; exact hw
theorem NetT.linkSet (h : NetT N L W P) {a b : Nat} (ha : a < 5) (hb : b < 5) (hab : a ≠ b) (v : Bool) : NetT N ((L.set (a * 5 + b) v).set (b * 5 + a) v) W P := by
  have hl := h.links
  have get : ∀ k, k < 25 → List.getD ((L.set (a * 5 + b) v).set (b * 5 + a) v) k false = if k = a * 5 + b ∨ k = b * 5 + a then v else List.getD L k false := by
    intro k hk
    by_cases e1 : b * 5 + a = k
    · subst e1; rw [zM (by rw [List.length_set]; omega), if_pos (.inr rfl)]
    · rw [z3 e1]
      by_cases e2 : a * 5 + b = k
      · subst e2; rw [zM (by omega), if_pos (.inl rfl)]
      · rw [z3 e2, if_neg (by omega)]
  refine ⟨h.nodes, h.pasts, by rw [List.length_set, List.length_set]; exact hl, h.words, h.born, h.past, fun c hc => ⟨?_, fun d hd => ?_⟩, h.node, h.word, h.beacon⟩
  · rw [get _ (by omega), if_neg (by omega)]; exact (h.link c hc).self
  · rw [get _ (by omega), get _ (by omega)]
    by_cases e : c * 5 + d = a * 5 + b ∨ c * 5 + d = b * 5 + a
    · rw [if_pos e, if_pos (by omega)]
    · rw [if_neg e, if_neg (by omega)]; exact (h.link c hc).sym d hd
end
end Go.Proofs.Ytljojacnjjgceaa.Den
namespace Go.Proofs.Ytljojacnjjgceaa.Den
open Go Go.RowKit
def zoL (fuel : Nat) : Tab := Tab.of [(14, (zbY fuel).te)] []
def zoM : List Norm := []
noncomputable def zwi : C := irOf Try.prog Try.f42 [] zoM []
def zoN : List (Nat × Option (Nat × Bool)) := [(4, none)]
abbrev zwj : Sx := .agg (.dat I6 (.dat I6 (.dat I6 (.dat I6 (.dat I6 (.dat (Kd.list KE) .nil)))))) .nil
abbrev zwk : Sx := .grp (.dat Kd.bool .nil) .nil
abbrev zwl : Rt := .cells (.own 1 KN (.own 0 Kd.bool (.own 0 KW (.own 2 (Kd.list (Kd.list I6)) .nil))))
abbrev zfT : LF := .ref zwl zwj zwk false
def zkx (fuel : Nat) (d0 : List NY) (d1 : List Bool) (d2 : List WY) (d3 : List (List (List Int))) (x0 : Int) (x1 : Int) (x2 : Int) (x3 : Int) (x4 : Int) (x5 : List EY) : Option (((List NY) × ((List Bool) × ((List WY) × ((List (List (List Int))) × Unit)))) × ((Bool × Unit) × Unit)) :=
 Option.bind (zS fuel ((x1, ()), (x2, ()), ())) fun y_1 =>
 tst (decide (0 ≤ y_1.1.1)) <|
 tst (decide (y_1.1.1 < (zz (List.length d1)))) <|
 tst (decide (Int.toNat y_1.1.1 < List.length d1)) <|
 cond (!List.getD d1 (Int.toNat y_1.1.1) false)
 (some (((d0, d1, d2, d3, ()), (false, ()), ())))
 (cond (decide ((zz (List.length d2)) ≥ (24 : Int)))
 (some (((d0, d1, d2, d3, ()), (false, ()), ())))
 (tst (decide (List.length d2 + 1 < LIM)) <|
 some (((d0, d1, d2 ++ [(x0, x1, x2, x3, x4, x5, ())], d3, ()), (true, ()), ()))))
def zdl (fuel : Nat) (z : (((List NY) × ((List Bool) × ((List WY) × ((List (List (List Int))) × Unit)))) × (WY × Unit))) : Option (((List NY) × ((List Bool) × ((List WY) × ((List (List (List Int))) × Unit)))) × ((Bool × Unit) × Unit)) := zkx fuel z.1.1 z.1.2.1 z.1.2.2.1 z.1.2.2.2.1 z.2.1.1 z.2.1.2.1 z.2.1.2.2.1 z.2.1.2.2.2.1 z.2.1.2.2.2.2.1 z.2.1.2.2.2.2.2.1
theorem zwm (fuel : Nat) (xa : zfT.rt.T) (xd : zfT.D.T) : zfT.go (zoL fuel) fuel zwi zoN xa xd = zdl fuel (zfT.xb (xa, xd)) := by kernel_rfl
abbrev zij (fuel : Nat) : LE := ⟨zfT, zdl fuel⟩
theorem zoO (fuel : Nat) : EntryOK Try.prog 42 (zij fuel).te := okF (T := zoL fuel) (fn := Try.f42) (le := zij fuel) (frz := []) (ann := zoM) (cuts := []) (rv := zoN) (TabOK.of (entCons (zfB fuel) entNil) (methNil)) mixed (by kernel_rfl) (by kernel_rfl) (by kernel_rfl) (fun _ => rfl) (fun _ => rfl) (fun xa xd y h => ⟨fuel, (zwm fuel xa xd).trans h⟩)
abbrev zbZ := Option (((List NY) × ((List Bool) × ((List WY) × ((List (List (List Int))) × Unit)))) × ((Bool × Unit) × Unit))
def zfU (fuel : Nat) : Tab := Tab.of [(42, (zij fuel).te)] []
def zoP : List Norm := [{ live := [7, 5, 1, 0, 6], fix := [], tr := [(0, some 0, KN, 1)] }]
noncomputable def zik : C := irOf Try.prog Try.f34 [1000016] zoP []
def zfV : List (Nat × Option (Nat × Bool)) := [(4, none)]
abbrev zwn : Sx := .grp (.dat I6 .nil) .nil
abbrev zwo : Sx := .grp (.dat Kd.bool .nil) .nil
abbrev zwp : Rt := .cells (.own 1 KN (.own 0 Kd.bool (.own 0 KW (.own 2 (Kd.list (Kd.list I6)) .nil))))
abbrev zbv : LF := .ref zwp zwn zwo false
abbrev zdm := (Int) × (Int) × (Bool) × (Int) × (Int) × (Int) × (Int) × (List NY) × (List Bool) × (List WY) × (List (List (List Int)))
def zoQ (v : zdm) : Env × Heap := ([(7, SV.int .i64 v.1), (5, SV.ptr 1 0), (1, SV.int .i64 v.2.1), (0, SV.ptr 0 0), (6, SV.bool v.2.2.1)], [Blk.cells [SV.own 2, SV.own 3, SV.own 4, SV.own 5] 0 4, Blk.cells [SV.int .i64 v.2.2.2.1, SV.own 6, SV.int .i64 v.2.2.2.2.1, SV.int .i64 v.2.2.2.2.2.1, SV.int .i64 v.2.2.2.2.2.2.1] 0 5, Blk.tree 1 KN v.2.2.2.2.2.2.2.1 none, Blk.arr Kd.bool v.2.2.2.2.2.2.2.2.1 0, Blk.arr KW v.2.2.2.2.2.2.2.2.2.1 0, Blk.tree 2 (Kd.list (Kd.list I6)) v.2.2.2.2.2.2.2.2.2.2 none, Blk.dead])
def zky (fuel : Nat) (g0 : zdm → zbZ) (v : zdm) : zbZ :=
 cond (decide (v.1 < (5 : Int)))
 (cond (decide (v.2.2.2.2.2.1 < (5 : Int)))
 (cond (v.1 != v.2.1)
 (Option.bind (zdl fuel ((v.2.2.2.2.2.2.2.1, v.2.2.2.2.2.2.2.2.1, v.2.2.2.2.2.2.2.2.2.1, v.2.2.2.2.2.2.2.2.2.2, ()), ((1 : Int), v.2.1, v.1, v.2.2.2.2.1, v.2.2.2.2.2.1, [], ()), ())) fun y_4 =>
 cond (v.2.2.1)
 (g0 (w64 (v.1 + (1 : Int)), v.2.1, true, v.2.2.2.1, v.2.2.2.2.1, v.2.2.2.2.2.1, v.2.2.2.2.2.2.1, y_4.1.1, y_4.1.2.1, y_4.1.2.2.1, y_4.1.2.2.2.1))
 (g0 (w64 (v.1 + (1 : Int)), v.2.1, y_4.2.1.1, v.2.2.2.1, v.2.2.2.2.1, v.2.2.2.2.2.1, v.2.2.2.2.2.2.1, y_4.1.1, y_4.1.2.1, y_4.1.2.2.1, y_4.1.2.2.2.1)))
 (g0 (w64 (v.1 + (1 : Int)), v.2.1, v.2.2.1, v.2.2.2.1, v.2.2.2.2.1, v.2.2.2.2.2.1, v.2.2.2.2.2.2.1, v.2.2.2.2.2.2.2.1, v.2.2.2.2.2.2.2.2.1, v.2.2.2.2.2.2.2.2.2.1, v.2.2.2.2.2.2.2.2.2.2)))
 (some (((v.2.2.2.2.2.2.2.1, v.2.2.2.2.2.2.2.2.1, v.2.2.2.2.2.2.2.2.2.1, v.2.2.2.2.2.2.2.2.2.2, ()), (v.2.2.1, ()), ()))))
 (some (((v.2.2.2.2.2.2.2.1, v.2.2.2.2.2.2.2.2.1, v.2.2.2.2.2.2.2.2.2.1, v.2.2.2.2.2.2.2.2.2.2, ()), (v.2.2.1, ()), ())))
def zkz (fuel : Nat) (g0 : zdm → zbZ) : zdm → zbZ := zky fuel g0
theorem zwq (fuel : Nat) (G) : zik.lp (zfU fuel) 1 fuel G (endX zfV zbv) 0 zoQ = iter (zkz fuel) fuel := C.lp_iter fun g v => by kernel_rfl
def zil (fuel : Nat) (X0 : zdm → zbZ) (d0 : List NY) (d1 : List Bool) (d2 : List WY) (d3 : List (List (List Int))) (x0 : Int) : zbZ :=
 tst (decide (0 ≤ x0)) <|
 tst (decide (x0 < (zz (List.length d0)))) <|
 tst (decide (Int.toNat x0 < List.length d0)) <|
 X0 ((0 : Int), x0, false, (List.getD d0 (Int.toNat x0) (0, ([], (0, (0, (0, ())))))).1, (List.getD d0 (Int.toNat x0) (0, ([], (0, (0, (0, ())))))).2.2.1, (List.getD d0 (Int.toNat x0) (0, ([], (0, (0, (0, ())))))).2.2.2.1, (List.getD d0 (Int.toNat x0) (0, ([], (0, (0, (0, ())))))).2.2.2.2.1, List.set d0 (Int.toNat x0) ((List.getD d0 (Int.toNat x0) (0, ([], (0, (0, (0, ())))))).1, (List.getD d0 (Int.toNat x0) (0, ([], (0, (0, (0, ())))))).2.1, (List.getD d0 (Int.toNat x0) (0, ([], (0, (0, (0, ())))))).2.2.1, (List.getD d0 (Int.toNat x0) (0, ([], (0, (0, (0, ())))))).2.2.2.1, (List.getD d0 (Int.toNat x0) (0, ([], (0, (0, (0, ())))))).2.2.2.2.1, ()), d1, d2, d3)
def zdn (fuel : Nat) (z : (((List NY) × ((List Bool) × ((List WY) × ((List (List (List Int))) × Unit)))) × ((Int × Unit) × Unit))) : zbZ := zil fuel (iter (zkz fuel) fuel) z.1.1 z.1.2.1 z.1.2.2.1 z.1.2.2.2.1 z.2.1.1
theorem zwr (fuel : Nat) (xa : zbv.rt.T) (xd : zbv.D.T) : zbv.go (zfU fuel) fuel zik zfV xa xd = zdn fuel (zbv.xb (xa, xd)) :=
  (show zbv.go (zfU fuel) fuel zik zfV xa xd = zil fuel (zik.lp (zfU fuel) 1 fuel (fun _ _ _ => none) (endX zfV zbv) 0 zoQ) xa.1 xa.2.1 xa.2.2.1 xa.2.2.2.1 xd.1.1 by kernel_rfl).trans (by rw [zwq]; rfl)
abbrev zim (fuel : Nat) : LE := ⟨zbv, zdn fuel⟩
theorem zoR (fuel : Nat) : EntryOK Try.prog 34 (zim fuel).te := okF (T := zfU fuel) (fn := Try.f34) (le := zim fuel) (frz := [1000016]) (ann := zoP) (cuts := []) (rv := zfV) (TabOK.of (entCons (zoO fuel) entNil) (methNil)) mixed (by kernel_rfl) (by kernel_rfl) (by kernel_rfl) (fun _ => rfl) (fun _ => rfl) (fun xa xd y h => ⟨fuel, (zwr fuel xa xd).trans h⟩)
def zoS (fuel : Nat) : Tab := Tab.of [(39, (zkb fuel).te), (42, (zij fuel).te)] []
def zoT : List Norm := []
noncomputable def zws : C := irOf Try.prog Try.f35 [20, 25, 1000013] zoT []
def zoU : List (Nat × Option (Nat × Bool)) := [(4, none)]
abbrev zwt : Sx := .grp (.dat I6 .nil) .nil
abbrev zwu : Sx := .grp (.dat Kd.bool .nil) .nil
abbrev zwv : Rt := .cells (.own 1 KN (.own 0 Kd.bool (.own 0 KW (.own 2 (Kd.list (Kd.list I6)) .nil))))
abbrev zfW : LF := .ref zwv zwt zwu false
def zkA (fuel : Nat) (d0 : List NY) (d1 : List Bool) (d2 : List WY) (d3 : List (List (List Int))) (x0 : Int) : Option (((List NY) × ((List Bool) × ((List WY) × ((List (List (List Int))) × Unit)))) × ((Bool × Unit) × Unit)) :=
 tst (decide (0 ≤ x0)) <|
 tst (decide (x0 < (zz (List.length d0)))) <|
 tst (decide (Int.toNat x0 < List.length d0)) <|
 cond (decide ((List.getD d0 (Int.toNat x0) (0, ([], (0, (0, (0, ())))))).2.2.2.2.1 < (0 : Int)))
 (some (((List.set d0 (Int.toNat x0) ((List.getD d0 (Int.toNat x0) (0, ([], (0, (0, (0, ())))))).1, (List.getD d0 (Int.toNat x0) (0, ([], (0, (0, (0, ())))))).2.1, (List.getD d0 (Int.toNat x0) (0, ([], (0, (0, (0, ())))))).2.2.1, (List.getD d0 (Int.toNat x0) (0, ([], (0, (0, (0, ())))))).2.2.2.1, (List.getD d0 (Int.toNat x0) (0, ([], (0, (0, (0, ())))))).2.2.2.2.1, ()), d1, d2, d3, ()), (false, ()), ())))
 (Option.bind (zhG fuel ((List.getD d0 (Int.toNat x0) (0, ([], (0, (0, (0, ())))))).2.1, (), ())) fun y_2 =>
 Option.bind (zdl fuel ((List.set d0 (Int.toNat x0) ((List.getD d0 (Int.toNat x0) (0, ([], (0, (0, (0, ())))))).1, y_2.1, (List.getD d0 (Int.toNat x0) (0, ([], (0, (0, (0, ())))))).2.2.1, (List.getD d0 (Int.toNat x0) (0, ([], (0, (0, (0, ())))))).2.2.2.1, (List.getD d0 (Int.toNat x0) (0, ([], (0, (0, (0, ())))))).2.2.2.2.1, ()), d1, d2, d3, ()), ((2 : Int), x0, (List.getD d0 (Int.toNat x0) (0, ([], (0, (0, (0, ())))))).2.2.2.2.1, (0 : Int), (0 : Int), y_2.2.1.1, ()), ())) fun y_3 =>
 some (((y_3.1.1, y_3.1.2.1, y_3.1.2.2.1, y_3.1.2.2.2.1, ()), (y_3.2.1.1, ()), ())))
def zdo (fuel : Nat) (z : (((List NY) × ((List Bool) × ((List WY) × ((List (List (List Int))) × Unit)))) × ((Int × Unit) × Unit))) : Option (((List NY) × ((List Bool) × ((List WY) × ((List (List (List Int))) × Unit)))) × ((Bool × Unit) × Unit)) := zkA fuel z.1.1 z.1.2.1 z.1.2.2.1 z.1.2.2.2.1 z.2.1.1
theorem zww (fuel : Nat) (xa : zfW.rt.T) (xd : zfW.D.T) : zfW.go (zoS fuel) fuel zws zoU xa xd = zdo fuel (zfW.xb (xa, xd)) := by kernel_rfl
abbrev zin (fuel : Nat) : LE := ⟨zfW, zdo fuel⟩
theorem zoV (fuel : Nat) : EntryOK Try.prog 35 (zin fuel).te := okF (T := zoS fuel) (fn := Try.f35) (le := zin fuel) (frz := [20, 25, 1000013]) (ann := zoT) (cuts := []) (rv := zoU) (TabOK.of (entCons (zuP fuel) (entCons (zoO fuel) entNil)) (methNil)) mixed (by kernel_rfl) (by kernel_rfl) (by kernel_rfl) (fun _ => rfl) (fun _ => rfl) (fun xa xd y h => ⟨fuel, (zww fuel xa xd).trans h⟩)
abbrev zb0 := Option (((List NY) × ((List Bool) × ((List WY) × ((List (List (List Int))) × Unit)))) × Unit)
def zfX (fuel : Nat) : Tab := Tab.of [(57, (zke fuel).te)] []
def zoW : List Norm := [{ live := [4, 3, 0], fix := [], tr := [(0, some 0, KN, 1)] }]
def zoX : List (Nat × Norm) := [(1000006, { live := [0, 3, 4], fix := [], op := [(0, 0, 3, some 2)] }), (1000007, { live := [0, 3], fix := [], op := [(0, 0, 3, some 2)] })]
noncomputable def zio : C := irOf Try.prog Try.f47 [29, 31] zoW zoX
def zfY : List (Nat × Option (Nat × Bool)) := []
abbrev zwx : Sx := .agg (.dat I6 (.dat I6 (.dat I6 (.dat I6 (.dat I6 (.dat (Kd.list KE) .nil)))))) .nil
abbrev zwy : Sx := .nil
abbrev zwz : Rt := .cells (.own 1 KN (.own 0 Kd.bool (.own 0 KW (.own 2 (Kd.list (Kd.list I6)) .nil))))
abbrev zbw : LF := .ref zwz zwx zwy false
abbrev zdp := (Int) × (Int) × (Int) × (Int) × (Int) × (Int) × (List EY) × (List NY) × (List Bool) × (List WY) × (List (List (List Int)))
def zoY (v : zdp) : Env × Heap := ([(4, SV.int .i64 v.1), (3, SV.ptr 1 0), (0, SV.ptr 0 0)], [Blk.cells [SV.own 2, SV.own 3, SV.own 4, SV.own 5] 0 4, Blk.cells [SV.int .i64 v.2.1, SV.int .i64 v.2.2.1, SV.int .i64 v.2.2.2.1, SV.int .i64 v.2.2.2.2.1, SV.int .i64 v.2.2.2.2.2.1, SV.es KE v.2.2.2.2.2.2.1] 0 6, Blk.tree 1 KN v.2.2.2.2.2.2.2.1 none, Blk.arr Kd.bool v.2.2.2.2.2.2.2.2.1 0, Blk.arr KW v.2.2.2.2.2.2.2.2.2.1 0, Blk.tree 2 (Kd.list (Kd.list I6)) v.2.2.2.2.2.2.2.2.2.2 none])
def zkB (fuel : Nat) (g0 : zdp → zb0) (v : zdp) : zb0 :=
 cond (decide (v.1 < (zz (List.length v.2.2.2.2.2.2.1))))
 (tst (decide (0 ≤ v.1)) <|
 tst (decide (v.1 < (zz (List.length v.2.2.2.2.2.2.1)))) <|
 cond ((List.getD v.2.2.2.2.2.2.1 (Int.toNat v.1) (0, (0, (0, ((([], ()), (([], ()), (([], (0, (0, ()))), (([], (0, ())), ())))), ()))))).1 != v.2.2.2.1)
 (tst (decide (0 ≤ v.2.2.2.1)) <|
 tst (decide (Int.toNat v.2.2.2.1 < List.length v.2.2.2.2.2.2.2.1)) <|
 tst (decide (0 ≤ v.2.2.2.1)) <|
 tst (decide (v.2.2.2.1 < (zz (List.length v.2.2.2.2.2.2.2.1)))) <|
 tst (decide (Int.toNat v.2.2.2.1 = Int.toNat v.2.2.2.1)) <|
 tst (decide (0 ≤ v.1)) <|
 tst (decide (v.1 < (zz (List.length v.2.2.2.2.2.2.1)))) <|
 Option.bind (zhO fuel ((List.getD v.2.2.2.2.2.2.2.1 (Int.toNat v.2.2.2.1) (0, ([], (0, (0, (0, ())))))).2.1, (), ((List.getD v.2.2.2.2.2.2.1 (Int.toNat v.1) (0, (0, (0, ((([], ()), (([], ()), (([], (0, (0, ()))), (([], (0, ())), ())))), ()))))).1, (List.getD v.2.2.2.2.2.2.1 (Int.toNat v.1) (0, (0, (0, ((([], ()), (([], ()), (([], (0, (0, ()))), (([], (0, ())), ())))), ()))))).2.1, (List.getD v.2.2.2.2.2.2.1 (Int.toNat v.1) (0, (0, (0, ((([], ()), (([], ()), (([], (0, (0, ()))), (([], (0, ())), ())))), ()))))).2.2.1, (List.getD v.2.2.2.2.2.2.1 (Int.toNat v.1) (0, (0, (0, ((([], ()), (([], ()), (([], (0, (0, ()))), (([], (0, ())), ())))), ()))))).2.2.2.1.1.1, (List.getD v.2.2.2.2.2.2.1 (Int.toNat v.1) (0, (0, (0, ((([], ()), (([], ()), (([], (0, (0, ()))), (([], (0, ())), ())))), ()))))).2.2.2.1.2.1.1, (List.getD v.2.2.2.2.2.2.1 (Int.toNat v.1) (0, (0, (0, ((([], ()), (([], ()), (([], (0, (0, ()))), (([], (0, ())), ())))), ()))))).2.2.2.1.2.2.1.1, (List.getD v.2.2.2.2.2.2.1 (Int.toNat v.1) (0, (0, (0, ((([], ()), (([], ()), (([], (0, (0, ()))), (([], (0, ())), ())))), ()))))).2.2.2.1.2.2.1.2.1, (List.getD v.2.2.2.2.2.2.1 (Int.toNat v.1) (0, (0, (0, ((([], ()), (([], ()), (([], (0, (0, ()))), (([], (0, ())), ())))), ()))))).2.2.2.1.2.2.1.2.2.1, (List.getD v.2.2.2.2.2.2.1 (Int.toNat v.1) (0, (0, (0, ((([], ()), (([], ()), (([], (0, (0, ()))), (([], (0, ())), ())))), ()))))).2.2.2.1.2.2.2.1.1, (List.getD v.2.2.2.2.2.2.1 (Int.toNat v.1) (0, (0, (0, ((([], ()), (([], ()), (([], (0, (0, ()))), (([], (0, ())), ())))), ()))))).2.2.2.1.2.2.2.1.2.1, ()), ())) fun y_3 =>
 tst (decide (0 ≤ v.2.2.2.1)) <|
 tst (decide (v.2.2.2.1 < (zz (List.length v.2.2.2.2.2.2.2.1)))) <|
 tst (decide (Int.toNat v.2.2.2.1 = Int.toNat v.2.2.2.1)) <|
 g0 (w64 (v.1 + (1 : Int)), v.2.1, v.2.2.1, v.2.2.2.1, v.2.2.2.2.1, v.2.2.2.2.2.1, v.2.2.2.2.2.2.1, List.set v.2.2.2.2.2.2.2.1 (Int.toNat v.2.2.2.1) ((List.getD v.2.2.2.2.2.2.2.1 (Int.toNat v.2.2.2.1) (0, ([], (0, (0, (0, ())))))).1, y_3.2.1.1, (List.getD v.2.2.2.2.2.2.2.1 (Int.toNat v.2.2.2.1) (0, ([], (0, (0, (0, ())))))).2.2.1, (List.getD v.2.2.2.2.2.2.2.1 (Int.toNat v.2.2.2.1) (0, ([], (0, (0, (0, ())))))).2.2.2.1, (List.getD v.2.2.2.2.2.2.2.1 (Int.toNat v.2.2.2.1) (0, ([], (0, (0, (0, ())))))).2.2.2.2.1, ()), v.2.2.2.2.2.2.2.2.1, v.2.2.2.2.2.2.2.2.2.1, v.2.2.2.2.2.2.2.2.2.2))
 (g0 (w64 (v.1 + (1 : Int)), v.2.1, v.2.2.1, v.2.2.2.1, v.2.2.2.2.1, v.2.2.2.2.2.1, v.2.2.2.2.2.2.1, v.2.2.2.2.2.2.2.1, v.2.2.2.2.2.2.2.2.1, v.2.2.2.2.2.2.2.2.2.1, v.2.2.2.2.2.2.2.2.2.2)))
 (some (((v.2.2.2.2.2.2.2.1, v.2.2.2.2.2.2.2.2.1, v.2.2.2.2.2.2.2.2.2.1, v.2.2.2.2.2.2.2.2.2.2, ()), ())))
def ziq (fuel : Nat) (g0 : zdp → zb0) : zdp → zb0 := zkB fuel g0
theorem zwA (fuel : Nat) (G) : zio.lp (zfX fuel) 1 fuel G (endX zfY zbw) 0 zoY = iter (ziq fuel) fuel := C.lp_iter fun g v => by kernel_rfl
def zdq (fuel : Nat) (X0 : zdp → zb0) (d0 : List NY) (d1 : List Bool) (d2 : List WY) (d3 : List (List (List Int))) (x0 : Int) (x1 : Int) (x2 : Int) (x3 : Int) (x4 : Int) (x5 : List EY) : zb0 :=
 cond (x0 == (2 : Int))
 (X0 ((0 : Int), x0, x1, x2, x3, x4, x5, d0, d1, d2, d3))
 (tst (decide (0 ≤ x2)) <|
 tst (decide (Int.toNat x2 < List.length d0)) <|
 tst (decide (0 ≤ x2)) <|
 tst (decide (x2 < (zz (List.length d0)))) <|
 tst (decide (Int.toNat x2 = Int.toNat x2)) <|
 cond (x2 == (0 : Int))
 (some (((List.set d0 (Int.toNat x2) ((List.getD d0 (Int.toNat x2) (0, ([], (0, (0, (0, ())))))).1, (List.getD d0 (Int.toNat x2) (0, ([], (0, (0, (0, ())))))).2.1, (List.getD d0 (Int.toNat x2) (0, ([], (0, (0, (0, ())))))).2.2.1, (List.getD d0 (Int.toNat x2) (0, ([], (0, (0, (0, ())))))).2.2.2.1, (List.getD d0 (Int.toNat x2) (0, ([], (0, (0, (0, ())))))).2.2.2.2.1, ()), d1, d2, d3, ()), ())))
 (cond (decide (w64 (x4 + (1 : Int)) ≥ (5 : Int)))
 (cond (decide (x3 ≤ (List.getD d0 (Int.toNat x2) (0, ([], (0, (0, (0, ())))))).2.2.1))
 (some (((List.set d0 (Int.toNat x2) ((List.getD d0 (Int.toNat x2) (0, ([], (0, (0, (0, ())))))).1, (List.getD d0 (Int.toNat x2) (0, ([], (0, (0, (0, ())))))).2.1, (List.getD d0 (Int.toNat x2) (0, ([], (0, (0, (0, ())))))).2.2.1, (List.getD d0 (Int.toNat x2) (0, ([], (0, (0, (0, ())))))).2.2.2.1, (List.getD d0 (Int.toNat x2) (0, ([], (0, (0, (0, ())))))).2.2.2.2.1, ()), d1, d2, d3, ()), ())))
 (cond (decide (x3 > (List.getD d0 (Int.toNat x2) (0, ([], (0, (0, (0, ())))))).2.2.1))
 (tst (decide (0 ≤ x2)) <|
 tst (decide (x2 < (zz (List.length d0)))) <|
 tst (decide (Int.toNat x2 = Int.toNat x2)) <|
 tst (decide (0 ≤ x2)) <|
 tst (decide (x2 < (zz (List.length d0)))) <|
 tst (decide (Int.toNat x2 = Int.toNat x2)) <|
 tst (decide (0 ≤ x2)) <|
 tst (decide (x2 < (zz (List.length d0)))) <|
 tst (decide (Int.toNat x2 = Int.toNat x2)) <|
 cond (decide (w64 (x4 + (1 : Int)) ≥ (5 : Int)))
 (tst (decide (0 ≤ x2)) <|
 tst (decide (x2 < (zz (List.length d0)))) <|
 tst (decide (Int.toNat x2 = Int.toNat x2)) <|
 some (((List.set d0 (Int.toNat x2) ((List.getD d0 (Int.toNat x2) (0, ([], (0, (0, (0, ())))))).1, (List.getD d0 (Int.toNat x2) (0, ([], (0, (0, (0, ())))))).2.1, x3, w64 (x4 + (1 : Int)), (-1 : Int), ()), d1, d2, d3, ()), ())))
 (some (((List.set d0 (Int.toNat x2) ((List.getD d0 (Int.toNat x2) (0, ([], (0, (0, (0, ())))))).1, (List.getD d0 (Int.toNat x2) (0, ([], (0, (0, (0, ())))))).2.1, x3, w64 (x4 + (1 : Int)), x1, ()), d1, d2, d3, ()), ()))))
 (cond (x3 == (List.getD d0 (Int.toNat x2) (0, ([], (0, (0, (0, ())))))).2.2.1)
 (cond (decide (w64 (x4 + (1 : Int)) < (List.getD d0 (Int.toNat x2) (0, ([], (0, (0, (0, ())))))).2.2.2.1))
 (tst (decide (0 ≤ x2)) <|
 tst (decide (x2 < (zz (List.length d0)))) <|
 tst (decide (Int.toNat x2 = Int.toNat x2)) <|
 tst (decide (0 ≤ x2)) <|
 tst (decide (x2 < (zz (List.length d0)))) <|
 tst (decide (Int.toNat x2 = Int.toNat x2)) <|
 tst (decide (0 ≤ x2)) <|
 tst (decide (x2 < (zz (List.length d0)))) <|
 tst (decide (Int.toNat x2 = Int.toNat x2)) <|
 cond (decide (w64 (x4 + (1 : Int)) ≥ (5 : Int)))
 (tst (decide (0 ≤ x2)) <|
 tst (decide (x2 < (zz (List.length d0)))) <|
 tst (decide (Int.toNat x2 = Int.toNat x2)) <|
 some (((List.set d0 (Int.toNat x2) ((List.getD d0 (Int.toNat x2) (0, ([], (0, (0, (0, ())))))).1, (List.getD d0 (Int.toNat x2) (0, ([], (0, (0, (0, ())))))).2.1, x3, w64 (x4 + (1 : Int)), (-1 : Int), ()), d1, d2, d3, ()), ())))
 (some (((List.set d0 (Int.toNat x2) ((List.getD d0 (Int.toNat x2) (0, ([], (0, (0, (0, ())))))).1, (List.getD d0 (Int.toNat x2) (0, ([], (0, (0, (0, ())))))).2.1, x3, w64 (x4 + (1 : Int)), x1, ()), d1, d2, d3, ()), ()))))
 (some (((List.set d0 (Int.toNat x2) ((List.getD d0 (Int.toNat x2) (0, ([], (0, (0, (0, ())))))).1, (List.getD d0 (Int.toNat x2) (0, ([], (0, (0, (0, ())))))).2.1, (List.getD d0 (Int.toNat x2) (0, ([], (0, (0, (0, ())))))).2.2.1, (List.getD d0 (Int.toNat x2) (0, ([], (0, (0, (0, ())))))).2.2.2.1, (List.getD d0 (Int.toNat x2) (0, ([], (0, (0, (0, ())))))).2.2.2.2.1, ()), d1, d2, d3, ()), ()))))
 (some (((List.set d0 (Int.toNat x2) ((List.getD d0 (Int.toNat x2) (0, ([], (0, (0, (0, ())))))).1, (List.getD d0 (Int.toNat x2) (0, ([], (0, (0, (0, ())))))).2.1, (List.getD d0 (Int.toNat x2) (0, ([], (0, (0, (0, ())))))).2.2.1, (List.getD d0 (Int.toNat x2) (0, ([], (0, (0, (0, ())))))).2.2.2.1, (List.getD d0 (Int.toNat x2) (0, ([], (0, (0, (0, ())))))).2.2.2.2.1, ()), d1, d2, d3, ()), ()))))))
 (cond (decide (x3 > (List.getD d0 (Int.toNat x2) (0, ([], (0, (0, (0, ())))))).2.2.1))
 (tst (decide (0 ≤ x2)) <|
 tst (decide (x2 < (zz (List.length d0)))) <|
 tst (decide (Int.toNat x2 = Int.toNat x2)) <|
 tst (decide (0 ≤ x2)) <|
 tst (decide (x2 < (zz (List.length d0)))) <|
 tst (decide (Int.toNat x2 = Int.toNat x2)) <|
 tst (decide (0 ≤ x2)) <|
 tst (decide (x2 < (zz (List.length d0)))) <|
 tst (decide (Int.toNat x2 = Int.toNat x2)) <|
 cond (decide (w64 (x4 + (1 : Int)) ≥ (5 : Int)))
 (tst (decide (0 ≤ x2)) <|
 tst (decide (x2 < (zz (List.length d0)))) <|
 tst (decide (Int.toNat x2 = Int.toNat x2)) <|
 some (((List.set d0 (Int.toNat x2) ((List.getD d0 (Int.toNat x2) (0, ([], (0, (0, (0, ())))))).1, (List.getD d0 (Int.toNat x2) (0, ([], (0, (0, (0, ())))))).2.1, x3, w64 (x4 + (1 : Int)), (-1 : Int), ()), d1, d2, d3, ()), ())))
 (some (((List.set d0 (Int.toNat x2) ((List.getD d0 (Int.toNat x2) (0, ([], (0, (0, (0, ())))))).1, (List.getD d0 (Int.toNat x2) (0, ([], (0, (0, (0, ())))))).2.1, x3, w64 (x4 + (1 : Int)), x1, ()), d1, d2, d3, ()), ()))))
 (cond (x3 == (List.getD d0 (Int.toNat x2) (0, ([], (0, (0, (0, ())))))).2.2.1)
 (cond (decide (w64 (x4 + (1 : Int)) < (List.getD d0 (Int.toNat x2) (0, ([], (0, (0, (0, ())))))).2.2.2.1))
 (tst (decide (0 ≤ x2)) <|
 tst (decide (x2 < (zz (List.length d0)))) <|
 tst (decide (Int.toNat x2 = Int.toNat x2)) <|
 tst (decide (0 ≤ x2)) <|
 tst (decide (x2 < (zz (List.length d0)))) <|
 tst (decide (Int.toNat x2 = Int.toNat x2)) <|
 tst (decide (0 ≤ x2)) <|
 tst (decide (x2 < (zz (List.length d0)))) <|
 tst (decide (Int.toNat x2 = Int.toNat x2)) <|
 cond (decide (w64 (x4 + (1 : Int)) ≥ (5 : Int)))
 (tst (decide (0 ≤ x2)) <|
 tst (decide (x2 < (zz (List.length d0)))) <|
 tst (decide (Int.toNat x2 = Int.toNat x2)) <|
 some (((List.set d0 (Int.toNat x2) ((List.getD d0 (Int.toNat x2) (0, ([], (0, (0, (0, ())))))).1, (List.getD d0 (Int.toNat x2) (0, ([], (0, (0, (0, ())))))).2.1, x3, w64 (x4 + (1 : Int)), (-1 : Int), ()), d1, d2, d3, ()), ())))
 (some (((List.set d0 (Int.toNat x2) ((List.getD d0 (Int.toNat x2) (0, ([], (0, (0, (0, ())))))).1, (List.getD d0 (Int.toNat x2) (0, ([], (0, (0, (0, ())))))).2.1, x3, w64 (x4 + (1 : Int)), x1, ()), d1, d2, d3, ()), ()))))
 (some (((List.set d0 (Int.toNat x2) ((List.getD d0 (Int.toNat x2) (0, ([], (0, (0, (0, ())))))).1, (List.getD d0 (Int.toNat x2) (0, ([], (0, (0, (0, ())))))).2.1, (List.getD d0 (Int.toNat x2) (0, ([], (0, (0, (0, ())))))).2.2.1, (List.getD d0 (Int.toNat x2) (0, ([], (0, (0, (0, ())))))).2.2.2.1, (List.getD d0 (Int.toNat x2) (0, ([], (0, (0, (0, ())))))).2.2.2.2.1, ()), d1, d2, d3, ()), ()))))
 (some (((List.set d0 (Int.toNat x2) ((List.getD d0 (Int.toNat x2) (0, ([], (0, (0, (0, ())))))).1, (List.getD d0 (Int.toNat x2) (0, ([], (0, (0, (0, ())))))).2.1, (List.getD d0 (Int.toNat x2) (0, ([], (0, (0, (0, ())))))).2.2.1, (List.getD d0 (Int.toNat x2) (0, ([], (0, (0, (0, ())))))).2.2.2.1, (List.getD d0 (Int.toNat x2) (0, ([], (0, (0, (0, ())))))).2.2.2.2.1, ()), d1, d2, d3, ()), ())))))))
def zbx (fuel : Nat) (z : (((List NY) × ((List Bool) × ((List WY) × ((List (List (List Int))) × Unit)))) × (WY × Unit))) : zb0 := zdq fuel (iter (ziq fuel) fuel) z.1.1 z.1.2.1 z.1.2.2.1 z.1.2.2.2.1 z.2.1.1 z.2.1.2.1 z.2.1.2.2.1 z.2.1.2.2.2.1 z.2.1.2.2.2.2.1 z.2.1.2.2.2.2.2.1
theorem zwB (fuel : Nat) (xa : zbw.rt.T) (xd : zbw.D.T) : zbw.go (zfX fuel) fuel zio zfY xa xd = zbx fuel (zbw.xb (xa, xd)) :=
  (show zbw.go (zfX fuel) fuel zio zfY xa xd = zdq fuel (zio.lp (zfX fuel) 1 fuel (fun _ _ _ => none) (endX zfY zbw) 0 zoY) xa.1 xa.2.1 xa.2.2.1 xa.2.2.2.1 xd.1.1 xd.1.2.1 xd.1.2.2.1 xd.1.2.2.2.1 xd.1.2.2.2.2.1 xd.1.2.2.2.2.2.1 by kernel_rfl).trans (by rw [zwA]; rfl)
abbrev zkC (fuel : Nat) : LE := ⟨zbw, zbx fuel⟩
theorem zwC (fuel : Nat) : EntryOK Try.prog 47 (zkC fuel).te := okF (T := zfX fuel) (fn := Try.f47) (le := zkC fuel) (frz := [29, 31]) (ann := zoW) (cuts := zoX) (rv := zfY) (TabOK.of (entCons (zu9 fuel) entNil) (methNil)) mixed (by kernel_rfl) (by kernel_rfl) (by kernel_rfl) (fun _ => rfl) (fun _ => rfl) (fun xa xd y h => ⟨fuel, (zwB fuel xa xd).trans h⟩)
def zoZ (fuel : Nat) : Tab := Tab.of [(14, (zbY fuel).te)] []
def zo0 : List Norm := []
noncomputable def zwD : C := irOf Try.prog Try.f50 [] zo0 []
def zo1 : List (Nat × Option (Nat × Bool)) := [(8, none)]
abbrev zwE : Sx := .grp (.dat I6 .nil) (.grp (.dat I6 .nil) (.grp (.dat Kd.bool .nil) .nil))
abbrev zwF : Sx := .grp (.dat Kd.bool .nil) .nil
abbrev zwG : Rt := .cells (.own 1 KN (.own 0 Kd.bool (.own 0 KW (.own 2 (Kd.list (Kd.list I6)) .nil))))
abbrev zfZ : LF := .ref zwG zwE zwF false
def zkD (fuel : Nat) (d0 : List NY) (d1 : List Bool) (d2 : List WY) (d3 : List (List (List Int))) (x0 : Int) (x1 : Int) (x2 : Bool) : Option (((List NY) × ((List Bool) × ((List WY) × ((List (List (List Int))) × Unit)))) × ((Bool × Unit) × Unit)) :=
 cond (x0 == x1)
 (some (((d0, d1, d2, d3, ()), (false, ()), ())))
 (Option.bind (zS fuel ((x0, ()), (x1, ()), ())) fun y_2 =>
 tst (decide (0 ≤ y_2.1.1)) <|
 tst (decide (y_2.1.1 < (zz (List.length d1)))) <|
 tst (decide (Int.toNat y_2.1.1 < List.length d1)) <|
 cond (List.getD d1 (Int.toNat y_2.1.1) false == x2)
 (some (((d0, d1, d2, d3, ()), (false, ()), ())))
 (Option.bind (zS fuel ((x0, ()), (x1, ()), ())) fun y_4 =>
 tst (decide (0 ≤ y_4.1.1)) <|
 tst (decide (y_4.1.1 < (zz (List.length d1)))) <|
 tst (decide (Int.toNat y_4.1.1 < List.length d1)) <|
 Option.bind (zS fuel ((x1, ()), (x0, ()), ())) fun y_5 =>
 tst (decide (0 ≤ y_5.1.1)) <|
 tst (decide (y_5.1.1 < (zz (List.length (List.set d1 (Int.toNat y_4.1.1) x2))))) <|
 tst (decide (Int.toNat y_5.1.1 < List.length (List.set d1 (Int.toNat y_4.1.1) x2))) <|
 some (((d0, List.set (List.set d1 (Int.toNat y_4.1.1) x2) (Int.toNat y_5.1.1) x2, d2, d3, ()), (true, ()), ()))))
def zb1 (fuel : Nat) (z : (((List NY) × ((List Bool) × ((List WY) × ((List (List (List Int))) × Unit)))) × ((Int × Unit) × ((Int × Unit) × ((Bool × Unit) × Unit))))) : Option (((List NY) × ((List Bool) × ((List WY) × ((List (List (List Int))) × Unit)))) × ((Bool × Unit) × Unit)) := zkD fuel z.1.1 z.1.2.1 z.1.2.2.1 z.1.2.2.2.1 z.2.1.1 z.2.2.1.1 z.2.2.2.1.1
theorem zwH (fuel : Nat) (xa : zfZ.rt.T) (xd : zfZ.D.T) : zfZ.go (zoZ fuel) fuel zwD zo1 xa xd = zb1 fuel (zfZ.xb (xa, xd)) := by kernel_rfl
abbrev zkE (fuel : Nat) : LE := ⟨zfZ, zb1 fuel⟩
theorem zwI (fuel : Nat) : EntryOK Try.prog 50 (zkE fuel).te := okF (T := zoZ fuel) (fn := Try.f50) (le := zkE fuel) (frz := []) (ann := zo0) (cuts := []) (rv := zo1) (TabOK.of (entCons (zfB fuel) entNil) (methNil)) mixed (by kernel_rfl) (by kernel_rfl) (by kernel_rfl) (fun _ => rfl) (fun _ => rfl) (fun xa xd y h => ⟨fuel, (zwH fuel xa xd).trans h⟩)
end Go.Proofs.Ytljojacnjjgceaa.Den
namespace Go.Proofs.Ytljojacnjjgceaa.Den
open Go Go.RowKit
def zo2 (fuel : Nat) : Tab := Tab.of [(15, (zm fuel).te), (21, (zhS fuel).te), (43, (zhu fuel).te), (57, (zkd fuel).te)] []
def zo3 : List Norm := []
noncomputable def zwJ : C := irOf Try.prog Try.f48 [49, 63, 65, 66, 80, 89, 1000032, 1000035, 1000047] zo3 []
def zo4 : List (Nat × Option (Nat × Bool)) := [(6, none)]
abbrev zwK : Sx := .grp (.dat I6 .nil) (.grp (.dat I6 .nil) .nil)
abbrev zwL : Sx := .grp (.dat Kd.bool .nil) .nil
abbrev zwM : Rt := .cells (.own 1 KN (.own 0 Kd.bool (.own 0 KW (.own 2 (Kd.list (Kd.list I6)) .nil))))
abbrev zf0 : LF := .ref zwM zwK zwL false
def zkF (fuel : Nat) (d0 : List NY) (d1 : List Bool) (d2 : List WY) (d3 : List (List (List Int))) (x0 : Int) (x1 : Int) : Option (((List NY) × ((List Bool) × ((List WY) × ((List (List (List Int))) × Unit)))) × ((Bool × Unit) × Unit)) :=
 tst (decide (0 ≤ x0)) <|
 tst (decide (x0 < (zz (List.length d0)))) <|
 tst (decide (Int.toNat x0 < List.length d0)) <|
 Option.bind (zc fuel ((x1, ()), ((0 : Int), ()), ((63 : Int), ()), ())) fun y_1 =>
 cond (!y_1.1.1)
 (some (((d0, d1, d2, d3, ()), (false, ()), ())))
 (tst (decide (0 ≤ x0)) <|
 tst (decide (x0 < (zz (List.length d3)))) <|
 tst (decide (Int.toNat x0 < List.length d3)) <|
 tst (decide (0 ≤ (List.getD d0 (Int.toNat x0) (0, ([], (0, (0, (0, ())))))).1)) <|
 tst (decide ((List.getD d0 (Int.toNat x0) (0, ([], (0, (0, (0, ())))))).1 < (zz (List.length (List.getD d3 (Int.toNat x0) []))))) <|
 tst (decide (Int.toNat (List.getD d0 (Int.toNat x0) (0, ([], (0, (0, (0, ())))))).1 < List.length (List.getD d3 (Int.toNat x0) []))) <|
 cond (decide ((zz (List.length (List.getD (List.getD d3 (Int.toNat x0) []) (Int.toNat (List.getD d0 (Int.toNat x0) (0, ([], (0, (0, (0, ())))))).1) []))) ≥ (100 : Int)))
 (some (((d0, d1, d2, List.set d3 (Int.toNat x0) (List.set (List.getD d3 (Int.toNat x0) []) (Int.toNat (List.getD d0 (Int.toNat x0) (0, ([], (0, (0, (0, ())))))).1) (List.getD (List.getD d3 (Int.toNat x0) []) (Int.toNat (List.getD d0 (Int.toNat x0) (0, ([], (0, (0, (0, ())))))).1) [])), ()), (false, ()), ())))
 (tst (decide (0 ≤ x0)) <|
 tst (decide (x0 < (zz (List.length d0)))) <|
 tst (decide (Int.toNat x0 < List.length d0)) <|
 Option.bind (zfz fuel (((List.getD d0 (Int.toNat x0) (0, ([], (0, (0, (0, ())))))).1, (List.getD d0 (Int.toNat x0) (0, ([], (0, (0, (0, ())))))).2.1, (List.getD d0 (Int.toNat x0) (0, ([], (0, (0, (0, ())))))).2.2.1, (List.getD d0 (Int.toNat x0) (0, ([], (0, (0, (0, ())))))).2.2.2.1, (List.getD d0 (Int.toNat x0) (0, ([], (0, (0, (0, ())))))).2.2.2.2.1, ()), (x0, ()), ())) fun y_4 =>
 Option.bind (zaL fuel ((y_4.1.2.2.2.1, y_4.1.2.2.2.2.1, y_4.1.2.2.2.2.2.1, y_4.1.2.2.2.2.2.2.1, y_4.1.2.2.2.2.2.2.2.1, y_4.1.2.2.2.2.2.2.2.2.1, y_4.1.2.2.2.2.2.2.2.2.2.1, ()), (x1, ()), ())) fun y_5 =>
 tst (decide (0 ≤ x0)) <|
 tst (decide (x0 < (zz (List.length d3)))) <|
 tst (decide (Int.toNat x0 = Int.toNat x0)) <|
 tst (decide (0 ≤ x0)) <|
 tst (decide (x0 < (zz (List.length d3)))) <|
 tst (decide (Int.toNat x0 = Int.toNat x0)) <|
 tst (decide (0 ≤ (List.getD d0 (Int.toNat x0) (0, ([], (0, (0, (0, ())))))).1)) <|
 tst (decide ((List.getD d0 (Int.toNat x0) (0, ([], (0, (0, (0, ())))))).1 < (zz (List.length (List.getD d3 (Int.toNat x0) []))))) <|
 tst (decide (Int.toNat (List.getD d0 (Int.toNat x0) (0, ([], (0, (0, (0, ())))))).1 = Int.toNat (List.getD d0 (Int.toNat x0) (0, ([], (0, (0, (0, ())))))).1)) <|
 tst (decide (0 + List.length (List.getD (List.getD d3 (Int.toNat x0) []) (Int.toNat (List.getD d0 (Int.toNat x0) (0, ([], (0, (0, (0, ())))))).1) []) < LIM)) <|
 tst (decide (List.length ([] ++ List.getD (List.getD d3 (Int.toNat x0) []) (Int.toNat (List.getD d0 (Int.toNat x0) (0, ([], (0, (0, (0, ())))))).1) []) + 1 < LIM)) <|
 tst (decide (0 ≤ (List.getD d0 (Int.toNat x0) (0, ([], (0, (0, (0, ())))))).1)) <|
 tst (decide ((List.getD d0 (Int.toNat x0) (0, ([], (0, (0, (0, ())))))).1 < (zz (List.length (List.getD d3 (Int.toNat x0) []))))) <|
 tst (decide (Int.toNat (List.getD d0 (Int.toNat x0) (0, ([], (0, (0, (0, ())))))).1 = Int.toNat (List.getD d0 (Int.toNat x0) (0, ([], (0, (0, (0, ())))))).1)) <|
 tst (decide (0 ≤ x0)) <|
 tst (decide (x0 < (zz (List.length d0)))) <|
 tst (decide (Int.toNat x0 = Int.toNat x0)) <|
 Option.bind (zfr fuel (((List.getD d0 (Int.toNat x0) (0, ([], (0, (0, (0, ())))))).2.1, ()), (x0, (List.getD d0 (Int.toNat x0) (0, ([], (0, (0, (0, ())))))).1, w64 (y_4.1.2.2.1 + (1 : Int)), y_5.1.1, y_5.1.2.1, y_5.1.2.2.1, y_5.1.2.2.2.1, y_5.1.2.2.2.2.1, y_5.1.2.2.2.2.2.1, y_5.1.2.2.2.2.2.2.1, ()), ())) fun y_6 =>
 tst (decide (0 ≤ x0)) <|
 tst (decide (x0 < (zz (List.length d0)))) <|
 tst (decide (Int.toNat x0 = Int.toNat x0)) <|
 some (((List.set d0 (Int.toNat x0) ((List.getD d0 (Int.toNat x0) (0, ([], (0, (0, (0, ())))))).1, y_6.1.1, (List.getD d0 (Int.toNat x0) (0, ([], (0, (0, (0, ())))))).2.2.1, (List.getD d0 (Int.toNat x0) (0, ([], (0, (0, (0, ())))))).2.2.2.1, (List.getD d0 (Int.toNat x0) (0, ([], (0, (0, (0, ())))))).2.2.2.2.1, ()), d1, d2, List.set d3 (Int.toNat x0) (List.set (List.getD d3 (Int.toNat x0) []) (Int.toNat (List.getD d0 (Int.toNat x0) (0, ([], (0, (0, (0, ())))))).1) ([] ++ List.getD (List.getD d3 (Int.toNat x0) []) (Int.toNat (List.getD d0 (Int.toNat x0) (0, ([], (0, (0, (0, ())))))).1) [] ++ [x1])), ()), (true, ()), ()))))
def zf1 (fuel : Nat) (z : (((List NY) × ((List Bool) × ((List WY) × ((List (List (List Int))) × Unit)))) × ((Int × Unit) × ((Int × Unit) × Unit)))) : Option (((List NY) × ((List Bool) × ((List WY) × ((List (List (List Int))) × Unit)))) × ((Bool × Unit) × Unit)) := zkF fuel z.1.1 z.1.2.1 z.1.2.2.1 z.1.2.2.2.1 z.2.1.1 z.2.2.1.1
theorem zwN (fuel : Nat) (xa : zf0.rt.T) (xd : zf0.D.T) : zf0.go (zo2 fuel) fuel zwJ zo4 xa xd = zf1 fuel (zf0.xb (xa, xd)) := by kernel_rfl
abbrev zkG (fuel : Nat) : LE := ⟨zf0, zf1 fuel⟩
theorem zwO (fuel : Nat) : EntryOK Try.prog 48 (zkG fuel).te := okF (T := zo2 fuel) (fn := Try.f48) (le := zkG fuel) (frz := [49, 63, 65, 66, 80, 89, 1000032, 1000035, 1000047]) (ann := zo3) (cuts := []) (rv := zo4) (TabOK.of (entCons (zq fuel) (entCons (zoj fuel) (entCons (znF fuel) (entCons (zu4 fuel) entNil)))) (methNil)) mixed (by kernel_rfl) (by kernel_rfl) (by kernel_rfl) (fun _ => rfl) (fun _ => rfl) (fun xa xd y h => ⟨fuel, (zwN fuel xa xd).trans h⟩)
def zo5 (fuel : Nat) : Tab := Tab.of [(15, (zm fuel).te), (39, (zka fuel).te), (47, (zkC fuel).te)] []
def zo6 : List Norm := []
noncomputable def zwP : C := irOf Try.prog Try.f40 [35, 47] zo6 []
def zo7 : List (Nat × Option (Nat × Bool)) := [(8, none)]
abbrev zwQ : Sx := .grp (.dat I6 .nil) (.grp (.dat Kd.bool .nil) (.grp (.dat Kd.bool .nil) .nil))
abbrev zwR : Sx := .grp (.dat Kd.bool .nil) .nil
abbrev zwS : Rt := .cells (.own 1 KN (.own 0 Kd.bool (.own 0 KW (.own 2 (Kd.list (Kd.list I6)) .nil))))
abbrev zf2 : LF := .ref zwS zwQ zwR false
def zkH (fuel : Nat) (d0 : List NY) (d1 : List Bool) (d2 : List WY) (d3 : List (List (List Int))) (x0 : Int) (x1 : Bool) (x2 : Bool) : Option (((List NY) × ((List Bool) × ((List WY) × ((List (List (List Int))) × Unit)))) × ((Bool × Unit) × Unit)) :=
 Option.bind (zc fuel ((x0, ()), ((0 : Int), ()), (w64 ((zz (List.length d2)) - (1 : Int)), ()), ())) fun y_1 =>
 cond (!y_1.1.1)
 (some (((d0, d1, d2, d3, ()), (false, ()), ())))
 (tst (decide (0 ≤ x0)) <|
 tst (decide (x0 < (zz (List.length d2)))) <|
 tst (decide (Int.toNat x0 < List.length d2)) <|
 cond (x1)
 (Option.bind (zhD fuel (((List.getD d2 (Int.toNat x0) (0, (0, (0, (0, (0, ([], ()))))))).2.2.2.2.2.1, ()), ())) fun y_4 =>
 Option.bind (zbx fuel ((d0, d1, d2, d3, ()), ((List.getD d2 (Int.toNat x0) (0, (0, (0, (0, (0, ([], ()))))))).1, (List.getD d2 (Int.toNat x0) (0, (0, (0, (0, (0, ([], ()))))))).2.1, (List.getD d2 (Int.toNat x0) (0, (0, (0, (0, (0, ([], ()))))))).2.2.1, (List.getD d2 (Int.toNat x0) (0, (0, (0, (0, (0, ([], ()))))))).2.2.2.1, (List.getD d2 (Int.toNat x0) (0, (0, (0, (0, (0, ([], ()))))))).2.2.2.2.1, y_4.1.1, ()), ())) fun y_5 =>
 cond (!x2)
 (tst (decide (0 ≤ x0)) <|
 tst (decide (x0 ≤ (zz (List.length y_5.1.2.2.1)))) <|
 tst (decide (0 + List.length (List.take (Int.toNat x0 - 0) (List.drop 0 y_5.1.2.2.1)) < LIM)) <|
 tst (decide (0 ≤ w64 (x0 + (1 : Int)))) <|
 tst (decide (w64 (x0 + (1 : Int)) ≤ (zz (List.length y_5.1.2.2.1)))) <|
 tst (decide (List.length ([] ++ List.take (Int.toNat x0 - 0) (List.drop 0 y_5.1.2.2.1)) + List.length (List.take (List.length y_5.1.2.2.1 - Int.toNat (w64 (x0 + (1 : Int)))) (List.drop (Int.toNat (w64 (x0 + (1 : Int)))) y_5.1.2.2.1)) < LIM)) <|
 some (((y_5.1.1, y_5.1.2.1, [] ++ List.take (Int.toNat x0 - 0) (List.drop 0 y_5.1.2.2.1) ++ List.take (List.length y_5.1.2.2.1 - Int.toNat (w64 (x0 + (1 : Int)))) (List.drop (Int.toNat (w64 (x0 + (1 : Int)))) y_5.1.2.2.1), y_5.1.2.2.2.1, ()), (true, ()), ())))
 (some (((y_5.1.1, y_5.1.2.1, y_5.1.2.2.1, y_5.1.2.2.2.1, ()), (true, ()), ()))))
 (cond (!x2)
 (tst (decide (0 ≤ x0)) <|
 tst (decide (x0 ≤ (zz (List.length d2)))) <|
 tst (decide (0 + List.length (List.take (Int.toNat x0 - 0) (List.drop 0 d2)) < LIM)) <|
 tst (decide (0 ≤ w64 (x0 + (1 : Int)))) <|
 tst (decide (w64 (x0 + (1 : Int)) ≤ (zz (List.length d2)))) <|
 tst (decide (List.length ([] ++ List.take (Int.toNat x0 - 0) (List.drop 0 d2)) + List.length (List.take (List.length d2 - Int.toNat (w64 (x0 + (1 : Int)))) (List.drop (Int.toNat (w64 (x0 + (1 : Int)))) d2)) < LIM)) <|
 some (((d0, d1, [] ++ List.take (Int.toNat x0 - 0) (List.drop 0 d2) ++ List.take (List.length d2 - Int.toNat (w64 (x0 + (1 : Int)))) (List.drop (Int.toNat (w64 (x0 + (1 : Int)))) d2), d3, ()), (true, ()), ())))
 (some (((d0, d1, d2, d3, ()), (true, ()), ())))))
def zby (fuel : Nat) (z : (((List NY) × ((List Bool) × ((List WY) × ((List (List (List Int))) × Unit)))) × ((Int × Unit) × ((Bool × Unit) × ((Bool × Unit) × Unit))))) : Option (((List NY) × ((List Bool) × ((List WY) × ((List (List (List Int))) × Unit)))) × ((Bool × Unit) × Unit)) := zkH fuel z.1.1 z.1.2.1 z.1.2.2.1 z.1.2.2.2.1 z.2.1.1 z.2.2.1.1 z.2.2.2.1.1
theorem zwT (fuel : Nat) (xa : zf2.rt.T) (xd : zf2.D.T) : zf2.go (zo5 fuel) fuel zwP zo7 xa xd = zby fuel (zf2.xb (xa, xd)) := by kernel_rfl
abbrev zir (fuel : Nat) : LE := ⟨zf2, zby fuel⟩
theorem zo8 (fuel : Nat) : EntryOK Try.prog 40 (zir fuel).te := okF (T := zo5 fuel) (fn := Try.f40) (le := zir fuel) (frz := [35, 47]) (ann := zo6) (cuts := []) (rv := zo7) (TabOK.of (entCons (zq fuel) (entCons (zuK fuel) (entCons (zwC fuel) entNil))) (methNil)) mixed (by kernel_rfl) (by kernel_rfl) (by kernel_rfl) (fun _ => rfl) (fun _ => rfl) (fun xa xd y h => ⟨fuel, (zwT fuel xa xd).trans h⟩)
end Go.Proofs.Ytljojacnjjgceaa.Den
namespace Go.Proofs.Ytljojacnjjgceaa.Den
open Go Go.RowKit
def zo9 (fuel : Nat) : Tab := Tab.of [(29, (zhP fuel).te)] []
def zpa : List Norm := []
def zpb : List (Nat × Norm) := [(1000008, { live := [0, 1], fix := [], op := [(0, 3, 1, none)] })]
noncomputable def zwU : C := irOf Try.prog Try.f49 [45, 1000058, 2000056, 2000059] zpa zpb
def zpc : List (Nat × Option (Nat × Bool)) := [(4, none)]
abbrev zwV : Sx := .grp (.dat I6 .nil) .nil
abbrev zwW : Sx := .grp (.dat Kd.bool .nil) .nil
abbrev zwX : Rt := .cells (.own 1 KN (.own 0 Kd.bool (.own 0 KW (.own 2 (Kd.list (Kd.list I6)) .nil))))
abbrev zf3 : LF := .ref zwX zwV zwW false
def zkI (fuel : Nat) (d0 : List NY) (d1 : List Bool) (d2 : List WY) (d3 : List (List (List Int))) (x0 : Int) : Option (((List NY) × ((List Bool) × ((List WY) × ((List (List (List Int))) × Unit)))) × ((Bool × Unit) × Unit)) :=
 tst (decide (0 ≤ x0)) <|
 tst (decide (x0 < (zz (List.length d0)))) <|
 tst (decide (Int.toNat x0 < List.length d0)) <|
 cond (decide (w64 ((List.getD d0 (Int.toNat x0) (0, ([], (0, (0, (0, ())))))).1 + (1 : Int)) > (20 : Int)))
 (some (((d0, d1, d2, d3, ()), (false, ()), ())))
 (Option.bind (zfv fuel ((x0, ()), (w64 ((List.getD d0 (Int.toNat x0) (0, ([], (0, (0, (0, ())))))).1 + (1 : Int)), ()), ())) fun y_2 =>
 cond (x0 == (0 : Int))
 (tst (decide ((0 : Int) < (zz (List.length d0)))) <|
 tst (decide (Int.toNat (0 : Int) < List.length d0)) <|
 tst (decide (0 ≤ x0)) <|
 tst (decide (x0 < (zz (List.length d0)))) <|
 tst (decide (Int.toNat x0 < List.length d0)) <|
 tst (decide (0 ≤ x0)) <|
 tst (decide (Int.toNat x0 < List.length d3)) <|
 tst (decide (0 ≤ x0)) <|
 tst (decide (x0 < (zz (List.length d3)))) <|
 tst (decide (Int.toNat x0 = Int.toNat x0)) <|
 tst (decide (0 + List.length (List.getD d3 (Int.toNat x0) []) < LIM)) <|
 tst (decide (List.length ([] ++ List.getD d3 (Int.toNat x0) []) + 1 < LIM)) <|
 tst (decide (0 ≤ x0)) <|
 tst (decide (x0 < (zz (List.length d3)))) <|
 tst (decide (Int.toNat x0 = Int.toNat x0)) <|
 some (((List.set d0 (Int.toNat x0) (y_2.1.1, y_2.1.2.1, (List.getD d0 (Int.toNat (0 : Int)) (0, ([], (0, (0, (0, ())))))).2.2.1, y_2.1.2.2.2.1, y_2.1.2.2.2.2.1, ()), d1, d2, List.set d3 (Int.toNat x0) ([] ++ List.getD d3 (Int.toNat x0) [] ++ [[]]), ()), (true, ()), ())))
 (tst (decide (0 ≤ x0)) <|
 tst (decide (x0 < (zz (List.length d0)))) <|
 tst (decide (Int.toNat x0 < List.length d0)) <|
 tst (decide (0 ≤ x0)) <|
 tst (decide (Int.toNat x0 < List.length d3)) <|
 tst (decide (0 ≤ x0)) <|
 tst (decide (x0 < (zz (List.length d3)))) <|
 tst (decide (Int.toNat x0 = Int.toNat x0)) <|
 tst (decide (0 + List.length (List.getD d3 (Int.toNat x0) []) < LIM)) <|
 tst (decide (List.length ([] ++ List.getD d3 (Int.toNat x0) []) + 1 < LIM)) <|
 tst (decide (0 ≤ x0)) <|
 tst (decide (x0 < (zz (List.length d3)))) <|
 tst (decide (Int.toNat x0 = Int.toNat x0)) <|
 some (((List.set d0 (Int.toNat x0) (y_2.1.1, y_2.1.2.1, y_2.1.2.2.1, y_2.1.2.2.2.1, y_2.1.2.2.2.2.1, ()), d1, d2, List.set d3 (Int.toNat x0) ([] ++ List.getD d3 (Int.toNat x0) [] ++ [[]]), ()), (true, ()), ()))))
def zf4 (fuel : Nat) (z : (((List NY) × ((List Bool) × ((List WY) × ((List (List (List Int))) × Unit)))) × ((Int × Unit) × Unit))) : Option (((List NY) × ((List Bool) × ((List WY) × ((List (List (List Int))) × Unit)))) × ((Bool × Unit) × Unit)) := zkI fuel z.1.1 z.1.2.1 z.1.2.2.1 z.1.2.2.2.1 z.2.1.1
theorem zwY (fuel : Nat) (xa : zf3.rt.T) (xd : zf3.D.T) : zf3.go (zo9 fuel) fuel zwU zpc xa xd = zf4 fuel (zf3.xb (xa, xd)) := by kernel_rfl
abbrev zkJ (fuel : Nat) : LE := ⟨zf3, zf4 fuel⟩
theorem zwZ (fuel : Nat) : EntryOK Try.prog 49 (zkJ fuel).te := okF (T := zo9 fuel) (fn := Try.f49) (le := zkJ fuel) (frz := [45, 1000058, 2000056, 2000059]) (ann := zpa) (cuts := zpb) (rv := zpc) (TabOK.of (entCons (zof fuel) entNil) (methNil)) mixed (by kernel_rfl) (by kernel_rfl) (by kernel_rfl) (fun _ => rfl) (fun _ => rfl) (fun xa xd y h => ⟨fuel, (zwY fuel xa xd).trans h⟩)
end Go.Proofs.Ytljojacnjjgceaa.Den
namespace Go.Proofs.Ytljojacnjjgceaa.Den
open Go Go.RowKit
abbrev NetY := (List NY) × ((List Bool) × ((List WY) × ((List (List (List Int))) × Unit)))
theorem zrR (f : Nat) (x0 x1 x2 : Int) (x3 : List (List Int)) (x4 : List Int) (x5 : LP) (x6 x7 : Int) (x8 : LP) (x9 y0 y1 y2 : Int) (y3 : List (List Int)) (y4 : List Int) (y5 : LP) (y6 y7 : Int) (y8 : LP) (y9 : Int) :
    zfo f ((x0, x1, x2, x3, x4, x5, x6, x7, x8, x9, ()), (y0, y1, y2, y3, y4, y5, y6, y7, y8, y9, ()), ()) = some ((dcd (x1 > y1 ∨ x1 = y1 ∧ x2 > y2), ()), ()) := by
  show cond (decide (x1 > y1)) _ (cond (x1 == y1) (some ((decide (x2 > y2), ()), ())) _) = _
  by_cases h1 : x1 > y1
  · rw [decide_eq_true h1, dcd_pos (.inl h1)]; rfl
  · rw [decide_eq_false h1, cond_false]
    by_cases h2 : x1 = y1
    · rw [beqT h2, cond_true, dcd_dec]
      exact congrArg (fun b => some ((b, ()), ())) (za2 ⟨fun h => .inr ⟨h2, h⟩, fun h => by rcases h with h | h; exact absurd h h1; exact h.2⟩)
    · rw [beqF h2, cond_false, dcd_neg]
      omega
section
variable {R V : Type}
theorem put_go {st : (V → Option R) → V → Option R} {enc : Nat → Bool → List EY → V} {fin : List EY → Option R} (l : List EY) (e : EY)
    (h1 : ∀ i out g, i < l.length → out.length ≤ 2 * i → st g (enc i true out) = g (enc (i + 1) true (out ++ [List.getD l i E0d])))
    (h2 : ∀ i out g, i < l.length → out.length ≤ 2 * i → st g (enc i false out) = cond (decide ((List.getD l i E0d).1 ≥ e.1)) (cond ((List.getD l i E0d).1 == e.1)
      (cond (dcd (Newer e (List.getD l i E0d))) (g (enc (i + 1) true (out ++ [e]))) (g (enc (i + 1) true (out ++ [List.getD l i E0d])))) (g (enc (i + 1) true (out ++ [e] ++ [List.getD l i E0d])))) (g (enc (i + 1) false (out ++ [List.getD l i E0d]))))
    (h3 : ∀ out g, out.length ≤ 2 * l.length → st g (enc l.length true out) = fin out) (h4 : ∀ out g, out.length ≤ 2 * l.length → st g (enc l.length false out) = fin (out ++ [e])) :
    ∀ (d i : Nat) (done : Bool) (out : List EY) (fuel : Nat), i + d = l.length → out.length ≤ 2 * i → d < fuel → iter st fuel (enc i done out) = fin (out ++ cond done (l.drop i) (putGo e (l.drop i)))
  | 0, i, done, out, fuel + 1, hi, ho, hf => by
    obtain rfl : i = l.length := by omega
    rw [iter, List.drop_eq_nil_of_le (Nat.le_refl _)]
    cases done with
    | true => rw [h3 out _ ho]; simp
    | false => rw [h4 out _ ho]; rfl
  | d + 1, i, done, out, fuel + 1, hi, ho, hf => by
    rw [iter, zbJ E0d (show i < l.length by omega)]
    have rec1 : ∀ done' out', out'.length ≤ 2 * (i + 1) → iter st fuel (enc (i + 1) done' out') = fin (out' ++ cond done' (l.drop (i + 1)) (putGo e (l.drop (i + 1)))) := fun done' out' h => put_go l e h1 h2 h3 h4 d (i + 1) done' out' fuel (by omega) h (by omega)
    cases done with
    | true =>
      rw [h1 i out _ (by omega) ho, rec1 _ _ (by simp; omega)]
      simp
    | false =>
      rw [h2 i out _ (by omega) ho, rec1 _ _ (by simp; omega), rec1 _ _ (by simp; omega), rec1 _ _ (by simp; omega), rec1 _ _ (by simp; omega)]
      simp only [cond_true, cond_false, putGo]
      cases decide ((List.getD l i E0d).1 ≥ e.1) <;> cases (List.getD l i E0d).1 == e.1 <;> cases dcd (Newer e (List.getD l i E0d)) <;> simp
end
theorem lim1 {n i m : Nat} (h : n ≤ 2 * i) (hi : i ≤ m) (hm : m ≤ 1000) : n + 1 < LIM := by simp only [LIM]; omega
theorem put0_eq (f : Nat) (l : List EY) (n b c : Int) (s : SumD) (hl : l.length ≤ 1000) (hf : 1000 < f) : zfr f ((l, ()), (n, b, c, s), ()) = some ((putGo (n, b, c, deep s, ()) l, ()), ()) := by
  obtain ⟨x3, x4, x5, x6, x7, x8, x9, ⟨⟩⟩ := s
  show iter (zhL f) f ((0 : Int), l, false, n, b, c, x3, x4, x5, x6, x7, x8, x9, []) = _
  refine (put_go (st := zhL f) (enc := fun i done out => ((i : Int), l, done, n, b, c, x3, x4, x5, x6, x7, x8, x9, out)) (fin := fun out => some ((out, ()), ())) l (n, b, c, deep (x3, x4, x5, x6, x7, x8, x9, ()), ()) ?_ ?_ ?_ ?_ l.length 0 false [] f (by omega) (by simp) (by omega)).trans rfl
  · intro i out g hi ho
    show zaM f g _ = _
    unfold zaM
    simp only [zz_eq, lt_cast hi, le_cast, decide_true, cond_true, Bool.not_true, cond_false, Int.toNat_natCast, w64_up (show i < 4294967296 by omega), lim1 ho (Nat.le_of_lt hi) hl]
  · intro i out g hi ho
    show zaM f g _ = _
    unfold zaM
    have ho' : ∀ y : EY, (out ++ [y]).length + 1 < LIM := fun y => by simp only [List.length_append, List.length_singleton, LIM]; omega
    simp only [zz_eq, lt_cast hi, le_cast, decide_true, cond_true, Bool.not_false, Int.toNat_natCast, w64_up (show i < 4294967296 by omega), lim1 ho (Nat.le_of_lt hi) hl, ho', zrR, Option.bind_some]
    rfl
  · intro out g ho
    show zaM f g _ = _
    unfold zaM
    simp only [zz_eq, zh, decide_false, cond_false, Bool.not_true]
  · intro out g ho
    show zaM f g _ = _
    unfold zaM
    simp only [zz_eq, zh, decide_false, decide_true, cond_false, cond_true, Bool.not_false, lim1 ho (Nat.le_refl _) hl]
    rfl
theorem put1_eq (f : Nat) (l : List EY) (n b c : Int) (s : SumD) (hl : l.length ≤ 1000) (hf : 1000 < f) : zhO f (l, (), (n, b, c, s), ()) = some (l, (putGo (n, b, c, deep s, ()) l, ()), ()) := by
  obtain ⟨x3, x4, x5, x6, x7, x8, x9, ⟨⟩⟩ := s
  show iter (zhN f) f ((0 : Int), false, l, n, b, c, x3, x4, x5, x6, x7, x8, x9, []) = _
  refine (put_go (st := zhN f) (enc := fun i done out => ((i : Int), done, l, n, b, c, x3, x4, x5, x6, x7, x8, x9, out)) (fin := fun out => some (l, (out, ()), ())) l (n, b, c, deep (x3, x4, x5, x6, x7, x8, x9, ()), ()) ?_ ?_ ?_ ?_ l.length 0 false [] f (by omega) (by simp) (by omega)).trans rfl
  · intro i out g hi ho
    show zaN f g _ = _
    unfold zaN
    simp only [zz_eq, lt_cast hi, hi, le_cast, decide_true, cond_true, Bool.not_true, cond_false, Int.toNat_natCast, w64_up (show i < 4294967296 by omega), lim1 ho (Nat.le_of_lt hi) hl]
  · intro i out g hi ho
    show zaN f g _ = _
    unfold zaN
    have ho' : ∀ y : EY, (out ++ [y]).length + 1 < LIM := fun y => by simp only [List.length_append, List.length_singleton, LIM]; omega
    simp only [zz_eq, lt_cast hi, hi, le_cast, decide_true, cond_true, Bool.not_false, Int.toNat_natCast, w64_up (show i < 4294967296 by omega), lim1 ho (Nat.le_of_lt hi) hl, ho', zrR, Option.bind_some]
    rfl
  · intro out g ho
    show zaN f g _ = _
    unfold zaN
    simp only [zz_eq, zh, decide_false, cond_false, Bool.not_true]
  · intro out g ho
    show zaN f g _ = _
    unfold zaN
    simp only [zz_eq, zh, decide_false, decide_true, cond_false, cond_true, Bool.not_false, lim1 ho (Nat.le_refl _) hl]
    rfl
section
variable {f : Nat} {N : List NY} {L : List Bool} {W : List WY} {P : List (List (List Int))}
theorem nat_of {x : Int} (h : 0 ≤ x ∧ x ≤ 4) : ∃ a : Nat, x = (a : Int) ∧ a < 5 := ⟨x.toNat, by omega, by omega⟩
theorem send_ok (hT : NetT N L W P) {k x1 x2 x3 x4 : Int} {l : List EY} (hw : WordT N P (k, x1, x2, x3, x4, l, ())) :
    ∃ W' b, zdl f ((N, L, W, P, ()), (k, x1, x2, x3, x4, l, ()), ()) = some ((N, L, W', P, ()), (b, ()), ()) ∧ NetT N L W' P := by
  obtain ⟨a, h1, ha⟩ := nat_of hw.from_
  obtain ⟨b, h2, hb⟩ := nat_of hw.to_
  simp only at h1 h2
  subst h1; subst h2
  have h24 := hT.words
  have run : ∀ r, zkx f N L W P k (a : Int) (b : Int) x3 x4 l = r → zdl f ((N, L, W, P, ()), (k, (a : Int), (b : Int), x3, x4, l, ()), ()) = r := fun r h => h
  unfold zkx at run
  simp only [link_eq f ha hb, Option.bind_some, zz_eq, hT.links, idx_lt ha hb, show a * 5 + b < 25 by omega, le_cast, decide_true, cond_true, Int.toNat_natCast] at run
  cases hl : List.getD L (a * 5 + b) false with
  | false =>
    rw [hl] at run
    exact ⟨W, false, run _ rfl, hT⟩
  | true =>
    rw [hl] at run
    simp only [Bool.not_true, cond_false] at run
    by_cases h : W.length < 24
    · simp only [show ¬ ((W.length : Nat) : Int) ≥ 24 by omega, show W.length + 1 < LIM by simp only [LIM]; omega, decide_false, decide_true, cond_false, cond_true] at run
      exact ⟨_, true, run _ rfl, hT.wordAdd hw h⟩
    · simp only [show ((W.length : Nat) : Int) ≥ 24 by omega, decide_true, cond_true] at run
      exact ⟨W, false, run _ rfl, hT⟩
theorem zrS (hT : NetT N L W P) {i : Nat} (hi : i < 5) (hf : 100 < f) : ∃ W' b, zdn f ((N, L, W, P, ()), ((i : Int), ()), ()) = some ((N, L, W', P, ()), (b, ()), ()) ∧ NetT N L W' P := by
  have hN := hT.nodes
  have hn := hT.node i hi
  have key : Ret (zdn f ((N, L, W, P, ()), ((i : Int), ()), ())) fun r => ∃ W' b, r = ((N, L, W', P, ()), (b, ()), ()) ∧ NetT N L W' P := by
    show Ret (zil f (iter (zkz f) f) N L W P (i : Int)) _
    unfold zil
    simp only [zz_eq, hN, cst5 hi, hi, le_cast, decide_true, cond_true, Int.toNat_natCast]
    have hset : N.set i ((nd N i).1, (nd N i).2.1, (nd N i).2.2.1, (nd N i).2.2.2.1, (nd N i).2.2.2.2.1, ()) = N := zd7 (d := N0d) (by omega)
    rw [hset]
    refine Ret.loop (fun n v => ∃ (k : Nat) (b : Bool) (W' : List WY), v = ((k : Int), (i : Int), b, (nd N i).1, (nd N i).2.2.1, (nd N i).2.2.2.1, (nd N i).2.2.2.2.1, N, L, W', P) ∧ k + n = 5 ∧ NetT N L W' P) ?_ f 5 _ ⟨0, false, W, rfl, rfl, hT⟩ (by omega)
    rintro n v g ⟨k, b, W', rfl, hkn, hT'⟩ hg
    show Ret (zky f g _) _
    unfold zky
    by_cases hk : k < 5
    rotate_left
    · simp only [show ¬ ((k : Int) < 5) by omega, decide_false, cond_false]
      exact Ret.ret ⟨W', b, rfl, hT'⟩
    simp only [za4 hk, decide_true, cond_true]
    by_cases h5 : (nd N i).2.2.2.1 < 5
    rotate_left
    · simp only [h5, decide_false, cond_false]
      exact Ret.ret ⟨W', b, rfl, hT'⟩
    simp only [h5, decide_true, cond_true, w64_up (show k < 4294967296 by omega)]
    by_cases hki : k = i
    · rw [bneF (show (k : Int) = (i : Int) by omega), cond_false]
      exact hg (n - 1) _ (by omega) ⟨k + 1, b, W', rfl, by omega, hT'⟩
    rw [bneT (show (k : Int) ≠ (i : Int) by omega), cond_true]
    obtain ⟨W2, b2, h1, h2⟩ := send_ok (f := f) hT' (k := 1) (x1 := (i : Int)) (x2 := (k : Int)) (x3 := (nd N i).2.2.1) (x4 := (nd N i).2.2.2.1) (l := []) {
      from_ := by show 0 ≤ (i : Int) ∧ (i : Int) ≤ 4; omega
      to_ := by show 0 ≤ (k : Int) ∧ (k : Int) ≤ 4; omega
      ne := by show (i : Int) ≠ (k : Int); omega
      kind := .inl ⟨rfl, by
        show 0 ≤ (nd N i).2.2.1 ∧ (nd N i).2.2.1 ≤ (nd N 0).2.2.1
        by_cases h0 : i = 0
        · subst h0; have := (hn.root rfl).beacon; omega
        · exact (hn.leaf h0).beacon, by
        show 0 ≤ (nd N i).2.2.2.1 ∧ (nd N i).2.2.2.1 ≤ 4
        by_cases h0 : i = 0
        · subst h0; have := (hn.root rfl).level; omega
        · have := (hn.leaf h0).level; omega, rfl⟩ }
    rw [h1, Option.bind_some]
    cases b with
    | true => exact hg (n - 1) _ (by omega) ⟨k + 1, true, W2, rfl, by omega, h2⟩
    | false => exact hg (n - 1) _ (by omega) ⟨k + 1, b2, W2, rfl, by omega, h2⟩
  obtain ⟨r, h1, W', b, h2, h3⟩ := key
  exact ⟨W', b, by rw [h1, h2], h3⟩
theorem tell_ok (hT : NetT N L W P) {i : Nat} (hi : i < 5) (hf : 1000 < f) : ∃ W' b, zdo f ((N, L, W, P, ()), ((i : Int), ()), ()) = some ((N, L, W', P, ()), (b, ()), ()) ∧ NetT N L W' P := by
  have hN := hT.nodes
  have hn := hT.node i hi
  have run : ∀ r, zkA f N L W P (i : Int) = r → zdo f ((N, L, W, P, ()), ((i : Int), ()), ()) = r := fun r h => h
  unfold zkA at run
  have hset : N.set i ((nd N i).1, (nd N i).2.1, (nd N i).2.2.1, (nd N i).2.2.2.1, (nd N i).2.2.2.2.1, ()) = N := zd7 (d := N0d) (by omega)
  simp only [zz_eq, hN, cst5 hi, hi, le_cast, decide_true, cond_true, Int.toNat_natCast, zAQ hf hn.known.full, Option.bind_some, hset] at run
  by_cases hu : (nd N i).2.2.2.2.1 < 0
  · simp only [hu, decide_true, cond_true] at run
    exact ⟨W, false, run _ rfl, hT⟩
  simp only [hu, decide_false, cond_false] at run
  have h0 : i ≠ 0 := by rintro rfl; have := (hn.root rfl).up; omega
  have hl := hn.leaf h0
  have hup := hl.up; have hne := hl.ne
  obtain ⟨W2, b2, h1, h2⟩ := send_ok (f := f) hT (k := 2) (x1 := (i : Int)) (x2 := (nd N i).2.2.2.2.1) (x3 := 0) (x4 := 0) (l := (nd N i).2.1) {
    from_ := by show 0 ≤ (i : Int) ∧ (i : Int) ≤ 4; omega
    to_ := by show 0 ≤ (nd N i).2.2.2.2.1 ∧ (nd N i).2.2.2.2.1 ≤ 4; omega
    ne := by show (i : Int) ≠ (nd N i).2.2.2.2.1; omega
    kind := .inr ⟨rfl, rfl, rfl, hn.known⟩ }
  rw [h1] at run
  exact ⟨W2, b2, run _ rfl, h2⟩
end
end Go.Proofs.Ytljojacnjjgceaa.Den
namespace Go.Proofs.Ytljojacnjjgceaa.Den
open Go Go.RowKit
section
variable {f : Nat} {N : List NY} {L : List Bool} {W : List WY} {P : List (List (List Int))}
theorem Ext.ofBorn {N N' : List NY} (h : ∀ a, a < 5 → (nd N a).1 ≤ (nd N' a).1) : Ext N N' P P := ⟨h, fun a _ b _ _ => ⟨[], by simp⟩⟩
theorem zAR {N : List NY} {i : Nat} {x : NY} (hi : i < N.length) (hb : x.1 = (nd N i).1) (a : Nat) : (nd (N.set i x) a).1 = (nd N a).1 := by
  by_cases e : a = i
  · subst e
    show (List.getD (N.set a x) a N0d).1 = _
    rw [zM hi]; exact hb
  · show (List.getD (N.set i x) a N0d).1 = _
    rw [z3 (Ne.symm e)]
theorem zAS (hT : NetT N L W P) {x1 x2 x3 x4 : Int} {l : List EY} (hto : 0 ≤ x2 ∧ x2 ≤ 4) (hk : KnT N P l) (hf : 2000 < f) :
    ∃ N', zbx f ((N, L, W, P, ()), (2, x1, x2, x3, x4, l, ()), ()) = some ((N', L, W, P, ()), ()) ∧ NetT N' L W P ∧ (nd N' 0).2.2.1 = (nd N 0).2.2.1 := by
  obtain ⟨t, rfl, ht⟩ := nat_of hto
  have key : Ret (zbx f ((N, L, W, P, ()), (2, x1, (t : Int), x3, x4, l, ()), ())) fun r => ∃ N', r = ((N', L, W, P, ()), ()) ∧ NetT N' L W P ∧ (nd N' 0).2.2.1 = (nd N 0).2.2.1 := by
    show Ret (zdq f (iter (ziq f) f) N L W P 2 x1 (t : Int) x3 x4 l) _
    unfold zdq
    rw [beqT rfl, cond_true]
    refine Ret.loop (fun n v => ∃ (k : Nat) (N' : List NY), v = ((k : Int), (2 : Int), x1, (t : Int), x3, x4, l, N', L, W, P) ∧ k + n = l.length ∧ NetT N' L W P ∧ KnT N' P l ∧ (nd N' 0).2.2.1 = (nd N 0).2.2.1) ?_ f l.length _ ⟨0, N, rfl, by omega, hT, hk, rfl⟩ (by have := hk.len; omega)
    rintro n v g ⟨k, N', rfl, hkn, hT', hk', hb'⟩ hg
    show Ret (zkB f g _) _
    unfold zkB
    have hl5 := hk.len
    by_cases hkl : k < l.length
    rotate_left
    · simp only [zz_eq, show ¬ ((k : Int) < (l.length : Int)) by omega, decide_false, cond_false]
      exact Ret.ret ⟨N', rfl, hT', hb'⟩
    have hN := hT'.nodes
    simp only [zz_eq, lt_cast hkl, le_cast, decide_true, cond_true, Int.toNat_natCast, hN, cst5 ht, ht, w64_up (show k < 4294967296 by omega)]
    have hmem := zF E0d hkl
    by_cases hne : (List.getD l k E0d).1 = (t : Int)
    · rw [bneF hne, cond_false]
      exact hg (n - 1) _ (by omega) ⟨k + 1, N', rfl, by omega, hT', hk', hb'⟩
    rw [bneT hne, cond_true]
    have hnode := hT'.node t ht
    have hp := put1_eq f (nd N' t).2.1 (List.getD l k E0d).1 (List.getD l k E0d).2.1 (List.getD l k E0d).2.2.1 (flat (List.getD l k E0d).2.2.2.1) (by have := hnode.known.len; omega) (by omega)
    refine Ret.bind (P := fun y => y = ((nd N' t).2.1, (putGo (List.getD l k E0d) (nd N' t).2.1, ()), ())) ⟨_, hp, rfl⟩ fun y hy => ?_
    subst hy
    have hkp := hnode.known.put (hk'.1 _ hmem)
    refine hg (n - 1) _ (by omega) ⟨k + 1, _, rfl, by omega, ?_, ?_, ?_⟩
    · refine hT'.updN ht rfl (zrP hne _) hkp (fun h0 => ?_) fun h0 => ?_
      · subst h0
        have hr := hnode.root rfl
        exact ⟨⟨hr.level, hr.up, hr.beacon⟩, Int.le_refl _, hT'.beacon⟩
      · have hr := hnode.leaf h0
        exact ⟨hr.beacon, hr.level, hr.far, hr.up, hr.ne⟩
    · refine hk'.ext (Ext.ofBorn fun a _ => ?_)
      exact Int.le_of_eq (zAR (N := N') (i := t) (by omega) (by rfl) a).symm
    · rw [← hb']
      by_cases h0 : t = 0
      · subst h0
        show (List.getD (N'.set 0 _) 0 N0d).2.2.1 = _
        rw [zM (by omega)]
      · show (List.getD (N'.set t _) 0 N0d).2.2.1 = _
        rw [z3 h0]
  obtain ⟨r, h1, N', h2, h3, h4⟩ := key
  exact ⟨N', by rw [h1, h2], h3, h4⟩
theorem zAT (hT : NetT N L W P) {x1 x2 x3 x4 : Int} {l : List EY} (hfr : 0 ≤ x1 ∧ x1 ≤ 4) (hto : 0 ≤ x2 ∧ x2 ≤ 4) (hne : x1 ≠ x2) (hb : 0 ≤ x3 ∧ x3 ≤ (nd N 0).2.2.1) (hlv : 0 ≤ x4 ∧ x4 ≤ 4) :
    ∃ N', zbx f ((N, L, W, P, ()), (1, x1, x2, x3, x4, l, ()), ()) = some ((N', L, W, P, ()), ()) ∧ NetT N' L W P ∧ (nd N' 0).2.2.1 = (nd N 0).2.2.1 := by
  obtain ⟨t, rfl, ht⟩ := nat_of hto
  have hN := hT.nodes
  have hn := hT.node t ht
  have key : Ret (zbx f ((N, L, W, P, ()), (1, x1, (t : Int), x3, x4, l, ()), ())) fun r => ∃ N', r = ((N', L, W, P, ()), ()) ∧ NetT N' L W P ∧ (nd N' 0).2.2.1 = (nd N 0).2.2.1 := by
    show Ret (zdq f (iter (ziq f) f) N L W P 1 x1 (t : Int) x3 x4 l) _
    unfold zdq
    rw [beqF (by decide), cond_false]
    have hset : N.set t ((nd N t).1, (nd N t).2.1, (nd N t).2.2.1, (nd N t).2.2.2.1, (nd N t).2.2.2.2.1, ()) = N := zd7 (d := N0d) (by omega)
    simp only [zz_eq, hN, cst5 ht, ht, le_cast, decide_true, cond_true, Int.toNat_natCast, hset, w64_id (x := x4 + 1) (by omega) (by omega)]
    have same : Ret (some ((N, L, W, P, ()), ())) fun r => ∃ N', r = ((N', L, W, P, ()), ()) ∧ NetT N' L W P ∧ (nd N' 0).2.2.1 = (nd N 0).2.2.1 := Ret.ret ⟨N, rfl, hT, rfl⟩
    by_cases h0 : t = 0
    · subst h0
      rw [beqT (by rfl), cond_true]
      exact same
    rw [beqF (by omega), cond_false]
    have hl := hn.leaf h0
    have upd : ∀ up : Int, (up = -1 ↔ x4 + 1 = 5) → (-1 ≤ up ∧ up ≤ 4) → up ≠ (t : Int) → Ret (some ((N.set t ((nd N t).1, (nd N t).2.1, x3, x4 + 1, up, ()), L, W, P, ()), ())) fun r => ∃ N', r = ((N', L, W, P, ()), ()) ∧ NetT N' L W P ∧ (nd N' 0).2.2.1 = (nd N 0).2.2.1 := fun up h1 h2 h3 => by
      refine Ret.ret ⟨_, rfl, hT.updN ht rfl rfl hn.known (fun h => absurd h h0) fun _ => ⟨hb, by show 1 ≤ x4 + 1 ∧ x4 + 1 ≤ 5; omega, h1, h2, h3⟩, ?_⟩
      show (List.getD (N.set t _) 0 N0d).2.2.1 = _
      rw [z3 h0]
    by_cases c5 : x4 + 1 ≥ 5
    · simp only [c5, decide_true, cond_true]
      refine Ret.cond (fun _ => same) fun _ => Ret.cond (fun _ => ?_) fun _ => Ret.cond (fun _ => Ret.cond (fun _ => ?_) fun _ => same) fun _ => same
      · exact upd (-1) (by omega) (by omega) (by omega)
      · exact upd (-1) (by omega) (by omega) (by omega)
    · simp only [c5, decide_false, cond_false]
      refine Ret.cond (fun _ => ?_) fun _ => Ret.cond (fun _ => Ret.cond (fun _ => ?_) fun _ => same) fun _ => same
      · exact upd x1 (by omega) (by omega) (by omega)
      · exact upd x1 (by omega) (by omega) (by omega)
  obtain ⟨r, h1, N', h2, h3, h4⟩ := key
  exact ⟨N', by rw [h1, h2], h3, h4⟩
theorem hear_ok (hT : NetT N L W P) {w : WY} (hw : WordT N P w) (hf : 2000 < f) :
    ∃ N', zbx f ((N, L, W, P, ()), (w.1, w.2.1, w.2.2.1, w.2.2.2.1, w.2.2.2.2.1, w.2.2.2.2.2.1, ()), ()) = some ((N', L, W, P, ()), ()) ∧ NetT N' L W P ∧ (nd N' 0).2.2.1 = (nd N 0).2.2.1 := by
  obtain ⟨k, x1, x2, x3, x4, l, ⟨⟩⟩ := w
  rcases hw.kind with ⟨h1, h2, h3, h4⟩ | ⟨h1, h2, h3, h4⟩ <;> simp only at h1 <;> subst h1
  · exact zAT hT hw.from_ hw.to_ hw.ne h2 h3
  · exact zAS hT hw.to_ h4 hf
theorem take_ok (hT : NetT N L W P) (x0 : Int) (heard kept : Bool) (hf : 2000 < f) :
    ∃ N' W' b, zby f ((N, L, W, P, ()), (x0, ()), (heard, ()), (kept, ()), ()) = some ((N', L, W', P, ()), (b, ()), ()) ∧ NetT N' L W' P ∧ (nd N' 0).2.2.1 = (nd N 0).2.2.1 ∧ (0 ≤ x0 ∧ x0 < (W.length : Int) → kept = false → W'.length + 1 = W.length) := by
  have h24 := hT.words
  have run : ∀ r, zkH f N L W P x0 heard kept = r → zby f ((N, L, W, P, ()), (x0, ()), (heard, ()), (kept, ()), ()) = r := fun r h => h
  unfold zkH at run
  simp only [zz_eq, in_dcd, Option.bind_some, w64_id (x := (W.length : Int) - 1) (by omega) (by omega)] at run
  by_cases hx : 0 ≤ x0 ∧ x0 ≤ (W.length : Int) - 1
  rotate_left
  · rw [dcd_neg hx] at run
    exact ⟨N, W, false, run _ rfl, hT, rfl, fun h => by omega⟩
  obtain ⟨i, rfl⟩ : ∃ i : Nat, x0 = (i : Int) := ⟨x0.toNat, by omega⟩
  have hi : i < W.length := by omega
  rw [dcd_pos hx] at run
  have cut : ∀ (V : List WY), V.length = W.length → (0 + ((V.drop 0).take (Int.toNat (i : Int) - 0)).length < LIM) ∧ (([] ++ (V.drop 0).take (Int.toNat (i : Int) - 0)).length + ((V.drop (Int.toNat ((i : Int) + 1))).take (V.length - Int.toNat ((i : Int) + 1))).length < LIM) ∧
      ([] ++ (V.drop 0).take (Int.toNat (i : Int) - 0) ++ (V.drop (Int.toNat ((i : Int) + 1))).take (V.length - Int.toNat ((i : Int) + 1))) = V.take i ++ V.drop (i + 1) := fun V hV => by
    have e : Int.toNat ((i : Int) + 1) = i + 1 := by omega
    have e2 : (V.drop (i + 1)).take (V.length - (i + 1)) = V.drop (i + 1) := List.take_of_length_le (by rw [List.length_drop]; omega)
    refine ⟨?_, ?_, ?_⟩
    · simp only [List.length_take, LIM]; omega
    · simp only [List.length_append, List.length_take, List.length_nil, LIM]; omega
    · rw [e, e2]; simp
  have w1 : w64 ((i : Int) + 1) = (i : Int) + 1 := w64_id (by omega) (by omega)
  simp only [Bool.not_true, cond_false, le_cast, lt_cast hi, hi, decide_true, cond_true, Int.toNat_natCast, w1] at run
  cases heard with
  | false =>
    simp only [cond_false] at run
    cases kept with
    | true => exact ⟨N, W, true, run _ rfl, hT, rfl, fun _ h => by cases h⟩
    | false =>
      obtain ⟨c1, c2, c3⟩ := cut W rfl
      simp only [Int.toNat_natCast] at c1 c2 c3
      simp only [Bool.not_false, cond_true, show (i : Int) ≤ (W.length : Int) by omega, c1, show (0 : Int) ≤ (i : Int) + 1 by omega, show (i : Int) + 1 ≤ (W.length : Int) by omega, c2, c3, decide_true] at run
      refine ⟨N, _, true, run _ rfl, hT.wordsSub (fun w hw => ?_) ?_, rfl, fun _ _ => ?_⟩
      · rcases List.mem_append.1 hw with hw | hw
        · exact List.mem_of_mem_take hw
        · exact List.mem_of_mem_drop hw
      · rw [List.length_append, List.length_take, List.length_drop]; omega
      · rw [List.length_append, List.length_take, List.length_drop]; omega
  | true =>
    simp only [cond_true] at run
    have hw := hT.word _ (zF W0d hi)
    rw [zAP (by omega) hw.full, Option.bind_some] at run
    obtain ⟨N', h1, h2, h3⟩ := hear_ok (f := f) hT hw hf
    rw [h1, Option.bind_some] at run
    cases kept with
    | true => exact ⟨N', W, true, run _ rfl, h2, h3, fun _ h => by cases h⟩
    | false =>
      obtain ⟨c1, c2, c3⟩ := cut W rfl
      simp only [Int.toNat_natCast] at c1 c2 c3
      simp only [Bool.not_false, cond_true, show (i : Int) ≤ (W.length : Int) by omega, c1, show (0 : Int) ≤ (i : Int) + 1 by omega, show (i : Int) + 1 ≤ (W.length : Int) by omega, c2, c3, decide_true] at run
      refine ⟨N', _, true, run _ rfl, h2.wordsSub (fun w hw => ?_) ?_, h3, fun _ _ => ?_⟩
      · rcases List.mem_append.1 hw with hw | hw
        · exact List.mem_of_mem_take hw
        · exact List.mem_of_mem_drop hw
      · rw [List.length_append, List.length_take, List.length_drop]; omega
      · rw [List.length_append, List.length_take, List.length_drop]; omega
theorem zAU (hT : NetT N L W P) {a b : Nat} (ha : a < 5) (hb : b < 5) (v : Bool) : ∃ L' c, zb1 f ((N, L, W, P, ()), ((a : Int), ()), ((b : Int), ()), (v, ()), ()) = some ((N, L', W, P, ()), (c, ()), ()) ∧ NetT N L' W P := by
  have run : ∀ r, zkD f N L W P (a : Int) (b : Int) v = r → zb1 f ((N, L, W, P, ()), ((a : Int), ()), ((b : Int), ()), (v, ()), ()) = r := fun r h => h
  unfold zkD at run
  by_cases hab : a = b
  · subst hab
    rw [beqT rfl] at run
    exact ⟨L, false, run _ rfl, hT⟩
  rw [beqF (by omega), cond_false] at run
  simp only [link_eq f ha hb, link_eq f hb ha, Option.bind_some, zz_eq, List.length_set, hT.links, idx_lt ha hb, idx_lt hb ha, show a * 5 + b < 25 by omega, show b * 5 + a < 25 by omega, le_cast, decide_true, cond_true, Int.toNat_natCast] at run
  cases hl : List.getD L (a * 5 + b) false == v with
  | true =>
    rw [hl] at run
    exact ⟨L, false, run _ rfl, hT⟩
  | false =>
    rw [hl] at run
    exact ⟨_, true, run _ rfl, hT.linkSet ha hb hab v⟩
end
end Go.Proofs.Ytljojacnjjgceaa.Den
namespace Go.Proofs.Ytljojacnjjgceaa.Den
open Go Go.RowKit
section
variable {f : Nat} {N : List NY} {L : List Bool} {W : List WY} {P : List (List (List Int))}
theorem zAV (f : Nat) (s : SumD) (t : Int) {n : Nat} (hs : SmallS s n) (hn : n < 1000000) (hnf : n + 1 < f) (hf : 128 < f) :
    zaL f ((s.1, s.2.1, s.2.2.1, s.2.2.2.1, s.2.2.2.2.1, s.2.2.2.2.2.1, s.2.2.2.2.2.2.1, ()), (t, ()), ()) = some ((sumAdd s t).1, ((sumAdd s t).2, ()), ()) := zq9 f s t hs hn hnf hf
theorem zAW (f : Nat) (l : List EY) (n b c : Int) (s : SumD) (hl : l.length ≤ 1000) (hf : 1000 < f) :
    zfr f ((l, ()), (n, b, c, s.1, s.2.1, s.2.2.1, s.2.2.2.1, s.2.2.2.2.1, s.2.2.2.2.2.1, s.2.2.2.2.2.2.1, ()), ()) = some ((putGo (n, b, c, deep s, ()) l, ()), ()) := put0_eq f l n b c s hl hf
theorem zAX (hT : NetT N L W P) {i : Nat} (hi : i < 5) (t : Int) (hf : 2000 < f) :
    ∃ N' P' c, zf1 f ((N, L, W, P, ()), ((i : Int), ()), (t, ()), ()) = some ((N', L, W, P', ()), (c, ()), ()) ∧ NetT N' L W P' ∧ (nd N' 0).2.2.1 = (nd N 0).2.2.1 := by
  have hN := hT.nodes; have hPl := hT.pasts
  have hn := hT.node i hi
  have hp := hT.past i hi
  have hb := hT.born i hi
  obtain ⟨bb, hbb⟩ : ∃ bb : Nat, (nd N i).1 = (bb : Int) := ⟨(nd N i).1.toNat, by omega⟩
  have hlen : (List.getD P i []).length = bb + 1 := by have := hp.len; omega
  have run : ∀ r, zkF f N L W P (i : Int) t = r → zf1 f ((N, L, W, P, ()), ((i : Int), ()), (t, ()), ()) = r := fun r h => h
  unfold zkF at run
  simp only [zz_eq, hN, hPl, hi, cst5 hi, le_cast, decide_true, cond_true, Int.toNat_natCast, zcc, Option.bind_some] at run
  cases ht : thingB t with
  | false =>
    rw [ht] at run
    exact ⟨N, P, false, run _ rfl, hT, rfl⟩
  | true =>
  rw [ht] at run
  have hrow := pst_row hp (b := bb) (by omega)
  have hb' : (List.getD N i (0, ([], (0, (0, (0, ())))))).1 = (bb : Int) := hbb
  simp only [Bool.not_true, cond_false, hb', hlen, le_cast, show ((bb : Nat) : Int) < ((bb + 1 : Nat) : Int) by omega, show bb < bb + 1 by omega, decide_true, cond_true, Int.toNat_natCast] at run
  obtain ⟨row, hr0⟩ : ∃ row, List.getD (List.getD P i []) bb [] = row := ⟨_, rfl⟩
  have hpr : pst P i bb = row := hr0
  rw [hpr] at hrow
  simp only [hr0] at run
  by_cases h100 : row.length ≥ 100
  · simp only [show ((row.length : Nat) : Int) ≥ 100 by omega, decide_true, cond_true] at run
    refine ⟨N, P, false, run _ ?_, hT, rfl⟩
    have e1 : (List.getD P i []).set bb row = List.getD P i [] := by rw [← hr0]; exact zd7 (by omega)
    have e2 : P.set i (List.getD P i []) = P := zd7 (by omega)
    rw [e1, e2]
  simp only [show ¬ ((row.length : Nat) : Int) ≥ 100 by omega, decide_false, cond_false] at run
  obtain ⟨e, ho, he1, he2⟩ := hn.own
  have h5 := hn.known.len
  obtain ⟨hmem, hei⟩ := own_mem ho
  have hent := hn.known.1 e hmem
  have hoe := own_eq (f := f) (nd N i) (i : Int) (by omega) (by omega)
  rw [hbb, ho] at hoe
  simp only [Option.getD_some, Option.isSome_some] at hoe
  rw [hoe, Option.bind_some] at run
  have hnum : e.2.2.1 = ((row.length : Nat) : Int) := by rw [he2, hbb, Int.toNat_natCast, hpr]
  have hsum : flat e.2.2.2.1 = (sumOf row).1 := by
    have := hent.sum
    rw [hei, he1, hbb, Int.toNat_natCast, Int.toNat_natCast, hpr, hnum, Int.toNat_natCast, List.take_length] at this
    exact this.symm
  simp only at run
  rw [hsum] at run
  rw [zAV f (sumOf row).1 t (zlT row) (by omega) (by omega) (by omega), zrK hrow.1 ht (by omega), Option.bind_some] at run
  simp only [hnum, w64_id (x := ((row.length : Nat) : Int) + 1) (by omega) (by omega), show 0 + row.length < LIM by simp only [LIM]; omega, List.nil_append, show row.length + 1 < LIM by simp only [LIM]; omega, decide_true, cond_true] at run
  rw [zAW f (nd N i).2.1 (i : Int) (bb : Int) _ _ (by omega) (by omega), Option.bind_some] at run
  have hP1 : List.getD ((List.getD P i []).set bb (row ++ [t])) bb [] = row ++ [t] := zM (by omega)
  have hT' : NetT (N.set i ((bb : Int), putGo ((i : Int), (bb : Int), ((row.length : Nat) : Int) + 1, deep (sumOf (row ++ [t])).1, ()) (nd N i).2.1, (nd N i).2.2.1, (nd N i).2.2.2.1, (nd N i).2.2.2.2.1, ())) L W (P.set i ((List.getD P i []).set bb (row ++ [t]))) := by
    refine hT.upd hi (by rw [hbb]; exact ⟨Int.le_refl _, by show (bb : Int) ≤ 20; omega⟩) (by rw [List.length_set, hlen]; show ((bb + 1 : Nat) : Int) = (bb : Int) + 1; omega) ?_ ?_ ?_ ?_ ?_ ?_ ?_ ?_
    · rw [z3 (show bb ≠ 0 by omega)]; exact hp.zero
    · intro r hr
      rcases List.mem_or_eq_of_mem_set hr with hr | rfl
      · exact hp.rows r hr
      · refine ⟨fun x hx => ?_, by rw [List.length_append, List.length_singleton]; omega⟩
        rcases List.mem_append.1 hx with hx | hx
        · exact hrow.1 x hx
        · rw [List.mem_singleton.1 hx]; exact ht
    · intro b hb1 hb2
      by_cases hbe : bb = b
      · subst hbe; exact ⟨[t], by rw [hP1, hpr]⟩
      · exact ⟨[], by rw [z3 hbe]; simp⟩
    · refine ⟨((i : Int), (bb : Int), ((row.length : Nat) : Int) + 1, deep (sumOf (row ++ [t])).1, ()), (zrQ (KnT.iff.1 hn.known).2).trans ?_, rfl, ?_⟩
      · show some (match own (nd N i).2.1 (i : Int) with | some x => _ | none => _) = _
        rw [ho]
        show some (cond (dcd (Newer _ e)) _ e) = _
        rw [dcd_pos (.inr ⟨by rw [he1, hbb], by rw [hnum]; show ((row.length : Nat) : Int) + 1 > _; omega⟩), cond_true]
      · show ((row.length : Nat) : Int) + 1 = ((List.getD ((List.getD P i []).set bb (row ++ [t])) (Int.toNat (bb : Int)) []).length : Int)
        rw [Int.toNat_natCast, hP1, List.length_append, List.length_singleton]; omega
    · intro x hx
      rcases put_mem hx with rfl | hx
      · refine .inr ?_
        have e1 : pst (P.set i ((List.getD P i []).set bb (row ++ [t]))) i bb = row ++ [t] := by
          simp only [pst]
          rw [zM (show i < P.length by omega), hP1]
        have e2 : (Int.toNat (((row.length : Nat) : Int) + 1)) = (row ++ [t]).length := by rw [List.length_append, List.length_singleton]; omega
        have hfine : (sumOf (row ++ [t])).2 = true := by
          have := zrK hrow.1 ht (by omega)
          refine zl7 (fun x hx => ?_) (by rw [List.length_append, List.length_singleton]; omega)
          rcases List.mem_append.1 hx with hx | hx
          · exact hrow.1 x hx
          · rw [List.mem_singleton.1 hx]; exact ht
        refine ⟨by show 0 ≤ (i : Int) ∧ (i : Int) ≤ 4; omega, ?_, ?_, ?_, ?_⟩
        · show 1 ≤ (bb : Int) ∧ (bb : Int) ≤ (nd (N.set i _) (Int.toNat (i : Int))).1
          rw [Int.toNat_natCast]
          refine ⟨by omega, ?_⟩
          show (bb : Int) ≤ (List.getD (N.set i _) i N0d).1
          rw [zM (by omega)]
          exact Int.le_refl _
        · show 0 ≤ ((row.length : Nat) : Int) + 1 ∧ ((row.length : Nat) : Int) + 1 ≤ ((pst _ (Int.toNat (i : Int)) (Int.toNat (bb : Int))).length : Int)
          rw [Int.toNat_natCast, Int.toNat_natCast, e1, List.length_append, List.length_singleton]; omega
        · show (sumOf ((pst _ (Int.toNat (i : Int)) (Int.toNat (bb : Int))).take (Int.toNat (((row.length : Nat) : Int) + 1)))).2 = true
          rw [Int.toNat_natCast, Int.toNat_natCast, e1, e2, List.take_length]; exact hfine
        · show (sumOf ((pst _ (Int.toNat (i : Int)) (Int.toNat (bb : Int))).take (Int.toNat (((row.length : Nat) : Int) + 1)))).1 = flat (deep (sumOf (row ++ [t])).1)
          rw [Int.toNat_natCast, Int.toNat_natCast, e1, e2, List.take_length, zAL]
      · exact .inl (hn.known.1 x hx)
    · exact put_asc (by show (-1 : Int) < (i : Int); omega) (KnT.iff.1 hn.known).2
    · intro h0
      subst h0
      have := hn.root rfl
      exact ⟨⟨this.level, this.up, this.beacon⟩, Int.le_refl _, hT.beacon⟩
    · intro h0
      have := hn.leaf h0
      exact ⟨this.beacon, this.level, this.far, this.up, this.ne⟩
  refine ⟨_, _, true, run _ rfl, hT', ?_⟩
  by_cases h0 : i = 0
  · subst h0
    show (List.getD (N.set 0 _) 0 N0d).2.2.1 = _
    rw [zM (by omega)]
  · show (List.getD (N.set i _) 0 N0d).2.2.1 = _
    rw [z3 h0]
theorem zrT (f : Nat) (i : Nat) (b : Int) : zfv f (((i : Int), ()), (b, ()), ()) = some ((b, [((i : Int), b, 0, deep sumNew, ())], 0, (if i = 0 then 0 else 5), -1, ()), ()) := by
  show zkf f (i : Int) b = _
  unfold zkf
  by_cases h : i = 0
  · subst h; rw [beqT (show ((0 : Nat) : Int) = 0 from rfl), if_pos rfl]; rfl
  · rw [beqF (by omega), if_neg h]; rfl
theorem zAY (hT : NetT N L W P) {i : Nat} (hi : i < 5) (hf : 2000 < f) :
    ∃ N' P' c, zf4 f ((N, L, W, P, ()), ((i : Int), ()), ()) = some ((N', L, W, P', ()), (c, ()), ()) ∧ NetT N' L W P' ∧ (nd N' 0).2.2.1 = (nd N 0).2.2.1 := by
  have hN := hT.nodes; have hPl := hT.pasts
  have hn := hT.node i hi
  have hp := hT.past i hi
  have hb := hT.born i hi
  obtain ⟨bb, hbb⟩ : ∃ bb : Nat, (nd N i).1 = (bb : Int) := ⟨(nd N i).1.toNat, by omega⟩
  have hlen : (List.getD P i []).length = bb + 1 := by have := hp.len; omega
  have run : ∀ r, zkI f N L W P (i : Int) = r → zf4 f ((N, L, W, P, ()), ((i : Int), ()), ()) = r := fun r h => h
  unfold zkI at run
  have hb' : (List.getD N i (0, ([], (0, (0, (0, ())))))).1 = (bb : Int) := hbb
  simp only [zz_eq, hN, hPl, hi, cst5 hi, le_cast, decide_true, cond_true, Int.toNat_natCast, hb', w64_id (x := (bb : Int) + 1) (by omega) (by omega), zrT, Option.bind_some] at run
  by_cases h20 : (bb : Int) + 1 > 20
  · simp only [h20, decide_true, cond_true] at run
    exact ⟨N, P, false, run _ rfl, hT, rfl⟩
  simp only [h20, decide_false, cond_false, hlen, show 0 + (bb + 1) < LIM by simp only [LIM]; omega, List.nil_append, show bb + 1 + 1 < LIM by simp only [LIM]; omega, show (0 : Int) < ((5 : Nat) : Int) by omega, Int.toNat_zero, show 0 < 5 by omega, decide_true, cond_true] at run
  have hlast : List.getD (List.getD P i [] ++ [[]]) (bb + 1) [] = [] := by
    rw [List.getD_eq_getElem?_getD (l := List.getD P i [] ++ [[]]), List.getElem?_append_right (by omega), hlen, Nat.sub_self]; rfl
  have hfst : ∀ b : Nat, b ≤ bb → List.getD (List.getD P i [] ++ [[]]) b [] = pst P i b := fun b hb => by
    show _ = List.getD (List.getD P i []) b []
    rw [List.getD_eq_getElem?_getD (l := List.getD P i [] ++ [[]]), List.getD_eq_getElem?_getD (l := List.getD P i []), List.getElem?_append_left (by omega)]
  have fin : ∀ x : NY, x.1 = (bb : Int) + 1 → x.2.1 = [((i : Int), (bb : Int) + 1, 0, deep sumNew, ())] → (i = 0 → RootT x ∧ (nd N 0).2.2.1 ≤ x.2.2.1 ∧ x.2.2.1 ≤ 1000) → (i ≠ 0 → LeafT (nd N 0).2.2.1 i x) →
      NetT (N.set i x) L W (P.set i (List.getD P i [] ++ [[]])) := fun x h1 h2 h3 h4 => by
    refine hT.upd hi (by rw [h1, hbb]; omega) (by rw [h1, List.length_append, hlen]; show ((bb + 1 + 1 : Nat) : Int) = _; omega) ?_ ?_ ?_ ?_ ?_ ?_ h3 h4
    · rw [hfst 0 (by omega)]; exact hp.zero
    · intro r hr
      rcases List.mem_append.1 hr with hr | hr
      · exact hp.rows r hr
      · rw [List.mem_singleton.1 hr]; exact ⟨fun t ht => (by cases ht), by simp⟩
    · intro b hb1 hb2
      exact ⟨[], by rw [hfst b (by omega)]; simp⟩
    · refine ⟨((i : Int), (bb : Int) + 1, 0, deep sumNew, ()), by rw [h2, zL, beqT rfl]; rfl, h1.symm, ?_⟩
      rw [h1, show Int.toNat ((bb : Int) + 1) = bb + 1 by omega, hlast]; rfl
    · intro e he
      rw [h2] at he
      rw [List.mem_singleton.1 he]
      refine .inr ?_
      have e1 : pst (P.set i (List.getD P i [] ++ [[]])) i (bb + 1) = [] := by
        simp only [pst]
        rw [zM (show i < P.length by omega), hlast]
      have e0 : pst (P.set i (List.getD P i [] ++ [[]])) (Int.toNat (i : Int)) (Int.toNat ((bb : Int) + 1)) = [] := by
        rw [Int.toNat_natCast, show Int.toNat ((bb : Int) + 1) = bb + 1 by omega, e1]
      refine ⟨by show 0 ≤ (i : Int) ∧ (i : Int) ≤ 4; omega, ?_, ?_, ?_, ?_⟩
      · show 1 ≤ (bb : Int) + 1 ∧ (bb : Int) + 1 ≤ (nd (N.set i x) (Int.toNat (i : Int))).1
        rw [Int.toNat_natCast]
        refine ⟨by omega, ?_⟩
        show (bb : Int) + 1 ≤ (List.getD (N.set i x) i N0d).1
        rw [zM (by omega), h1]; omega
      · show 0 ≤ (0 : Int) ∧ (0 : Int) ≤ ((pst _ (Int.toNat (i : Int)) (Int.toNat ((bb : Int) + 1))).length : Int)
        rw [e0]; decide
      · show (sumOf ((pst _ (Int.toNat (i : Int)) (Int.toNat ((bb : Int) + 1))).take (Int.toNat 0))).2 = true
        rw [e0]; rfl
      · show (sumOf ((pst _ (Int.toNat (i : Int)) (Int.toNat ((bb : Int) + 1))).take (Int.toNat 0))).1 = _
        rw [e0]; rfl
    · rw [h2]; exact ⟨by show (-1 : Int) < (i : Int); omega, trivial⟩
  by_cases h0 : i = 0
  · subst h0
    rw [beqT (show ((0 : Nat) : Int) = 0 from rfl), cond_true] at run
    refine ⟨_, _, true, run _ rfl, fin _ rfl rfl (fun _ => ⟨⟨rfl, rfl, (hn.root rfl).beacon⟩, Int.le_refl _, hT.beacon⟩) fun h => absurd rfl h, ?_⟩
    show (List.getD (N.set 0 _) 0 N0d).2.2.1 = _
    rw [zM (by omega)]
  · rw [beqF (by omega), cond_false] at run
    refine ⟨_, _, true, run _ rfl, fin _ rfl rfl (fun h => absurd h h0) fun _ => ?_, ?_⟩
    · have hr := (hT.node 0 (by omega)).root rfl
      simp only [if_neg h0]
      exact ⟨⟨Int.le_refl _, hr.beacon⟩, by show (1 : Int) ≤ 5 ∧ (5 : Int) ≤ 5; omega, by show (-1 : Int) = -1 ↔ (5 : Int) = 5; simp, by show (-1 : Int) ≤ -1 ∧ (-1 : Int) ≤ 4; omega, by show (-1 : Int) ≠ (i : Int); omega⟩
    · show (List.getD (N.set i _) 0 N0d).2.2.1 = _
      rw [z3 h0]
end
end Go.Proofs.Ytljojacnjjgceaa.Den
