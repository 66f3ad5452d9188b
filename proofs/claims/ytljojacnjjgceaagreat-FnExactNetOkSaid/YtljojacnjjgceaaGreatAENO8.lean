/- Part 8 of the texts behind the row. -/
import Derived.Test.YtljojacnjjgceaaGreatAENO7
set_option linter.unusedVariables false
set_option linter.unusedSimpArgs false
namespace Go.Proofs.YtljojacnjjgceaaGreat.Den
open Go Go.RowKit
def zah (Z:Nat):Tab:=Tab.of [] []
def zs7:List Norm:=[⟨[9,0],[],[],[]⟩,⟨[12,0,3,9],[],[],[]⟩]
noncomputable def zY:C:=irOf Tryz.prog Tryz.f54 [] zs7 []
def zaM:List (Nat × Option (Nat × Bool)):=[(2,none)]
abbrev zCt:Sx:=.grp (.dat (Kd.list Kd.bool) .nil) .nil
abbrev zCu:Sx:=.grp (.dat Kd.bool .nil) .nil
abbrev zZ:LF:=.pure zCt zCu true
abbrev zbu:=(Int) × (List Bool)
abbrev zdM:=(Int) × (List Bool) × (Int) × (Int)
def zav (v:zbu):Env × Heap:=([(9,SV.int .i64 v.1),(0,SV.es Kd.bool v.2)],[])
def zdN (v:zdM):Env × Heap:=([(12,SV.int .i64 v.1),(0,SV.es Kd.bool v.2.1),(3,SV.int .i64 v.2.2.1),(9,SV.int .i64 v.2.2.2)],[])
def zdO (Z:Nat) (g0:zbu → Option ((Bool × Unit) × Unit)) (g1:zdM → Option ((Bool × Unit) × Unit)) (v:zdM):Option ((Bool × Unit) × Unit) :=
 cond (decide (v.1 < (5:Int)))
 (tst (decide (0 ≤ w64 (w64 (v.2.2.1 * (5:Int)) + v.1))) <|
 tst (decide (w64 (w64 (v.2.2.1 * (5:Int)) + v.1) < (zz (List.length v.2.1)))) <|
 tst (decide (0 ≤ w64 (w64 (v.1 * (5:Int)) + v.2.2.1))) <|
 tst (decide (w64 (w64 (v.1 * (5:Int)) + v.2.2.1) < (zz (List.length v.2.1)))) <|
 cond (!List.getD v.2.1 (Int.toNat (w64 (w64 (v.2.2.1 * (5:Int)) + v.1))) false == List.getD v.2.1 (Int.toNat (w64 (w64 (v.1 * (5:Int)) + v.2.2.1))) false)
 (some (((false,()),())))
 (cond (List.getD v.2.1 (Int.toNat (w64 (w64 (v.2.2.1 * (5:Int)) + v.1))) false)
 (cond (v.2.2.1 == v.1)
 (some (((false,()),())))
 (g1 (w64 (v.1 + (1:Int)),v.2.1,v.2.2.1,v.2.2.2)))
 (g1 (w64 (v.1 + (1:Int)),v.2.1,v.2.2.1,v.2.2.2))))
 (g0 (w64 (v.2.2.2 + (1:Int)),v.2.1))
def zot (Z:Nat) (g0:zbu → Option ((Bool × Unit) × Unit)) (g1:zdM → Option ((Bool × Unit) × Unit)):zdM → Option ((Bool × Unit) × Unit):=zdO Z g0 g1
theorem zCv (Z:Nat) (G):zY.lp (zah Z) 0 Z G (endX zaM zZ) 1 zdN = iter (zot Z (fun v => G 0 (zav v).1 (zav v).2)) Z:=C.lp_iter fun g v =>
 (show run (zah Z) 0 Z (zY.bdAt 1) (zdN v).1 (zdN v).2 (loopK 0 (zY.nmAt 1) g (zY.contAt (zah Z) 0 Z G 0 1 (endX zaM zZ))) = zdO Z (fun v => G 0 (zav v).1 (zav v).2) (fun v => g (zdN v).1 (zdN v).2) v by kernel_rfl)
def zdP (Z:Nat) (X1:zdM → Option ((Bool × Unit) × Unit)) (g0:zbu → Option ((Bool × Unit) × Unit)) (v:zbu):Option ((Bool × Unit) × Unit) :=
 cond (decide (v.1 < (5:Int)))
 (X1 ((0:Int),v.2,v.1,v.1))
 (some (((true,()),())))
def zkl (Z:Nat) (g0:zbu → Option ((Bool × Unit) × Unit)):zbu → Option ((Bool × Unit) × Unit):=zdP Z (iter (zot Z g0) Z) g0
theorem zCw (Z:Nat) (G):zY.lp (zah Z) 0 Z G (endX zaM zZ) 0 zav = iter (zkl Z) Z:=C.lp_iter fun g v =>
 (show run (zah Z) 0 Z (zY.bdAt 0) (zav v).1 (zav v).2 (loopK 0 (zY.nmAt 0) g (zY.contAt (zah Z) 0 Z G 0 0 (endX zaM zZ))) = zdP Z (zY.lp (zah Z) 0 Z (fun m => bif Nat.beq m 0 then g else G m) (endX zaM zZ) 1 zdN) (fun v => g (zav v).1 (zav v).2) v by kernel_rfl).trans (by rw [zCv]; rfl)
def zkm (Z:Nat) (X0:zbu → Option ((Bool × Unit) × Unit)) (x0:List Bool):Option ((Bool × Unit) × Unit) :=
 cond ((zz (List.length x0)) != (25:Int))
 (some (((false,()),())))
 (X0 ((0:Int),x0))
def zkn (Z:Nat) (z:(((List Bool) × Unit) × Unit)):Option ((Bool × Unit) × Unit):=zkm Z (iter (zkl Z) Z) z.1.1
theorem zCx (Z:Nat) (xa:zZ.rt.T) (xd:zZ.D.T):zZ.go (zah Z) Z zY zaM xa xd = zkn Z (zZ.xb (xa,xd)) :=
 (show zZ.go (zah Z) Z zY zaM xa xd = zkm Z (zY.lp (zah Z) 0 Z (fun _ _ _ => none) (endX zaM zZ) 0 zav) xd.1.1 by kernel_rfl).trans (by rw [zCw]; rfl)
abbrev zou (Z:Nat):LE:=⟨zZ,zkn Z⟩
theorem zCy (Z:Nat):EntryOK Tryz.prog 54 (zou Z).te:=okF (T:=zah Z) (fn:=Tryz.f54) (le:=zou Z) (frz:=[]) (ann:=zs7) (cuts:=[]) (rv:=zaM) (TabOK.of (entNil) (methNil)) mixed (by kernel_rfl) (by kernel_rfl) (by kernel_rfl) (fun _ => rfl) (fun _ => rfl) (fun xa xd y h => ⟨Z,(zCx Z xa xd).trans h⟩)
def zai (Z:Nat):Tab:=Tab.of [(87,(zrY Z).te)] []
def zs8:List Norm:=[⟨[31,30,29],[],[],[]⟩,⟨[40,39,38,31,30,29],[],[],[]⟩]
noncomputable def z5:C:=irOf Tryz.prog Tryz.f55 [] zs8 []
def zaN:List (Nat × Option (Nat × Bool)):=[(4,none)]
abbrev zCz:Sx:=.grp (.dat (Kd.list (Kd.list I6)) .nil) (.grp (.dat I6 .nil) .nil)
abbrev zCA:Sx:=.grp (.dat Kd.bool .nil) .nil
abbrev z6:LF:=.pure zCz zCA true
abbrev zbv:=(Int) × (Int) × (List (List Int))
abbrev zdQ:=(Int) × (Int) × (List Int) × (Int) × (Int) × (List (List Int))
def zaw (v:zbv):Env × Heap:=([(31,SV.int .i64 v.1),(30,SV.int .i64 v.2.1),(29,SV.es (Kd.list I6) v.2.2)],[])
def zdR (v:zdQ):Env × Heap:=([(40,SV.int .i64 v.1),(39,SV.int .i64 v.2.1),(38,SV.es I6 v.2.2.1),(31,SV.int .i64 v.2.2.2.1),(30,SV.int .i64 v.2.2.2.2.1),(29,SV.es (Kd.list I6) v.2.2.2.2.2)],[])
def zdS (Z:Nat) (g0:zbv → Option ((Bool × Unit) × Unit)) (g1:zdQ → Option ((Bool × Unit) × Unit)) (v:zdQ):Option ((Bool × Unit) × Unit) :=
 cond (decide (v.1 < v.2.1))
 (tst (decide (0 ≤ v.1)) <|
 tst (decide (v.1 < (zz (List.length v.2.2.1)))) <|
 Option.bind (zS Z ((List.getD v.2.2.1 (Int.toNat v.1) 0,()),())) fun y_2 =>
 cond (!y_2.1.1)
 (some (((false,()),())))
 (g1 (w64 (v.1 + (1:Int)),v.2.1,v.2.2.1,v.2.2.2.1,v.2.2.2.2.1,v.2.2.2.2.2)))
 (g0 (w64 (v.2.2.2.1 + (1:Int)),v.2.2.2.2.1,v.2.2.2.2.2))
def zov (Z:Nat) (g0:zbv → Option ((Bool × Unit) × Unit)) (g1:zdQ → Option ((Bool × Unit) × Unit)):zdQ → Option ((Bool × Unit) × Unit):=zdS Z g0 g1
theorem zCB (Z:Nat) (G):z5.lp (zai Z) 0 Z G (endX zaN z6) 1 zdR = iter (zov Z (fun v => G 0 (zaw v).1 (zaw v).2)) Z:=C.lp_iter fun g v =>
 (show run (zai Z) 0 Z (z5.bdAt 1) (zdR v).1 (zdR v).2 (loopK 0 (z5.nmAt 1) g (z5.contAt (zai Z) 0 Z G 0 1 (endX zaN z6))) = zdS Z (fun v => G 0 (zaw v).1 (zaw v).2) (fun v => g (zdR v).1 (zdR v).2) v by kernel_rfl)
def zdT (Z:Nat) (X1:zdQ → Option ((Bool × Unit) × Unit)) (g0:zbv → Option ((Bool × Unit) × Unit)) (v:zbv):Option ((Bool × Unit) × Unit) :=
 cond (decide (v.1 < v.2.1))
 (tst (decide (0 ≤ v.1)) <|
 tst (decide (v.1 < (zz (List.length v.2.2)))) <|
 cond (decide ((zz (List.length (List.getD v.2.2 (Int.toNat v.1) []))) > (100:Int)))
 (some (((false,()),())))
 (X1 ((0:Int),(zz (List.length (List.getD v.2.2 (Int.toNat v.1) []))),List.getD v.2.2 (Int.toNat v.1) [],v.1,v.2.1,v.2.2)))
 (some (((true,()),())))
def zko (Z:Nat) (g0:zbv → Option ((Bool × Unit) × Unit)):zbv → Option ((Bool × Unit) × Unit):=zdT Z (iter (zov Z g0) Z) g0
theorem zCC (Z:Nat) (G):z5.lp (zai Z) 0 Z G (endX zaN z6) 0 zaw = iter (zko Z) Z:=C.lp_iter fun g v =>
 (show run (zai Z) 0 Z (z5.bdAt 0) (zaw v).1 (zaw v).2 (loopK 0 (z5.nmAt 0) g (z5.contAt (zai Z) 0 Z G 0 0 (endX zaN z6))) = zdT Z (z5.lp (zai Z) 0 Z (fun m => bif Nat.beq m 0 then g else G m) (endX zaN z6) 1 zdR) (fun v => g (zaw v).1 (zaw v).2) v by kernel_rfl).trans (by rw [zCB]; rfl)
def zkp (Z:Nat) (X0:zbv → Option ((Bool × Unit) × Unit)) (x0:List (List Int)) (x1:Int):Option ((Bool × Unit) × Unit) :=
 cond (decide (x1 < (1:Int)))
 (some (((false,()),())))
 (cond (decide (x1 > (20:Int)))
 (some (((false,()),())))
 (cond ((zz (List.length x0)) != w64 (x1 + (1:Int)))
 (some (((false,()),())))
 (tst (decide ((0:Int) < (zz (List.length x0)))) <|
 cond ((zz (List.length (List.getD x0 (Int.toNat (0:Int)) []))) != (0:Int))
 (some (((false,()),())))
 (X0 ((0:Int),(zz (List.length x0)),x0)))))
def zkq (Z:Nat) (z:(((List (List Int)) × Unit) × ((Int × Unit) × Unit))):Option ((Bool × Unit) × Unit):=zkp Z (iter (zko Z) Z) z.1.1 z.2.1.1
theorem zCD (Z:Nat) (xa:z6.rt.T) (xd:z6.D.T):z6.go (zai Z) Z z5 zaN xa xd = zkq Z (z6.xb (xa,xd)) :=
 (show z6.go (zai Z) Z z5 zaN xa xd = zkp Z (z5.lp (zai Z) 0 Z (fun _ _ _ => none) (endX zaN z6) 0 zaw) xd.1.1 xd.2.1.1 by kernel_rfl).trans (by rw [zCC]; rfl)
abbrev zow (Z:Nat):LE:=⟨z6,zkq Z⟩
theorem zCE (Z:Nat):EntryOK Tryz.prog 55 (zow Z).te:=okF (T:=zai Z) (fn:=Tryz.f55) (le:=zow Z) (frz:=[]) (ann:=zs8) (cuts:=[]) (rv:=zaN) (TabOK.of (entCons (zca Z) entNil) (methNil)) mixed (by kernel_rfl) (by kernel_rfl) (by kernel_rfl) (fun _ => rfl) (fun _ => rfl) (fun xa xd y h => ⟨Z,(zCD Z xa xd).trans h⟩)
def zox (Z:Nat) (x0:Int):Option ((Bool × Unit) × Unit) :=
 cond (decide (x0 ≥ (0:Int)))
 (some (((decide (x0 < (5:Int)),()),())))
 (some (((false,()),())))
def zdU (Z:Nat) (z:((Int × Unit) × Unit)):Option ((Bool × Unit) × Unit):=zox Z z.1.1
abbrev zCF (Z:Nat):LE:=⟨.pure (.grp (.dat I6 .nil) .nil) (.grp (.dat Kd.bool .nil) .nil) true,zdU Z⟩
theorem zoy (Z:Nat):EntryOK Tryz.prog 44 (zCF Z).te:=okS (fn:=Tryz.f44) (frz:=[]) (ann:=[]) (cuts:=[]) (rv:=[(2,none)]) Z (TabOK.of (entNil) (methNil)) mixed (by kernel_rfl) (by kernel_rfl) (by kernel_rfl) (fun _ => rfl) (fun _ => rfl) (fun _ _ => by kernel_rfl)
def zoz (Z:Nat) (d0:List NY) (d1:List Bool) (d2:List WY) (d3:List (List (List Int))) (d4:Int → Int → List SY) (x0:Int):Option (((List NY) × ((List Bool) × ((List WY) × ((List (List (List Int))) × ((Int → Int → List SY) × Unit))))) × ((Bool × Unit) × Unit)) :=
 tst (decide ((0:Int) < (zz (List.length d0)))) <|
 tst (decide (0 ≤ x0)) <|
 tst (decide (x0 < (zz (List.length d0)))) <|
 cond (x0 == (0:Int))
 (cond ((List.getD d0 (Int.toNat x0) (0,([],(0,(0,(0,())))))).2.2.2.1 == (0:Int))
 (cond ((List.getD d0 (Int.toNat x0) (0,([],(0,(0,(0,())))))).2.2.2.2.1 == (-1:Int))
 (cond (decide ((List.getD d0 (Int.toNat x0) (0,([],(0,(0,(0,())))))).2.2.1 ≥ (0:Int)))
 (some (((d0,d1,d2,d3,d4,()),(decide ((List.getD d0 (Int.toNat x0) (0,([],(0,(0,(0,())))))).2.2.1 ≤ (1000:Int)),()),())))
 (some (((d0,d1,d2,d3,d4,()),(false,()),()))))
 (some (((d0,d1,d2,d3,d4,()),(false,()),()))))
 (some (((d0,d1,d2,d3,d4,()),(false,()),()))))
 (cond (decide ((List.getD d0 (Int.toNat x0) (0,([],(0,(0,(0,())))))).2.2.1 < (0:Int)))
 (some (((d0,d1,d2,d3,d4,()),(false,()),())))
 (cond (decide ((List.getD d0 (Int.toNat x0) (0,([],(0,(0,(0,())))))).2.2.1 > (List.getD d0 (Int.toNat (0:Int)) (0,([],(0,(0,(0,())))))).2.2.1))
 (some (((d0,d1,d2,d3,d4,()),(false,()),())))
 (cond (decide ((List.getD d0 (Int.toNat x0) (0,([],(0,(0,(0,())))))).2.2.2.1 < (1:Int)))
 (some (((d0,d1,d2,d3,d4,()),(false,()),())))
 (cond (decide ((List.getD d0 (Int.toNat x0) (0,([],(0,(0,(0,())))))).2.2.2.1 > (5:Int)))
 (some (((d0,d1,d2,d3,d4,()),(false,()),())))
 (cond ((List.getD d0 (Int.toNat x0) (0,([],(0,(0,(0,())))))).2.2.2.1 == (5:Int))
 (some (((d0,d1,d2,d3,d4,()),((List.getD d0 (Int.toNat x0) (0,([],(0,(0,(0,())))))).2.2.2.2.1 == (-1:Int),()),())))
 (Option.bind (zdU Z (((List.getD d0 (Int.toNat x0) (0,([],(0,(0,(0,())))))).2.2.2.2.1,()),())) fun y_7 =>
 cond (y_7.1.1)
 (some (((d0,d1,d2,d3,d4,()),((List.getD d0 (Int.toNat x0) (0,([],(0,(0,(0,())))))).2.2.2.2.1 != x0,()),())))
 (some (((d0,d1,d2,d3,d4,()),(false,()),())))))))))
def zoA (Z:Nat) (z:(((List NY) × ((List Bool) × ((List WY) × ((List (List (List Int))) × ((Int → Int → List SY) × Unit))))) × ((Int × Unit) × Unit))):Option (((List NY) × ((List Bool) × ((List WY) × ((List (List (List Int))) × ((Int → Int → List SY) × Unit))))) × ((Bool × Unit) × Unit)):=zoz Z z.1.1 z.1.2.1 z.1.2.2.1 z.1.2.2.2.1 z.1.2.2.2.2.1 z.2.1.1
abbrev zs9 (Z:Nat):LE:=⟨.ref (.cells (.dat (Kd.list KN) (.dat (Kd.list Kd.bool) (.dat (Kd.list KW) (.dat (Kd.list (Kd.list (Kd.list I6))) (.mpo KS .nil)))))) (.grp (.dat I6 .nil) .nil) (.grp (.dat Kd.bool .nil) .nil) false,zoA Z⟩
theorem zCG (Z:Nat):EntryOK Tryz.prog 56 (zs9 Z).te:=okS (fn:=Tryz.f56) (frz:=[18,20,21]) (ann:=[]) (cuts:=[]) (rv:=[(4,none)]) Z (TabOK.of (entCons (zoy Z) entNil) (methNil)) mixed (by kernel_rfl) (by kernel_rfl) (by kernel_rfl) (fun _ => rfl) (fun _ => rfl) (fun _ _ => by kernel_rfl)
def zoB (Z:Nat) (x0:List NY) (x1:List Bool) (x2:List WY) (x3:List (List (List Int))) (x4:Int) (x5:Int) (x6:Int) (x7:List (List Int)) (x8:List Int) (x9:LP) (x10:Int) (x11:Int) (x12:LP) (x13:Int):Option ((Bool × Unit) × Unit) :=
 Option.bind (zdU Z ((x4,()),())) fun y_1 =>
 cond (y_1.1.1)
 (cond (decide (x5 ≥ (1:Int)))
 (tst (decide (0 ≤ x4)) <|
 tst (decide (x4 < (zz (List.length x0)))) <|
 cond (decide (x5 ≤ (List.getD x0 (Int.toNat x4) (0,([],(0,(0,(0,())))))).1))
 (cond (decide (x6 ≥ (0:Int)))
 (tst (decide (0 ≤ x4)) <|
 tst (decide (x4 < (zz (List.length x3)))) <|
 tst (decide (0 ≤ x5)) <|
 tst (decide (x5 < (zz (List.length (List.getD x3 (Int.toNat x4) []))))) <|
 some (((decide (x6 ≤ (zz (List.length (List.getD (List.getD x3 (Int.toNat x4) []) (Int.toNat x5) [])))),()),())))
 (some (((false,()),()))))
 (some (((false,()),()))))
 (some (((false,()),()))))
 (some (((false,()),())))
def zoC (Z:Nat) (z:(((List NY) × ((List Bool) × ((List WY) × ((List (List (List Int))) × Unit)))) × ((Int × (Int × (Int × SumY))) × Unit))):Option ((Bool × Unit) × Unit):=zoB Z z.1.1 z.1.2.1 z.1.2.2.1 z.1.2.2.2.1 z.2.1.1 z.2.1.2.1 z.2.1.2.2.1 z.2.1.2.2.2.1 z.2.1.2.2.2.2.1 z.2.1.2.2.2.2.2.1 z.2.1.2.2.2.2.2.2.1 z.2.1.2.2.2.2.2.2.2.1 z.2.1.2.2.2.2.2.2.2.2.1 z.2.1.2.2.2.2.2.2.2.2.2.1
abbrev zta (Z:Nat):LE:=⟨.pure (.agg (.dat (Kd.list KN) (.dat (Kd.list Kd.bool) (.dat (Kd.list KW) (.dat (Kd.list (Kd.list (Kd.list I6))) .nil)))) (.agg (.dat I6 (.dat I6 (.dat I6 (.dat (Kd.list (Kd.list I6)) (.dat (Kd.list I6) (.dat (Kd.list KP) (.dat I6 (.dat I6 (.dat (Kd.list KP) (.dat I6 .nil)))))))))) .nil)) (.grp (.dat Kd.bool .nil) .nil) true,zoC Z⟩
theorem zCH (Z:Nat):EntryOK Tryz.prog 76 (zta Z).te:=okS (fn:=Tryz.f76) (frz:=[]) (ann:=[]) (cuts:=[]) (rv:=[(4,none)]) Z (TabOK.of (entCons (zoy Z) entNil) (methNil)) mixed (by kernel_rfl) (by kernel_rfl) (by kernel_rfl) (fun _ => rfl) (fun _ => rfl) (fun _ _ => by kernel_rfl)
def zgH (Z:Nat):Tab:=Tab.of [] []
def ztb:List Norm:=[⟨[13,12,0,1],[],[],[]⟩]
noncomputable def zkr:C:=irOf Tryz.prog Tryz.f160 [] ztb []
def zgI:List (Nat × Option (Nat × Bool)):=[(4,none)]
abbrev zCI:Sx:=.grp (.dat (Kd.list I6) .nil) (.grp (.dat (Kd.list I6) .nil) .nil)
abbrev zCJ:Sx:=.grp (.dat Kd.bool .nil) .nil
abbrev zbw:LF:=.pure zCI zCJ true
abbrev zdV:=(Int) × (Int) × (List Int) × (List Int)
def ztc (v:zdV):Env × Heap:=([(13,SV.int .i64 v.1),(12,SV.int .i64 v.2.1),(0,SV.es I6 v.2.2.1),(1,SV.es I6 v.2.2.2)],[])
def zgJ (Z:Nat) (g0:zdV → Option ((Bool × Unit) × Unit)) (v:zdV):Option ((Bool × Unit) × Unit) :=
 cond (decide (v.1 < v.2.1))
 (tst (decide (0 ≤ v.1)) <|
 tst (decide (v.1 < (zz (List.length v.2.2.1)))) <|
 tst (decide (0 ≤ v.1)) <|
 tst (decide (v.1 < (zz (List.length v.2.2.2)))) <|
 cond (List.getD v.2.2.1 (Int.toNat v.1) 0 != List.getD v.2.2.2 (Int.toNat v.1) 0)
 (some (((false,()),())))
 (g0 (w64 (v.1 + (1:Int)),v.2.1,v.2.2.1,v.2.2.2)))
 (some (((true,()),())))
def zks (Z:Nat) (g0:zdV → Option ((Bool × Unit) × Unit)):zdV → Option ((Bool × Unit) × Unit):=zgJ Z g0
theorem zCK (Z:Nat) (G):zkr.lp (zgH Z) 0 Z G (endX zgI zbw) 0 ztc = iter (zks Z) Z:=C.lp_iter fun g v => by kernel_rfl
def zkt (Z:Nat) (X0:zdV → Option ((Bool × Unit) × Unit)) (x0:List Int) (x1:List Int):Option ((Bool × Unit) × Unit) :=
 cond ((zz (List.length x0)) != (zz (List.length x1)))
 (some (((false,()),())))
 (X0 ((0:Int),(zz (List.length x0)),x0,x1))
def zgK (Z:Nat) (z:(((List Int) × Unit) × (((List Int) × Unit) × Unit))):Option ((Bool × Unit) × Unit):=zkt Z (iter (zks Z) Z) z.1.1 z.2.1.1
theorem zCL (Z:Nat) (xa:zbw.rt.T) (xd:zbw.D.T):zbw.go (zgH Z) Z zkr zgI xa xd = zgK Z (zbw.xb (xa,xd)) :=
 (show zbw.go (zgH Z) Z zkr zgI xa xd = zkt Z (zkr.lp (zgH Z) 0 Z (fun _ _ _ => none) (endX zgI zbw) 0 ztc) xd.1.1 xd.2.1.1 by kernel_rfl).trans (by rw [zCK]; rfl)
abbrev zoD (Z:Nat):LE:=⟨zbw,zgK Z⟩
theorem ztd (Z:Nat):EntryOK Tryz.prog 160 (zoD Z).te:=okF (T:=zgH Z) (fn:=Tryz.f160) (le:=zoD Z) (frz:=[]) (ann:=ztb) (cuts:=[]) (rv:=zgI) (TabOK.of (entNil) (methNil)) mixed (by kernel_rfl) (by kernel_rfl) (by kernel_rfl) (fun _ => rfl) (fun _ => rfl) (fun xa xd y h => ⟨Z,(zCL Z xa xd).trans h⟩)
def zgL (Z:Nat):Tab:=Tab.of [(160,(zoD Z).te)] []
def zte:List Norm:=[⟨[17,16,15,1,2],[],[],[]⟩]
noncomputable def zku:C:=irOf Tryz.prog Tryz.f159 [] zte []
def zgM:List (Nat × Option (Nat × Bool)):=[(6,none)]
abbrev zCM:Sx:=.grp (.dat (Kd.list (Kd.list I6)) .nil) (.grp (.dat (Kd.list (Kd.list I6)) .nil) (.fnc 160 .nil))
abbrev zCN:Sx:=.grp (.dat Kd.bool .nil) .nil
abbrev zbx:LF:=.pure zCM zCN true
abbrev zdW:=(Int) × (Int) × (List (List Int)) × (List (List Int))
def ztf (v:zdW):Env × Heap:=([(17,SV.int .i64 v.1),(16,SV.int .i64 v.2.1),(15,SV.es (Kd.list I6) v.2.2.1),(1,SV.es (Kd.list I6) v.2.2.2),(2,SV.fn (Fn.func 160) [] [])],[])
def zgN (Z:Nat) (g0:zdW → Option ((Bool × Unit) × Unit)) (v:zdW):Option ((Bool × Unit) × Unit) :=
 cond (decide (v.1 < v.2.1))
 (tst (decide (0 ≤ v.1)) <|
 tst (decide (v.1 < (zz (List.length v.2.2.1)))) <|
 tst (decide (0 ≤ v.1)) <|
 tst (decide (v.1 < (zz (List.length v.2.2.2)))) <|
 Option.bind (zgK Z ((List.getD v.2.2.1 (Int.toNat v.1) [],()),(List.getD v.2.2.2 (Int.toNat v.1) [],()),())) fun y_2 =>
 cond (!y_2.1.1)
 (some (((false,()),())))
 (g0 (w64 (v.1 + (1:Int)),v.2.1,v.2.2.1,v.2.2.2)))
 (some (((true,()),())))
def zkv (Z:Nat) (g0:zdW → Option ((Bool × Unit) × Unit)):zdW → Option ((Bool × Unit) × Unit):=zgN Z g0
theorem zCO (Z:Nat) (G):zku.lp (zgL Z) 0 Z G (endX zgM zbx) 0 ztf = iter (zkv Z) Z:=C.lp_iter fun g v => by kernel_rfl
def zkw (Z:Nat) (X0:zdW → Option ((Bool × Unit) × Unit)) (x0:List (List Int)) (x1:List (List Int)):Option ((Bool × Unit) × Unit) :=
 cond ((zz (List.length x0)) != (zz (List.length x1)))
 (some (((false,()),())))
 (X0 ((0:Int),(zz (List.length x0)),x0,x1))
def zkx (Z:Nat) (z:(((List (List Int)) × Unit) × (((List (List Int)) × Unit) × Unit))):Option ((Bool × Unit) × Unit):=zkw Z (iter (zkv Z) Z) z.1.1 z.2.1.1
theorem zCP (Z:Nat) (xa:zbx.rt.T) (xd:zbx.D.T):zbx.go (zgL Z) Z zku zgM xa xd = zkx Z (zbx.xb (xa,xd)) :=
 (show zbx.go (zgL Z) Z zku zgM xa xd = zkw Z (zku.lp (zgL Z) 0 Z (fun _ _ _ => none) (endX zgM zbx) 0 ztf) xd.1.1 xd.2.1.1 by kernel_rfl).trans (by rw [zCO]; rfl)
abbrev ztg (Z:Nat):LE:=⟨zbx,zkx Z⟩
theorem zCQ (Z:Nat):EntryOK Tryz.prog 159 (ztg Z).te:=okF (T:=zgL Z) (fn:=Tryz.f159) (le:=ztg Z) (frz:=[]) (ann:=zte) (cuts:=[]) (rv:=zgM) (TabOK.of (entCons (ztd Z) entNil) (methNil)) mixed (by kernel_rfl) (by kernel_rfl) (by kernel_rfl) (fun _ => rfl) (fun _ => rfl) (fun xa xd y h => ⟨Z,(zCP Z xa xd).trans h⟩)
def zgO (Z:Nat):Tab:=Tab.of [] []
def zth:List Norm:=[⟨[13,12,0,1],[],[],[]⟩]
noncomputable def zky:C:=irOf Tryz.prog Tryz.f161 [] zth []
def zgP:List (Nat × Option (Nat × Bool)):=[(4,none)]
abbrev zCR:Sx:=.grp (.dat (Kd.list KP) .nil) (.grp (.dat (Kd.list KP) .nil) .nil)
abbrev zCS:Sx:=.grp (.dat Kd.bool .nil) .nil
abbrev zby:LF:=.pure zCR zCS true
abbrev zdX:=(Int) × (Int) × LP × LP
def zti (v:zdX):Env × Heap:=([(13,SV.int .i64 v.1),(12,SV.int .i64 v.2.1),(0,SV.es KP v.2.2.1),(1,SV.es KP v.2.2.2)],[])
def zgQ (Z:Nat) (g0:zdX → Option ((Bool × Unit) × Unit)) (v:zdX):Option ((Bool × Unit) × Unit) :=
 cond (decide (v.1 < v.2.1))
 (tst (decide (0 ≤ v.1)) <|
 tst (decide (v.1 < (zz (List.length v.2.2.1)))) <|
 tst (decide (0 ≤ v.1)) <|
 tst (decide (v.1 < (zz (List.length v.2.2.2)))) <|
 cond (!((List.getD v.2.2.1 (Int.toNat v.1) (0,(0,()))).1 == (List.getD v.2.2.2 (Int.toNat v.1) (0,(0,()))).1 && ((List.getD v.2.2.1 (Int.toNat v.1) (0,(0,()))).2.1 == (List.getD v.2.2.2 (Int.toNat v.1) (0,(0,()))).2.1 && true)))
 (some (((false,()),())))
 (g0 (w64 (v.1 + (1:Int)),v.2.1,v.2.2.1,v.2.2.2)))
 (some (((true,()),())))
def zkz (Z:Nat) (g0:zdX → Option ((Bool × Unit) × Unit)):zdX → Option ((Bool × Unit) × Unit):=zgQ Z g0
theorem zCT (Z:Nat) (G):zky.lp (zgO Z) 0 Z G (endX zgP zby) 0 zti = iter (zkz Z) Z:=C.lp_iter fun g v => by kernel_rfl
def zkA (Z:Nat) (X0:zdX → Option ((Bool × Unit) × Unit)) (x0:LP) (x1:LP):Option ((Bool × Unit) × Unit) :=
 cond ((zz (List.length x0)) != (zz (List.length x1)))
 (some (((false,()),())))
 (X0 ((0:Int),(zz (List.length x0)),x0,x1))
def zkB (Z:Nat) (z:((LP × Unit) × ((LP × Unit) × Unit))):Option ((Bool × Unit) × Unit):=zkA Z (iter (zkz Z) Z) z.1.1 z.2.1.1
theorem zCU (Z:Nat) (xa:zby.rt.T) (xd:zby.D.T):zby.go (zgO Z) Z zky zgP xa xd = zkB Z (zby.xb (xa,xd)) :=
 (show zby.go (zgO Z) Z zky zgP xa xd = zkA Z (zky.lp (zgO Z) 0 Z (fun _ _ _ => none) (endX zgP zby) 0 zti) xd.1.1 xd.2.1.1 by kernel_rfl).trans (by rw [zCT]; rfl)
abbrev ztj (Z:Nat):LE:=⟨zby,zkB Z⟩
theorem zCV (Z:Nat):EntryOK Tryz.prog 161 (ztj Z).te:=okF (T:=zgO Z) (fn:=Tryz.f161) (le:=ztj Z) (frz:=[]) (ann:=zth) (cuts:=[]) (rv:=zgP) (TabOK.of (entNil) (methNil)) mixed (by kernel_rfl) (by kernel_rfl) (by kernel_rfl) (fun _ => rfl) (fun _ => rfl) (fun xa xd y h => ⟨Z,(zCU Z xa xd).trans h⟩)
def zgR (Z:Nat):Tab:=Tab.of [] []
def ztk:List Norm:=[⟨[13,12,0,1],[],[],[]⟩]
noncomputable def zkC:C:=irOf Tryz.prog Tryz.f162 [] ztk []
def zgS:List (Nat × Option (Nat × Bool)):=[(4,none)]
abbrev zCW:Sx:=.grp (.dat (Kd.list KP) .nil) (.grp (.dat (Kd.list KP) .nil) .nil)
abbrev zCX:Sx:=.grp (.dat Kd.bool .nil) .nil
abbrev zbz:LF:=.pure zCW zCX true
abbrev zdY:=(Int) × (Int) × LP × LP
def ztl (v:zdY):Env × Heap:=([(13,SV.int .i64 v.1),(12,SV.int .i64 v.2.1),(0,SV.es KP v.2.2.1),(1,SV.es KP v.2.2.2)],[])
def zgT (Z:Nat) (g0:zdY → Option ((Bool × Unit) × Unit)) (v:zdY):Option ((Bool × Unit) × Unit) :=
 cond (decide (v.1 < v.2.1))
 (tst (decide (0 ≤ v.1)) <|
 tst (decide (v.1 < (zz (List.length v.2.2.1)))) <|
 tst (decide (0 ≤ v.1)) <|
 tst (decide (v.1 < (zz (List.length v.2.2.2)))) <|
 cond (!((List.getD v.2.2.1 (Int.toNat v.1) (0,(0,()))).1 == (List.getD v.2.2.2 (Int.toNat v.1) (0,(0,()))).1 && ((List.getD v.2.2.1 (Int.toNat v.1) (0,(0,()))).2.1 == (List.getD v.2.2.2 (Int.toNat v.1) (0,(0,()))).2.1 && true)))
 (some (((false,()),())))
 (g0 (w64 (v.1 + (1:Int)),v.2.1,v.2.2.1,v.2.2.2)))
 (some (((true,()),())))
def zkD (Z:Nat) (g0:zdY → Option ((Bool × Unit) × Unit)):zdY → Option ((Bool × Unit) × Unit):=zgT Z g0
theorem zCY (Z:Nat) (G):zkC.lp (zgR Z) 0 Z G (endX zgS zbz) 0 ztl = iter (zkD Z) Z:=C.lp_iter fun g v => by kernel_rfl
def zkE (Z:Nat) (X0:zdY → Option ((Bool × Unit) × Unit)) (x0:LP) (x1:LP):Option ((Bool × Unit) × Unit) :=
 cond ((zz (List.length x0)) != (zz (List.length x1)))
 (some (((false,()),())))
 (X0 ((0:Int),(zz (List.length x0)),x0,x1))
def zkF (Z:Nat) (z:((LP × Unit) × ((LP × Unit) × Unit))):Option ((Bool × Unit) × Unit):=zkE Z (iter (zkD Z) Z) z.1.1 z.2.1.1
theorem zCZ (Z:Nat) (xa:zbz.rt.T) (xd:zbz.D.T):zbz.go (zgR Z) Z zkC zgS xa xd = zkF Z (zbz.xb (xa,xd)) :=
 (show zbz.go (zgR Z) Z zkC zgS xa xd = zkE Z (zkC.lp (zgR Z) 0 Z (fun _ _ _ => none) (endX zgS zbz) 0 ztl) xd.1.1 xd.2.1.1 by kernel_rfl).trans (by rw [zCY]; rfl)
abbrev ztm (Z:Nat):LE:=⟨zbz,zkF Z⟩
theorem zC0 (Z:Nat):EntryOK Tryz.prog 162 (ztm Z).te:=okF (T:=zgR Z) (fn:=Tryz.f162) (le:=ztm Z) (frz:=[]) (ann:=ztk) (cuts:=[]) (rv:=zgS) (TabOK.of (entNil) (methNil)) mixed (by kernel_rfl) (by kernel_rfl) (by kernel_rfl) (fun _ => rfl) (fun _ => rfl) (fun xa xd y h => ⟨Z,(zCZ Z xa xd).trans h⟩)
def zoE (Z:Nat) (x0:List (List Int)) (x1:List Int) (x2:LP) (x3:Int) (x4:Int) (x5:LP) (x6:Int) (x7:List (List Int)) (x8:List Int) (x9:LP) (x10:Int) (x11:Int) (x12:LP) (x13:Int):Option ((Bool × Unit) × Unit) :=
 Option.bind (zkx Z ((x0,()),(x7,()),())) fun y_1 =>
 cond (y_1.1.1)
 (Option.bind (zgK Z ((x1,()),(x8,()),())) fun y_3 =>
 cond (y_3.1.1)
 (Option.bind (zkB Z ((x2,()),(x9,()),())) fun y_5 =>
 cond (y_5.1.1)
 (cond (x3 == x10)
 (cond (x4 == x11)
 (Option.bind (zkF Z ((x5,()),(x12,()),())) fun y_9 =>
 cond (y_9.1.1)
 (some (((x6 == x13,()),())))
 (some (((false,()),()))))
 (some (((false,()),()))))
 (some (((false,()),()))))
 (some (((false,()),()))))
 (some (((false,()),()))))
 (some (((false,()),())))
def zoF (Z:Nat) (z:(SumY × (SumY × Unit))):Option ((Bool × Unit) × Unit):=zoE Z z.1.1 z.1.2.1 z.1.2.2.1 z.1.2.2.2.1 z.1.2.2.2.2.1 z.1.2.2.2.2.2.1 z.1.2.2.2.2.2.2.1 z.2.1.1 z.2.1.2.1 z.2.1.2.2.1 z.2.1.2.2.2.1 z.2.1.2.2.2.2.1 z.2.1.2.2.2.2.2.1 z.2.1.2.2.2.2.2.2.1
abbrev ztn (Z:Nat):LE:=⟨.pure (.agg (.dat (Kd.list (Kd.list I6)) (.dat (Kd.list I6) (.dat (Kd.list KP) (.dat I6 (.dat I6 (.dat (Kd.list KP) (.dat I6 .nil))))))) (.agg (.dat (Kd.list (Kd.list I6)) (.dat (Kd.list I6) (.dat (Kd.list KP) (.dat I6 (.dat I6 (.dat (Kd.list KP) (.dat I6 .nil))))))) .nil)) (.grp (.dat Kd.bool .nil) .nil) true,zoF Z⟩
theorem zC1 (Z:Nat):EntryOK Tryz.prog 128 (ztn Z).te:=okS (fn:=Tryz.f128) (frz:=[]) (ann:=[]) (cuts:=[]) (rv:=[(4,none)]) Z (TabOK.of (entCons (zCQ Z) (entCons (ztd Z) (entCons (zCV Z) (entCons (zC0 Z) entNil)))) (methNil)) mixed (by kernel_rfl) (by kernel_rfl) (by kernel_rfl) (fun _ => rfl) (fun _ => rfl) (fun _ _ => by kernel_rfl)
abbrev zck:=Option (((List NY) × ((List Bool) × ((List WY) × ((List (List (List Int))) × ((Int → Int → List SY) × Unit))))) × (SumY × Unit))
def zgU (Z:Nat):Tab:=Tab.of [(52,(zs6 Z).te),(84,(zs5 Z).te)] []
def zto:List Norm:=[⟨[6,3,7,0,5,4],[],[],[]⟩]
def ztp:List (Nat × Norm):=[(1000000,{ live:=[1,0],fix:=[],op:=[(0,4,1,none)] })]
noncomputable def zkG:C:=irOf Tryz.prog Tryz.f129 [] zto ztp
def zgV:List (Nat × Option (Nat × Bool)):=[(4,some (7,true))]
abbrev zC2:Sx:=.agg (.dat I6 (.dat I6 (.dat I6 (.dat (Kd.list (Kd.list I6)) (.dat (Kd.list I6) (.dat (Kd.list KP) (.dat I6 (.dat I6 (.dat (Kd.list KP) (.dat I6 .nil)))))))))) .nil
abbrev zC3:Sx:=.agg (.dat (Kd.list (Kd.list I6)) (.dat (Kd.list I6) (.dat (Kd.list KP) (.dat I6 (.dat I6 (.dat (Kd.list KP) (.dat I6 .nil))))))) .nil
abbrev zC4:Rt:=.cells (.dat (Kd.list KN) (.dat (Kd.list Kd.bool) (.dat (Kd.list KW) (.dat (Kd.list (Kd.list (Kd.list I6))) (.mpo KS .nil)))))
abbrev zbA:LF:=.ref zC4 zC2 zC3 false
inductive zdZ where
 | c0 (v:(List Int) × (List NY) × (List Bool) × (List WY) × (List (List (List Int))) × (List SY) × (Int) × (Int) × (Int) × (List (List Int)) × (List Int) × LP × (Int) × (Int) × LP × (Int) × (Int) × (Int) × (Int) × (Int) × (Int) × (Int → Int → List SY) × (Int) × (Int) × (List SY))
 | c1 (v:(List Int) × (List NY) × (List Bool) × (List WY) × (List (List (List Int))) × (List SY) × (Int) × (Int) × (Int) × (List (List Int)) × (List Int) × LP × (Int) × (Int) × LP × (Int) × (Int) × (Int) × (Int) × (Int) × (Int) × (Int → Int → List SY) × (Int) × (Int))
 | c2 (v:(List Int) × (List NY) × (List Bool) × (List WY) × (List (List (List Int))) × (List SY) × (Int) × (Int) × (Int) × (List (List Int)) × (List Int) × LP × (Int) × (Int) × LP × (Int) × (Int) × (Int) × (Int) × (Int) × (Int) × (Int → Int → List SY) × (Int) × (Int))
def ztq (v:zdZ):Env × Heap:=match v with
 | .c0 v => ([(6,SV.own 1),(3,SV.ptr 2 0),(7,SV.es I6 v.1),(0,SV.ptr 0 0),(5,SV.ptr 3 0),(4,SV.ptr 4 0)],[Blk.cells [SV.es KN v.2.1,SV.es Kd.bool v.2.2.1,SV.es KW v.2.2.2.1,SV.es (Kd.list (Kd.list I6)) v.2.2.2.2.1,SV.mapp 5] 0 5,Blk.arr KS v.2.2.2.2.2.1 0,Blk.cells [SV.int .i64 v.2.2.2.2.2.2.1,SV.int .i64 v.2.2.2.2.2.2.2.1,SV.int .i64 v.2.2.2.2.2.2.2.2.1,SV.es (Kd.list I6) v.2.2.2.2.2.2.2.2.2.1,SV.es I6 v.2.2.2.2.2.2.2.2.2.2.1,SV.es KP v.2.2.2.2.2.2.2.2.2.2.2.1,SV.int .i64 v.2.2.2.2.2.2.2.2.2.2.2.2.1,SV.int .i64 v.2.2.2.2.2.2.2.2.2.2.2.2.2.1,SV.es KP v.2.2.2.2.2.2.2.2.2.2.2.2.2.2.1,SV.int .i64 v.2.2.2.2.2.2.2.2.2.2.2.2.2.2.2.1] 0 10,Blk.cells [SV.int .i64 v.2.2.2.2.2.2.2.2.2.2.2.2.2.2.2.2.1,SV.int .i64 v.2.2.2.2.2.2.2.2.2.2.2.2.2.2.2.2.2.1] 0 2,Blk.cells [SV.nils,SV.nils,SV.nils,SV.int .i64 v.2.2.2.2.2.2.2.2.2.2.2.2.2.2.2.2.2.2.1,SV.int .i64 v.2.2.2.2.2.2.2.2.2.2.2.2.2.2.2.2.2.2.2.1,SV.nils,SV.int .i64 v.2.2.2.2.2.2.2.2.2.2.2.2.2.2.2.2.2.2.2.2.1] 0 7,Blk.mapo KS v.2.2.2.2.2.2.2.2.2.2.2.2.2.2.2.2.2.2.2.2.2.1 (some (v.2.2.2.2.2.2.2.2.2.2.2.2.2.2.2.2.2.2.2.2.2.2.1,v.2.2.2.2.2.2.2.2.2.2.2.2.2.2.2.2.2.2.2.2.2.2.2.1,SV.own 6)),Blk.arr KS v.2.2.2.2.2.2.2.2.2.2.2.2.2.2.2.2.2.2.2.2.2.2.2.2 0])
 | .c1 v => ([(6,SV.own 1),(3,SV.ptr 2 0),(7,SV.es I6 v.1),(0,SV.ptr 0 0),(5,SV.ptr 3 0),(4,SV.ptr 4 0)],[Blk.cells [SV.es KN v.2.1,SV.es Kd.bool v.2.2.1,SV.es KW v.2.2.2.1,SV.es (Kd.list (Kd.list I6)) v.2.2.2.2.1,SV.mapp 5] 0 5,Blk.arr KS v.2.2.2.2.2.1 0,Blk.cells [SV.int .i64 v.2.2.2.2.2.2.1,SV.int .i64 v.2.2.2.2.2.2.2.1,SV.int .i64 v.2.2.2.2.2.2.2.2.1,SV.es (Kd.list I6) v.2.2.2.2.2.2.2.2.2.1,SV.es I6 v.2.2.2.2.2.2.2.2.2.2.1,SV.es KP v.2.2.2.2.2.2.2.2.2.2.2.1,SV.int .i64 v.2.2.2.2.2.2.2.2.2.2.2.2.1,SV.int .i64 v.2.2.2.2.2.2.2.2.2.2.2.2.2.1,SV.es KP v.2.2.2.2.2.2.2.2.2.2.2.2.2.2.1,SV.int .i64 v.2.2.2.2.2.2.2.2.2.2.2.2.2.2.2.1] 0 10,Blk.cells [SV.int .i64 v.2.2.2.2.2.2.2.2.2.2.2.2.2.2.2.2.1,SV.int .i64 v.2.2.2.2.2.2.2.2.2.2.2.2.2.2.2.2.2.1] 0 2,Blk.cells [SV.nils,SV.nils,SV.nils,SV.int .i64 v.2.2.2.2.2.2.2.2.2.2.2.2.2.2.2.2.2.2.1,SV.int .i64 v.2.2.2.2.2.2.2.2.2.2.2.2.2.2.2.2.2.2.2.1,SV.nils,SV.int .i64 v.2.2.2.2.2.2.2.2.2.2.2.2.2.2.2.2.2.2.2.2.1] 0 7,Blk.mapo KS v.2.2.2.2.2.2.2.2.2.2.2.2.2.2.2.2.2.2.2.2.2.1 (some (v.2.2.2.2.2.2.2.2.2.2.2.2.2.2.2.2.2.2.2.2.2.2.1,v.2.2.2.2.2.2.2.2.2.2.2.2.2.2.2.2.2.2.2.2.2.2.2,SV.own 1))])
 | .c2 v => ([(6,SV.own 1),(3,SV.ptr 2 0),(7,SV.es I6 v.1),(0,SV.ptr 0 0),(5,SV.ptr 3 0),(4,SV.ptr 4 0)],[Blk.cells [SV.es KN v.2.1,SV.es Kd.bool v.2.2.1,SV.es KW v.2.2.2.1,SV.es (Kd.list (Kd.list I6)) v.2.2.2.2.1,SV.mapp 5] 0 5,Blk.arr KS v.2.2.2.2.2.1 0,Blk.cells [SV.int .i64 v.2.2.2.2.2.2.1,SV.int .i64 v.2.2.2.2.2.2.2.1,SV.int .i64 v.2.2.2.2.2.2.2.2.1,SV.es (Kd.list I6) v.2.2.2.2.2.2.2.2.2.1,SV.es I6 v.2.2.2.2.2.2.2.2.2.2.1,SV.es KP v.2.2.2.2.2.2.2.2.2.2.2.1,SV.int .i64 v.2.2.2.2.2.2.2.2.2.2.2.2.1,SV.int .i64 v.2.2.2.2.2.2.2.2.2.2.2.2.2.1,SV.es KP v.2.2.2.2.2.2.2.2.2.2.2.2.2.2.1,SV.int .i64 v.2.2.2.2.2.2.2.2.2.2.2.2.2.2.2.1] 0 10,Blk.cells [SV.int .i64 v.2.2.2.2.2.2.2.2.2.2.2.2.2.2.2.2.1,SV.int .i64 v.2.2.2.2.2.2.2.2.2.2.2.2.2.2.2.2.2.1] 0 2,Blk.cells [SV.nils,SV.nils,SV.nils,SV.int .i64 v.2.2.2.2.2.2.2.2.2.2.2.2.2.2.2.2.2.2.1,SV.int .i64 v.2.2.2.2.2.2.2.2.2.2.2.2.2.2.2.2.2.2.2.1,SV.nils,SV.int .i64 v.2.2.2.2.2.2.2.2.2.2.2.2.2.2.2.2.2.2.2.2.1] 0 7,Blk.mapo KS v.2.2.2.2.2.2.2.2.2.2.2.2.2.2.2.2.2.2.2.2.2.1 (some (v.2.2.2.2.2.2.2.2.2.2.2.2.2.2.2.2.2.2.2.2.2.2.1,v.2.2.2.2.2.2.2.2.2.2.2.2.2.2.2.2.2.2.2.2.2.2.2,SV.own 6)),Blk.dead])
def zaO (Z:Nat) (g0:zdZ → zck) (v:zdZ):zck:=match v with
 | .c0 v => cond (decide ((zz (List.length v.2.2.2.2.2.1)) ≤ v.2.2.2.2.2.2.2.2.1))
  (tst (decide (0 ≤ w64 ((zz (List.length v.2.2.2.2.2.1)) - (1:Int)))) <|
   tst (decide (w64 ((zz (List.length v.2.2.2.2.2.1)) - (1:Int)) < (zz (List.length v.2.2.2.2.2.1)))) <|
   tst (decide (Int.toNat (w64 ((zz (List.length v.2.2.2.2.2.1)) - (1:Int))) < List.length v.2.2.2.2.2.1)) <|
   tst (decide (0 ≤ w64 ((zz (List.length v.2.2.2.2.2.1)) - (1:Int)))) <|
   tst (decide (w64 ((zz (List.length v.2.2.2.2.2.1)) - (1:Int)) < (zz (List.length v.1)))) <|
   Option.bind (zgG Z (((List.getD v.2.2.2.2.2.1 (Int.toNat (w64 ((zz (List.length v.2.2.2.2.2.1)) - (1:Int)))) (([],()),(([],()),(([],(0,(0,()))),(([],(0,())),()))))).1.1,(List.getD v.2.2.2.2.2.1 (Int.toNat (w64 ((zz (List.length v.2.2.2.2.2.1)) - (1:Int)))) (([],()),(([],()),(([],(0,(0,()))),(([],(0,())),()))))).2.1.1,(List.getD v.2.2.2.2.2.1 (Int.toNat (w64 ((zz (List.length v.2.2.2.2.2.1)) - (1:Int)))) (([],()),(([],()),(([],(0,(0,()))),(([],(0,())),()))))).2.2.1.1,(List.getD v.2.2.2.2.2.1 (Int.toNat (w64 ((zz (List.length v.2.2.2.2.2.1)) - (1:Int)))) (([],()),(([],()),(([],(0,(0,()))),(([],(0,())),()))))).2.2.1.2.1,(List.getD v.2.2.2.2.2.1 (Int.toNat (w64 ((zz (List.length v.2.2.2.2.2.1)) - (1:Int)))) (([],()),(([],()),(([],(0,(0,()))),(([],(0,())),()))))).2.2.1.2.2.1,(List.getD v.2.2.2.2.2.1 (Int.toNat (w64 ((zz (List.length v.2.2.2.2.2.1)) - (1:Int)))) (([],()),(([],()),(([],(0,(0,()))),(([],(0,())),()))))).2.2.2.1.1,(List.getD v.2.2.2.2.2.1 (Int.toNat (w64 ((zz (List.length v.2.2.2.2.2.1)) - (1:Int)))) (([],()),(([],()),(([],(0,(0,()))),(([],(0,())),()))))).2.2.2.1.2.1,()),(List.getD v.1 (Int.toNat (w64 ((zz (List.length v.2.2.2.2.2.1)) - (1:Int)))) 0,()),())) fun y_2 =>
   tst (decide (List.length v.2.2.2.2.2.1 + 1 < LIM)) <|
   g0 (.c0 (v.1,v.2.1,v.2.2.1,v.2.2.2.1,v.2.2.2.2.1,v.2.2.2.2.2.1 ++ [((y_2.1.1,()),(y_2.1.2.1,()),(y_2.1.2.2.1,y_2.1.2.2.2.1,y_2.1.2.2.2.2.1,()),(y_2.1.2.2.2.2.2.1,y_2.1.2.2.2.2.2.2.1,()),())],v.2.2.2.2.2.2.1,v.2.2.2.2.2.2.2.1,v.2.2.2.2.2.2.2.2.1,v.2.2.2.2.2.2.2.2.2.1,v.2.2.2.2.2.2.2.2.2.2.1,v.2.2.2.2.2.2.2.2.2.2.2.1,v.2.2.2.2.2.2.2.2.2.2.2.2.1,v.2.2.2.2.2.2.2.2.2.2.2.2.2.1,v.2.2.2.2.2.2.2.2.2.2.2.2.2.2.1,v.2.2.2.2.2.2.2.2.2.2.2.2.2.2.2.1,v.2.2.2.2.2.2.2.2.2.2.2.2.2.2.2.2.1,v.2.2.2.2.2.2.2.2.2.2.2.2.2.2.2.2.2.1,v.2.2.2.2.2.2.2.2.2.2.2.2.2.2.2.2.2.2.1,v.2.2.2.2.2.2.2.2.2.2.2.2.2.2.2.2.2.2.2.1,v.2.2.2.2.2.2.2.2.2.2.2.2.2.2.2.2.2.2.2.2.1,v.2.2.2.2.2.2.2.2.2.2.2.2.2.2.2.2.2.2.2.2.2.1,v.2.2.2.2.2.2.2.2.2.2.2.2.2.2.2.2.2.2.2.2.2.2.1,v.2.2.2.2.2.2.2.2.2.2.2.2.2.2.2.2.2.2.2.2.2.2.2.1,v.2.2.2.2.2.2.2.2.2.2.2.2.2.2.2.2.2.2.2.2.2.2.2.2)))
  (tst (v.2.2.2.2.2.2.2.2.2.2.2.2.2.2.2.2.1 == v.2.2.2.2.2.2.2.2.2.2.2.2.2.2.2.2.2.2.2.2.2.2.1 && v.2.2.2.2.2.2.2.2.2.2.2.2.2.2.2.2.2.1 == v.2.2.2.2.2.2.2.2.2.2.2.2.2.2.2.2.2.2.2.2.2.2.2.1) <|
   tst (decide (0 ≤ v.2.2.2.2.2.2.2.2.1)) <|
   tst (decide (v.2.2.2.2.2.2.2.2.1 < (zz (List.length v.2.2.2.2.2.1)))) <|
   tst (decide (Int.toNat v.2.2.2.2.2.2.2.2.1 < List.length v.2.2.2.2.2.1)) <|
   some (((v.2.1,v.2.2.1,v.2.2.2.1,v.2.2.2.2.1,updF v.2.2.2.2.2.2.2.2.2.2.2.2.2.2.2.2.2.2.2.2.2.1 v.2.2.2.2.2.2.2.2.2.2.2.2.2.2.2.2.1 v.2.2.2.2.2.2.2.2.2.2.2.2.2.2.2.2.2.1 v.2.2.2.2.2.1,()),((List.getD v.2.2.2.2.2.1 (Int.toNat v.2.2.2.2.2.2.2.2.1) (([],()),(([],()),(([],(0,(0,()))),(([],(0,())),()))))).1.1,(List.getD v.2.2.2.2.2.1 (Int.toNat v.2.2.2.2.2.2.2.2.1) (([],()),(([],()),(([],(0,(0,()))),(([],(0,())),()))))).2.1.1,(List.getD v.2.2.2.2.2.1 (Int.toNat v.2.2.2.2.2.2.2.2.1) (([],()),(([],()),(([],(0,(0,()))),(([],(0,())),()))))).2.2.1.1,(List.getD v.2.2.2.2.2.1 (Int.toNat v.2.2.2.2.2.2.2.2.1) (([],()),(([],()),(([],(0,(0,()))),(([],(0,())),()))))).2.2.1.2.1,(List.getD v.2.2.2.2.2.1 (Int.toNat v.2.2.2.2.2.2.2.2.1) (([],()),(([],()),(([],(0,(0,()))),(([],(0,())),()))))).2.2.1.2.2.1,(List.getD v.2.2.2.2.2.1 (Int.toNat v.2.2.2.2.2.2.2.2.1) (([],()),(([],()),(([],(0,(0,()))),(([],(0,())),()))))).2.2.2.1.1,(List.getD v.2.2.2.2.2.1 (Int.toNat v.2.2.2.2.2.2.2.2.1) (([],()),(([],()),(([],(0,(0,()))),(([],(0,())),()))))).2.2.2.1.2.1,()),())))
 | .c1 v => cond (decide ((zz (List.length v.2.2.2.2.2.1)) ≤ v.2.2.2.2.2.2.2.2.1))
  (tst (decide (0 ≤ w64 ((zz (List.length v.2.2.2.2.2.1)) - (1:Int)))) <|
   tst (decide (w64 ((zz (List.length v.2.2.2.2.2.1)) - (1:Int)) < (zz (List.length v.2.2.2.2.2.1)))) <|
   tst (decide (Int.toNat (w64 ((zz (List.length v.2.2.2.2.2.1)) - (1:Int))) < List.length v.2.2.2.2.2.1)) <|
   tst (decide (0 ≤ w64 ((zz (List.length v.2.2.2.2.2.1)) - (1:Int)))) <|
   tst (decide (w64 ((zz (List.length v.2.2.2.2.2.1)) - (1:Int)) < (zz (List.length v.1)))) <|
   Option.bind (zgG Z (((List.getD v.2.2.2.2.2.1 (Int.toNat (w64 ((zz (List.length v.2.2.2.2.2.1)) - (1:Int)))) (([],()),(([],()),(([],(0,(0,()))),(([],(0,())),()))))).1.1,(List.getD v.2.2.2.2.2.1 (Int.toNat (w64 ((zz (List.length v.2.2.2.2.2.1)) - (1:Int)))) (([],()),(([],()),(([],(0,(0,()))),(([],(0,())),()))))).2.1.1,(List.getD v.2.2.2.2.2.1 (Int.toNat (w64 ((zz (List.length v.2.2.2.2.2.1)) - (1:Int)))) (([],()),(([],()),(([],(0,(0,()))),(([],(0,())),()))))).2.2.1.1,(List.getD v.2.2.2.2.2.1 (Int.toNat (w64 ((zz (List.length v.2.2.2.2.2.1)) - (1:Int)))) (([],()),(([],()),(([],(0,(0,()))),(([],(0,())),()))))).2.2.1.2.1,(List.getD v.2.2.2.2.2.1 (Int.toNat (w64 ((zz (List.length v.2.2.2.2.2.1)) - (1:Int)))) (([],()),(([],()),(([],(0,(0,()))),(([],(0,())),()))))).2.2.1.2.2.1,(List.getD v.2.2.2.2.2.1 (Int.toNat (w64 ((zz (List.length v.2.2.2.2.2.1)) - (1:Int)))) (([],()),(([],()),(([],(0,(0,()))),(([],(0,())),()))))).2.2.2.1.1,(List.getD v.2.2.2.2.2.1 (Int.toNat (w64 ((zz (List.length v.2.2.2.2.2.1)) - (1:Int)))) (([],()),(([],()),(([],(0,(0,()))),(([],(0,())),()))))).2.2.2.1.2.1,()),(List.getD v.1 (Int.toNat (w64 ((zz (List.length v.2.2.2.2.2.1)) - (1:Int)))) 0,()),())) fun y_2 =>
   tst (decide (List.length v.2.2.2.2.2.1 + 1 < LIM)) <|
   g0 (.c2 (v.1,v.2.1,v.2.2.1,v.2.2.2.1,v.2.2.2.2.1,v.2.2.2.2.2.1 ++ [((y_2.1.1,()),(y_2.1.2.1,()),(y_2.1.2.2.1,y_2.1.2.2.2.1,y_2.1.2.2.2.2.1,()),(y_2.1.2.2.2.2.2.1,y_2.1.2.2.2.2.2.2.1,()),())],v.2.2.2.2.2.2.1,v.2.2.2.2.2.2.2.1,v.2.2.2.2.2.2.2.2.1,v.2.2.2.2.2.2.2.2.2.1,v.2.2.2.2.2.2.2.2.2.2.1,v.2.2.2.2.2.2.2.2.2.2.2.1,v.2.2.2.2.2.2.2.2.2.2.2.2.1,v.2.2.2.2.2.2.2.2.2.2.2.2.2.1,v.2.2.2.2.2.2.2.2.2.2.2.2.2.2.1,v.2.2.2.2.2.2.2.2.2.2.2.2.2.2.2.1,v.2.2.2.2.2.2.2.2.2.2.2.2.2.2.2.2.1,v.2.2.2.2.2.2.2.2.2.2.2.2.2.2.2.2.2.1,v.2.2.2.2.2.2.2.2.2.2.2.2.2.2.2.2.2.2.1,v.2.2.2.2.2.2.2.2.2.2.2.2.2.2.2.2.2.2.2.1,v.2.2.2.2.2.2.2.2.2.2.2.2.2.2.2.2.2.2.2.2.1,v.2.2.2.2.2.2.2.2.2.2.2.2.2.2.2.2.2.2.2.2.2.1,v.2.2.2.2.2.2.2.2.2.2.2.2.2.2.2.2.2.2.2.2.2.2.1,v.2.2.2.2.2.2.2.2.2.2.2.2.2.2.2.2.2.2.2.2.2.2.2)))
  (tst (v.2.2.2.2.2.2.2.2.2.2.2.2.2.2.2.2.1 == v.2.2.2.2.2.2.2.2.2.2.2.2.2.2.2.2.2.2.2.2.2.2.1 && v.2.2.2.2.2.2.2.2.2.2.2.2.2.2.2.2.2.1 == v.2.2.2.2.2.2.2.2.2.2.2.2.2.2.2.2.2.2.2.2.2.2.2) <|
   tst (decide (0 ≤ v.2.2.2.2.2.2.2.2.1)) <|
   tst (decide (v.2.2.2.2.2.2.2.2.1 < (zz (List.length v.2.2.2.2.2.1)))) <|
   tst (decide (Int.toNat v.2.2.2.2.2.2.2.2.1 < List.length v.2.2.2.2.2.1)) <|
   some (((v.2.1,v.2.2.1,v.2.2.2.1,v.2.2.2.2.1,updF v.2.2.2.2.2.2.2.2.2.2.2.2.2.2.2.2.2.2.2.2.2.1 v.2.2.2.2.2.2.2.2.2.2.2.2.2.2.2.2.1 v.2.2.2.2.2.2.2.2.2.2.2.2.2.2.2.2.2.1 v.2.2.2.2.2.1,()),((List.getD v.2.2.2.2.2.1 (Int.toNat v.2.2.2.2.2.2.2.2.1) (([],()),(([],()),(([],(0,(0,()))),(([],(0,())),()))))).1.1,(List.getD v.2.2.2.2.2.1 (Int.toNat v.2.2.2.2.2.2.2.2.1) (([],()),(([],()),(([],(0,(0,()))),(([],(0,())),()))))).2.1.1,(List.getD v.2.2.2.2.2.1 (Int.toNat v.2.2.2.2.2.2.2.2.1) (([],()),(([],()),(([],(0,(0,()))),(([],(0,())),()))))).2.2.1.1,(List.getD v.2.2.2.2.2.1 (Int.toNat v.2.2.2.2.2.2.2.2.1) (([],()),(([],()),(([],(0,(0,()))),(([],(0,())),()))))).2.2.1.2.1,(List.getD v.2.2.2.2.2.1 (Int.toNat v.2.2.2.2.2.2.2.2.1) (([],()),(([],()),(([],(0,(0,()))),(([],(0,())),()))))).2.2.1.2.2.1,(List.getD v.2.2.2.2.2.1 (Int.toNat v.2.2.2.2.2.2.2.2.1) (([],()),(([],()),(([],(0,(0,()))),(([],(0,())),()))))).2.2.2.1.1,(List.getD v.2.2.2.2.2.1 (Int.toNat v.2.2.2.2.2.2.2.2.1) (([],()),(([],()),(([],(0,(0,()))),(([],(0,())),()))))).2.2.2.1.2.1,()),())))
 | .c2 v => cond (decide ((zz (List.length v.2.2.2.2.2.1)) ≤ v.2.2.2.2.2.2.2.2.1))
  (tst (decide (0 ≤ w64 ((zz (List.length v.2.2.2.2.2.1)) - (1:Int)))) <|
   tst (decide (w64 ((zz (List.length v.2.2.2.2.2.1)) - (1:Int)) < (zz (List.length v.2.2.2.2.2.1)))) <|
   tst (decide (Int.toNat (w64 ((zz (List.length v.2.2.2.2.2.1)) - (1:Int))) < List.length v.2.2.2.2.2.1)) <|
   tst (decide (0 ≤ w64 ((zz (List.length v.2.2.2.2.2.1)) - (1:Int)))) <|
   tst (decide (w64 ((zz (List.length v.2.2.2.2.2.1)) - (1:Int)) < (zz (List.length v.1)))) <|
   Option.bind (zgG Z (((List.getD v.2.2.2.2.2.1 (Int.toNat (w64 ((zz (List.length v.2.2.2.2.2.1)) - (1:Int)))) (([],()),(([],()),(([],(0,(0,()))),(([],(0,())),()))))).1.1,(List.getD v.2.2.2.2.2.1 (Int.toNat (w64 ((zz (List.length v.2.2.2.2.2.1)) - (1:Int)))) (([],()),(([],()),(([],(0,(0,()))),(([],(0,())),()))))).2.1.1,(List.getD v.2.2.2.2.2.1 (Int.toNat (w64 ((zz (List.length v.2.2.2.2.2.1)) - (1:Int)))) (([],()),(([],()),(([],(0,(0,()))),(([],(0,())),()))))).2.2.1.1,(List.getD v.2.2.2.2.2.1 (Int.toNat (w64 ((zz (List.length v.2.2.2.2.2.1)) - (1:Int)))) (([],()),(([],()),(([],(0,(0,()))),(([],(0,())),()))))).2.2.1.2.1,(List.getD v.2.2.2.2.2.1 (Int.toNat (w64 ((zz (List.length v.2.2.2.2.2.1)) - (1:Int)))) (([],()),(([],()),(([],(0,(0,()))),(([],(0,())),()))))).2.2.1.2.2.1,(List.getD v.2.2.2.2.2.1 (Int.toNat (w64 ((zz (List.length v.2.2.2.2.2.1)) - (1:Int)))) (([],()),(([],()),(([],(0,(0,()))),(([],(0,())),()))))).2.2.2.1.1,(List.getD v.2.2.2.2.2.1 (Int.toNat (w64 ((zz (List.length v.2.2.2.2.2.1)) - (1:Int)))) (([],()),(([],()),(([],(0,(0,()))),(([],(0,())),()))))).2.2.2.1.2.1,()),(List.getD v.1 (Int.toNat (w64 ((zz (List.length v.2.2.2.2.2.1)) - (1:Int)))) 0,()),())) fun y_2 =>
   tst (decide (List.length v.2.2.2.2.2.1 + 1 < LIM)) <|
   g0 (.c2 (v.1,v.2.1,v.2.2.1,v.2.2.2.1,v.2.2.2.2.1,v.2.2.2.2.2.1 ++ [((y_2.1.1,()),(y_2.1.2.1,()),(y_2.1.2.2.1,y_2.1.2.2.2.1,y_2.1.2.2.2.2.1,()),(y_2.1.2.2.2.2.2.1,y_2.1.2.2.2.2.2.2.1,()),())],v.2.2.2.2.2.2.1,v.2.2.2.2.2.2.2.1,v.2.2.2.2.2.2.2.2.1,v.2.2.2.2.2.2.2.2.2.1,v.2.2.2.2.2.2.2.2.2.2.1,v.2.2.2.2.2.2.2.2.2.2.2.1,v.2.2.2.2.2.2.2.2.2.2.2.2.1,v.2.2.2.2.2.2.2.2.2.2.2.2.2.1,v.2.2.2.2.2.2.2.2.2.2.2.2.2.2.1,v.2.2.2.2.2.2.2.2.2.2.2.2.2.2.2.1,v.2.2.2.2.2.2.2.2.2.2.2.2.2.2.2.2.1,v.2.2.2.2.2.2.2.2.2.2.2.2.2.2.2.2.2.1,v.2.2.2.2.2.2.2.2.2.2.2.2.2.2.2.2.2.2.1,v.2.2.2.2.2.2.2.2.2.2.2.2.2.2.2.2.2.2.2.1,v.2.2.2.2.2.2.2.2.2.2.2.2.2.2.2.2.2.2.2.2.1,v.2.2.2.2.2.2.2.2.2.2.2.2.2.2.2.2.2.2.2.2.2.1,v.2.2.2.2.2.2.2.2.2.2.2.2.2.2.2.2.2.2.2.2.2.2.1,v.2.2.2.2.2.2.2.2.2.2.2.2.2.2.2.2.2.2.2.2.2.2.2)))
  (tst (v.2.2.2.2.2.2.2.2.2.2.2.2.2.2.2.2.1 == v.2.2.2.2.2.2.2.2.2.2.2.2.2.2.2.2.2.2.2.2.2.2.1 && v.2.2.2.2.2.2.2.2.2.2.2.2.2.2.2.2.2.1 == v.2.2.2.2.2.2.2.2.2.2.2.2.2.2.2.2.2.2.2.2.2.2.2) <|
   tst (decide (0 ≤ v.2.2.2.2.2.2.2.2.1)) <|
   tst (decide (v.2.2.2.2.2.2.2.2.1 < (zz (List.length v.2.2.2.2.2.1)))) <|
   tst (decide (Int.toNat v.2.2.2.2.2.2.2.2.1 < List.length v.2.2.2.2.2.1)) <|
   some (((v.2.1,v.2.2.1,v.2.2.2.1,v.2.2.2.2.1,updF v.2.2.2.2.2.2.2.2.2.2.2.2.2.2.2.2.2.2.2.2.2.1 v.2.2.2.2.2.2.2.2.2.2.2.2.2.2.2.2.1 v.2.2.2.2.2.2.2.2.2.2.2.2.2.2.2.2.2.1 v.2.2.2.2.2.1,()),((List.getD v.2.2.2.2.2.1 (Int.toNat v.2.2.2.2.2.2.2.2.1) (([],()),(([],()),(([],(0,(0,()))),(([],(0,())),()))))).1.1,(List.getD v.2.2.2.2.2.1 (Int.toNat v.2.2.2.2.2.2.2.2.1) (([],()),(([],()),(([],(0,(0,()))),(([],(0,())),()))))).2.1.1,(List.getD v.2.2.2.2.2.1 (Int.toNat v.2.2.2.2.2.2.2.2.1) (([],()),(([],()),(([],(0,(0,()))),(([],(0,())),()))))).2.2.1.1,(List.getD v.2.2.2.2.2.1 (Int.toNat v.2.2.2.2.2.2.2.2.1) (([],()),(([],()),(([],(0,(0,()))),(([],(0,())),()))))).2.2.1.2.1,(List.getD v.2.2.2.2.2.1 (Int.toNat v.2.2.2.2.2.2.2.2.1) (([],()),(([],()),(([],(0,(0,()))),(([],(0,())),()))))).2.2.1.2.2.1,(List.getD v.2.2.2.2.2.1 (Int.toNat v.2.2.2.2.2.2.2.2.1) (([],()),(([],()),(([],(0,(0,()))),(([],(0,())),()))))).2.2.2.1.1,(List.getD v.2.2.2.2.2.1 (Int.toNat v.2.2.2.2.2.2.2.2.1) (([],()),(([],()),(([],(0,(0,()))),(([],(0,())),()))))).2.2.2.1.2.1,()),())))
def zaP (Z:Nat) (g0:zdZ → zck):zdZ → zck:=zaO Z g0
theorem zC5 (Z:Nat) (G):zkG.lp (zgU Z) 1 Z G (endX zgV zbA) 0 ztq = iter (zaP Z) Z:=C.lp_iter fun g v => by cases v <;> kernel_rfl
def zkH (Z:Nat) (X0:zdZ → zck) (d0:List NY) (d1:List Bool) (d2:List WY) (d3:List (List (List Int))) (d4:Int → Int → List SY) (x0:Int) (x1:Int) (x2:Int) (x3:List (List Int)) (x4:List Int) (x5:LP) (x6:Int) (x7:Int) (x8:LP) (x9:Int):zck :=
 tst (x0 == x0 && x1 == x1) <|
 cond ((zz (List.length (d4 x0 x1))) == (0:Int))
 (Option.bind (zos Z ()) fun y_2 =>
 tst (decide (0 ≤ x0)) <|
 tst (decide (x0 < (zz (List.length d3)))) <|
 tst (decide (0 ≤ x1)) <|
 tst (decide (x1 < (zz (List.length (List.getD d3 (Int.toNat x0) []))))) <|
 X0 (.c0 (List.getD (List.getD d3 (Int.toNat x0) []) (Int.toNat x1) [],d0,d1,d2,d3,[((y_2.1.1,()),(y_2.1.2.1,()),(y_2.1.2.2.1,y_2.1.2.2.2.1,y_2.1.2.2.2.2.1,()),(y_2.1.2.2.2.2.2.1,y_2.1.2.2.2.2.2.2.1,()),())],x0,x1,x2,x3,x4,x5,x6,x7,x8,x9,x0,x1,(0:Int),(0:Int),(0:Int),d4,x0,x1,d4 x0 x1)))
 (tst (decide (0 ≤ x0)) <|
 tst (decide (x0 < (zz (List.length d3)))) <|
 tst (decide (0 ≤ x1)) <|
 tst (decide (x1 < (zz (List.length (List.getD d3 (Int.toNat x0) []))))) <|
 X0 (.c1 (List.getD (List.getD d3 (Int.toNat x0) []) (Int.toNat x1) [],d0,d1,d2,d3,d4 x0 x1,x0,x1,x2,x3,x4,x5,x6,x7,x8,x9,x0,x1,(0:Int),(0:Int),(0:Int),d4,x0,x1)))
def zkI (Z:Nat) (z:(((List NY) × ((List Bool) × ((List WY) × ((List (List (List Int))) × ((Int → Int → List SY) × Unit))))) × ((Int × (Int × (Int × SumY))) × Unit))):zck:=zkH Z (iter (zaP Z) Z) z.1.1 z.1.2.1 z.1.2.2.1 z.1.2.2.2.1 z.1.2.2.2.2.1 z.2.1.1 z.2.1.2.1 z.2.1.2.2.1 z.2.1.2.2.2.1 z.2.1.2.2.2.2.1 z.2.1.2.2.2.2.2.1 z.2.1.2.2.2.2.2.2.1 z.2.1.2.2.2.2.2.2.2.1 z.2.1.2.2.2.2.2.2.2.2.1 z.2.1.2.2.2.2.2.2.2.2.2.1
theorem zC6 (Z:Nat) (xa:zbA.rt.T) (xd:zbA.D.T):zbA.go (zgU Z) Z zkG zgV xa xd = zkI Z (zbA.xb (xa,xd)) :=
 (show zbA.go (zgU Z) Z zkG zgV xa xd = zkH Z (zkG.lp (zgU Z) 1 Z (fun _ _ _ => none) (endX zgV zbA) 0 ztq) xa.1 xa.2.1 xa.2.2.1 xa.2.2.2.1 xa.2.2.2.2.1 xd.1.1 xd.1.2.1 xd.1.2.2.1 xd.1.2.2.2.1 xd.1.2.2.2.2.1 xd.1.2.2.2.2.2.1 xd.1.2.2.2.2.2.2.1 xd.1.2.2.2.2.2.2.2.1 xd.1.2.2.2.2.2.2.2.2.1 xd.1.2.2.2.2.2.2.2.2.2.1 by kernel_rfl).trans (by rw [zC5]; rfl)
abbrev zoG (Z:Nat):LE:=⟨zbA,zkI Z⟩
theorem zC7 (Z:Nat):EntryOK Tryz.prog 129 (zoG Z).te:=okF (T:=zgU Z) (fn:=Tryz.f129) (le:=zoG Z) (frz:=[]) (ann:=zto) (cuts:=ztp) (rv:=zgV) (TabOK.of (entCons (zCs Z) (entCons (zCq Z) entNil)) (methNil)) mixed (by kernel_rfl) (by kernel_rfl) (by kernel_rfl) (fun _ => rfl) (fun _ => rfl) (fun xa xd y h => ⟨Z,(zC6 Z xa xd).trans h⟩)
abbrev zcl:=Option (((List NY) × ((List Bool) × ((List WY) × ((List (List (List Int))) × ((Int → Int → List SY) × Unit))))) × ((Bool × Unit) × Unit))
def zgW (Z:Nat):Tab:=Tab.of [(76,(zta Z).te),(128,(ztn Z).te),(129,(zoG Z).te)] []
def ztr:List Norm:=[⟨[10,9,8,5,0],[],[],[]⟩]
noncomputable def zkJ:C:=irOf Tryz.prog Tryz.f97 [29] ztr []
def zgX:List (Nat × Option (Nat × Bool)):=[(4,none)]
abbrev zC8:Sx:=.grp (.dat (Kd.list KE) .nil) .nil
abbrev zC9:Sx:=.grp (.dat Kd.bool .nil) .nil
abbrev zDa:Rt:=.cells (.dat (Kd.list KN) (.dat (Kd.list Kd.bool) (.dat (Kd.list KW) (.dat (Kd.list (Kd.list (Kd.list I6))) (.mpo KS .nil)))))
abbrev zbB:LF:=.ref zDa zC8 zC9 false
abbrev zd0:=(Int) × (Int) × (List EY) × (Int) × (List NY) × (List Bool) × (List WY) × (List (List (List Int))) × (Int → Int → List SY)
def zts (v:zd0):Env × Heap:=([(10,SV.int .i64 v.1),(9,SV.int .i64 v.2.1),(8,SV.es KE v.2.2.1),(5,SV.int .i64 v.2.2.2.1),(0,SV.ptr 0 0)],[Blk.cells [SV.es KN v.2.2.2.2.1,SV.es Kd.bool v.2.2.2.2.2.1,SV.es KW v.2.2.2.2.2.2.1,SV.es (Kd.list (Kd.list I6)) v.2.2.2.2.2.2.2.1,SV.mapp 1] 0 5,Blk.mapo KS v.2.2.2.2.2.2.2.2 none])
def zgY (Z:Nat) (g0:zd0 → zcl) (v:zd0):zcl :=
 cond (decide (v.1 < v.2.1))
 (tst (decide (0 ≤ v.1)) <|
 tst (decide (v.1 < (zz (List.length v.2.2.1)))) <|
 cond (decide ((List.getD v.2.2.1 (Int.toNat v.1) (0,(0,(0,((([],()),(([],()),(([],(0,(0,()))),(([],(0,())),())))),()))))).1 ≤ v.2.2.2.1))
 (some (((v.2.2.2.2.1,v.2.2.2.2.2.1,v.2.2.2.2.2.2.1,v.2.2.2.2.2.2.2.1,v.2.2.2.2.2.2.2.2,()),(false,()),())))
 (Option.bind (zoC Z ((v.2.2.2.2.1,v.2.2.2.2.2.1,v.2.2.2.2.2.2.1,v.2.2.2.2.2.2.2.1,()),((List.getD v.2.2.1 (Int.toNat v.1) (0,(0,(0,((([],()),(([],()),(([],(0,(0,()))),(([],(0,())),())))),()))))).1,(List.getD v.2.2.1 (Int.toNat v.1) (0,(0,(0,((([],()),(([],()),(([],(0,(0,()))),(([],(0,())),())))),()))))).2.1,(List.getD v.2.2.1 (Int.toNat v.1) (0,(0,(0,((([],()),(([],()),(([],(0,(0,()))),(([],(0,())),())))),()))))).2.2.1,(List.getD v.2.2.1 (Int.toNat v.1) (0,(0,(0,((([],()),(([],()),(([],(0,(0,()))),(([],(0,())),())))),()))))).2.2.2.1.1.1,(List.getD v.2.2.1 (Int.toNat v.1) (0,(0,(0,((([],()),(([],()),(([],(0,(0,()))),(([],(0,())),())))),()))))).2.2.2.1.2.1.1,(List.getD v.2.2.1 (Int.toNat v.1) (0,(0,(0,((([],()),(([],()),(([],(0,(0,()))),(([],(0,())),())))),()))))).2.2.2.1.2.2.1.1,(List.getD v.2.2.1 (Int.toNat v.1) (0,(0,(0,((([],()),(([],()),(([],(0,(0,()))),(([],(0,())),())))),()))))).2.2.2.1.2.2.1.2.1,(List.getD v.2.2.1 (Int.toNat v.1) (0,(0,(0,((([],()),(([],()),(([],(0,(0,()))),(([],(0,())),())))),()))))).2.2.2.1.2.2.1.2.2.1,(List.getD v.2.2.1 (Int.toNat v.1) (0,(0,(0,((([],()),(([],()),(([],(0,(0,()))),(([],(0,())),())))),()))))).2.2.2.1.2.2.2.1.1,(List.getD v.2.2.1 (Int.toNat v.1) (0,(0,(0,((([],()),(([],()),(([],(0,(0,()))),(([],(0,())),())))),()))))).2.2.2.1.2.2.2.1.2.1,()),())) fun y_3 =>
 cond (!y_3.1.1)
 (some (((v.2.2.2.2.1,v.2.2.2.2.2.1,v.2.2.2.2.2.2.1,v.2.2.2.2.2.2.2.1,v.2.2.2.2.2.2.2.2,()),(false,()),())))
 (Option.bind (zkI Z ((v.2.2.2.2.1,v.2.2.2.2.2.1,v.2.2.2.2.2.2.1,v.2.2.2.2.2.2.2.1,v.2.2.2.2.2.2.2.2,()),((List.getD v.2.2.1 (Int.toNat v.1) (0,(0,(0,((([],()),(([],()),(([],(0,(0,()))),(([],(0,())),())))),()))))).1,(List.getD v.2.2.1 (Int.toNat v.1) (0,(0,(0,((([],()),(([],()),(([],(0,(0,()))),(([],(0,())),())))),()))))).2.1,(List.getD v.2.2.1 (Int.toNat v.1) (0,(0,(0,((([],()),(([],()),(([],(0,(0,()))),(([],(0,())),())))),()))))).2.2.1,(List.getD v.2.2.1 (Int.toNat v.1) (0,(0,(0,((([],()),(([],()),(([],(0,(0,()))),(([],(0,())),())))),()))))).2.2.2.1.1.1,(List.getD v.2.2.1 (Int.toNat v.1) (0,(0,(0,((([],()),(([],()),(([],(0,(0,()))),(([],(0,())),())))),()))))).2.2.2.1.2.1.1,(List.getD v.2.2.1 (Int.toNat v.1) (0,(0,(0,((([],()),(([],()),(([],(0,(0,()))),(([],(0,())),())))),()))))).2.2.2.1.2.2.1.1,(List.getD v.2.2.1 (Int.toNat v.1) (0,(0,(0,((([],()),(([],()),(([],(0,(0,()))),(([],(0,())),())))),()))))).2.2.2.1.2.2.1.2.1,(List.getD v.2.2.1 (Int.toNat v.1) (0,(0,(0,((([],()),(([],()),(([],(0,(0,()))),(([],(0,())),())))),()))))).2.2.2.1.2.2.1.2.2.1,(List.getD v.2.2.1 (Int.toNat v.1) (0,(0,(0,((([],()),(([],()),(([],(0,(0,()))),(([],(0,())),())))),()))))).2.2.2.1.2.2.2.1.1,(List.getD v.2.2.1 (Int.toNat v.1) (0,(0,(0,((([],()),(([],()),(([],(0,(0,()))),(([],(0,())),())))),()))))).2.2.2.1.2.2.2.1.2.1,()),())) fun y_5 =>
 Option.bind (zoF Z (((List.getD v.2.2.1 (Int.toNat v.1) (0,(0,(0,((([],()),(([],()),(([],(0,(0,()))),(([],(0,())),())))),()))))).2.2.2.1.1.1,(List.getD v.2.2.1 (Int.toNat v.1) (0,(0,(0,((([],()),(([],()),(([],(0,(0,()))),(([],(0,())),())))),()))))).2.2.2.1.2.1.1,(List.getD v.2.2.1 (Int.toNat v.1) (0,(0,(0,((([],()),(([],()),(([],(0,(0,()))),(([],(0,())),())))),()))))).2.2.2.1.2.2.1.1,(List.getD v.2.2.1 (Int.toNat v.1) (0,(0,(0,((([],()),(([],()),(([],(0,(0,()))),(([],(0,())),())))),()))))).2.2.2.1.2.2.1.2.1,(List.getD v.2.2.1 (Int.toNat v.1) (0,(0,(0,((([],()),(([],()),(([],(0,(0,()))),(([],(0,())),())))),()))))).2.2.2.1.2.2.1.2.2.1,(List.getD v.2.2.1 (Int.toNat v.1) (0,(0,(0,((([],()),(([],()),(([],(0,(0,()))),(([],(0,())),())))),()))))).2.2.2.1.2.2.2.1.1,(List.getD v.2.2.1 (Int.toNat v.1) (0,(0,(0,((([],()),(([],()),(([],(0,(0,()))),(([],(0,())),())))),()))))).2.2.2.1.2.2.2.1.2.1,()),(y_5.2.1.1,y_5.2.1.2.1,y_5.2.1.2.2.1,y_5.2.1.2.2.2.1,y_5.2.1.2.2.2.2.1,y_5.2.1.2.2.2.2.2.1,y_5.2.1.2.2.2.2.2.2.1,()),())) fun y_6 =>
 cond (!y_6.1.1)
 (some (((y_5.1.1,y_5.1.2.1,y_5.1.2.2.1,y_5.1.2.2.2.1,y_5.1.2.2.2.2.1,()),(false,()),())))
 (g0 (w64 (v.1 + (1:Int)),v.2.1,v.2.2.1,(List.getD v.2.2.1 (Int.toNat v.1) (0,(0,(0,((([],()),(([],()),(([],(0,(0,()))),(([],(0,())),())))),()))))).1,y_5.1.1,y_5.1.2.1,y_5.1.2.2.1,y_5.1.2.2.2.1,y_5.1.2.2.2.2.1)))))
 (some (((v.2.2.2.2.1,v.2.2.2.2.2.1,v.2.2.2.2.2.2.1,v.2.2.2.2.2.2.2.1,v.2.2.2.2.2.2.2.2,()),(true,()),())))
def zgZ (Z:Nat) (g0:zd0 → zcl):zd0 → zcl:=zgY Z g0
theorem zDb (Z:Nat) (G):zkJ.lp (zgW Z) 1 Z G (endX zgX zbB) 0 zts = iter (zgZ Z) Z:=C.lp_iter fun g v => by kernel_rfl
def ztt (Z:Nat) (X0:zd0 → zcl) (d0:List NY) (d1:List Bool) (d2:List WY) (d3:List (List (List Int))) (d4:Int → Int → List SY) (x0:List EY):zcl :=
 X0 ((0:Int),(zz (List.length x0)),x0,(-1:Int),d0,d1,d2,d3,d4)
def zg0 (Z:Nat) (z:(((List NY) × ((List Bool) × ((List WY) × ((List (List (List Int))) × ((Int → Int → List SY) × Unit))))) × (((List EY) × Unit) × Unit))):zcl:=ztt Z (iter (zgZ Z) Z) z.1.1 z.1.2.1 z.1.2.2.1 z.1.2.2.2.1 z.1.2.2.2.2.1 z.2.1.1
theorem zDc (Z:Nat) (xa:zbB.rt.T) (xd:zbB.D.T):zbB.go (zgW Z) Z zkJ zgX xa xd = zg0 Z (zbB.xb (xa,xd)) :=
 (show zbB.go (zgW Z) Z zkJ zgX xa xd = ztt Z (zkJ.lp (zgW Z) 1 Z (fun _ _ _ => none) (endX zgX zbB) 0 zts) xa.1 xa.2.1 xa.2.2.1 xa.2.2.2.1 xa.2.2.2.2.1 xd.1.1 by kernel_rfl).trans (by rw [zDb]; rfl)
abbrev zoH (Z:Nat):LE:=⟨zbB,zg0 Z⟩
theorem ztu (Z:Nat):EntryOK Tryz.prog 97 (zoH Z).te:=okF (T:=zgW Z) (fn:=Tryz.f97) (le:=zoH Z) (frz:=[29]) (ann:=ztr) (cuts:=[]) (rv:=zgX) (TabOK.of (entCons (zCH Z) (entCons (zC1 Z) (entCons (zC7 Z) entNil))) (methNil)) mixed (by kernel_rfl) (by kernel_rfl) (by kernel_rfl) (fun _ => rfl) (fun _ => rfl) (fun xa xd y h => ⟨Z,(zDc Z xa xd).trans h⟩)
abbrev zcm:=Option (((List NY) × ((List Bool) × ((List WY) × ((List (List (List Int))) × ((Int → Int → List SY) × Unit))))) × ((Bool × Unit) × Unit))
def zg1 (Z:Nat):Tab:=Tab.of [(97,(zoH Z).te)] []
def ztv:List Norm:=[⟨[24,23,22,1,5,0],[],[],[]⟩]
noncomputable def zkK:C:=irOf Tryz.prog Tryz.f57 [] ztv []
def zg2:List (Nat × Option (Nat × Bool)):=[(4,none)]
abbrev zDd:Sx:=.grp (.dat I6 .nil) .nil
abbrev zDe:Sx:=.grp (.dat Kd.bool .nil) .nil
abbrev zDf:Rt:=.cells (.dat (Kd.list KN) (.dat (Kd.list Kd.bool) (.dat (Kd.list KW) (.dat (Kd.list (Kd.list (Kd.list I6))) (.mpo KS .nil)))))
abbrev zbC:LF:=.ref zDf zDd zDe false
abbrev zd1:=(Int) × (Int) × (List EY) × (Int) × (List NY) × (List Bool) × (List WY) × (List (List (List Int))) × (Int) × (List EY) × (Int) × (Int) × (Int) × (Int → Int → List SY)
def ztw (v:zd1):Env × Heap:=([(24,SV.int .i64 v.1),(23,SV.int .i64 v.2.1),(22,SV.es KE v.2.2.1),(1,SV.int .i64 v.2.2.2.1),(5,SV.ptr 1 0),(0,SV.ptr 0 0)],[Blk.cells [SV.es KN v.2.2.2.2.1,SV.es Kd.bool v.2.2.2.2.2.1,SV.es KW v.2.2.2.2.2.2.1,SV.es (Kd.list (Kd.list I6)) v.2.2.2.2.2.2.2.1,SV.mapp 2] 0 5,Blk.cells [SV.int .i64 v.2.2.2.2.2.2.2.2.1,SV.es KE v.2.2.2.2.2.2.2.2.2.1,SV.int .i64 v.2.2.2.2.2.2.2.2.2.2.1,SV.int .i64 v.2.2.2.2.2.2.2.2.2.2.2.1,SV.int .i64 v.2.2.2.2.2.2.2.2.2.2.2.2.1] 0 5,Blk.mapo KS v.2.2.2.2.2.2.2.2.2.2.2.2.2 none])
def zg3 (Z:Nat) (g0:zd1 → zcm) (v:zd1):zcm :=
 cond (decide (v.1 < v.2.1))
 (tst (decide (0 ≤ v.1)) <|
 tst (decide (v.1 < (zz (List.length v.2.2.1)))) <|
 cond ((List.getD v.2.2.1 (Int.toNat v.1) (0,(0,(0,((([],()),(([],()),(([],(0,(0,()))),(([],(0,())),())))),()))))).1 == v.2.2.2.1)
 (cond ((List.getD v.2.2.1 (Int.toNat v.1) (0,(0,(0,((([],()),(([],()),(([],(0,(0,()))),(([],(0,())),())))),()))))).2.1 == v.2.2.2.2.2.2.2.2.1)
 (tst (decide (0 ≤ v.2.2.2.1)) <|
 tst (decide (v.2.2.2.1 < (zz (List.length v.2.2.2.2.2.2.2.1)))) <|
 tst (decide (0 ≤ v.2.2.2.2.2.2.2.2.1)) <|
 tst (decide (v.2.2.2.2.2.2.2.2.1 < (zz (List.length (List.getD v.2.2.2.2.2.2.2.1 (Int.toNat v.2.2.2.1) []))))) <|
 some (((v.2.2.2.2.1,v.2.2.2.2.2.1,v.2.2.2.2.2.2.1,v.2.2.2.2.2.2.2.1,v.2.2.2.2.2.2.2.2.2.2.2.2.2,()),((List.getD v.2.2.1 (Int.toNat v.1) (0,(0,(0,((([],()),(([],()),(([],(0,(0,()))),(([],(0,())),())))),()))))).2.2.1 == (zz (List.length (List.getD (List.getD v.2.2.2.2.2.2.2.1 (Int.toNat v.2.2.2.1) []) (Int.toNat v.2.2.2.2.2.2.2.2.1) []))),()),())))
 (some (((v.2.2.2.2.1,v.2.2.2.2.2.1,v.2.2.2.2.2.2.1,v.2.2.2.2.2.2.2.1,v.2.2.2.2.2.2.2.2.2.2.2.2.2,()),(false,()),()))))
 (g0 (w64 (v.1 + (1:Int)),v.2.1,v.2.2.1,v.2.2.2.1,v.2.2.2.2.1,v.2.2.2.2.2.1,v.2.2.2.2.2.2.1,v.2.2.2.2.2.2.2.1,v.2.2.2.2.2.2.2.2.1,v.2.2.2.2.2.2.2.2.2.1,v.2.2.2.2.2.2.2.2.2.2.1,v.2.2.2.2.2.2.2.2.2.2.2.1,v.2.2.2.2.2.2.2.2.2.2.2.2.1,v.2.2.2.2.2.2.2.2.2.2.2.2.2)))
 (some (((v.2.2.2.2.1,v.2.2.2.2.2.1,v.2.2.2.2.2.2.1,v.2.2.2.2.2.2.2.1,v.2.2.2.2.2.2.2.2.2.2.2.2.2,()),(false,()),())))
def zkL (Z:Nat) (g0:zd1 → zcm):zd1 → zcm:=zg3 Z g0
theorem zDg (Z:Nat) (G):zkK.lp (zg1 Z) 1 Z G (endX zg2 zbC) 0 ztw = iter (zkL Z) Z:=C.lp_iter fun g v => by kernel_rfl
def zkM (Z:Nat) (X0:zd1 → zcm) (d0:List NY) (d1:List Bool) (d2:List WY) (d3:List (List (List Int))) (d4:Int → Int → List SY) (x0:Int):zcm :=
 tst (decide (0 ≤ x0)) <|
 tst (decide (x0 < (zz (List.length d0)))) <|
 Option.bind (zg0 Z ((d0,d1,d2,d3,d4,()),((List.getD d0 (Int.toNat x0) (0,([],(0,(0,(0,())))))).2.1,()),())) fun y_1 =>
 cond (!y_1.2.1.1)
 (some (((y_1.1.1,y_1.1.2.1,y_1.1.2.2.1,y_1.1.2.2.2.1,y_1.1.2.2.2.2.1,()),(false,()),())))
 (X0 ((0:Int),(zz (List.length (List.getD d0 (Int.toNat x0) (0,([],(0,(0,(0,())))))).2.1)),(List.getD d0 (Int.toNat x0) (0,([],(0,(0,(0,())))))).2.1,x0,y_1.1.1,y_1.1.2.1,y_1.1.2.2.1,y_1.1.2.2.2.1,(List.getD d0 (Int.toNat x0) (0,([],(0,(0,(0,())))))).1,(List.getD d0 (Int.toNat x0) (0,([],(0,(0,(0,())))))).2.1,(List.getD d0 (Int.toNat x0) (0,([],(0,(0,(0,())))))).2.2.1,(List.getD d0 (Int.toNat x0) (0,([],(0,(0,(0,())))))).2.2.2.1,(List.getD d0 (Int.toNat x0) (0,([],(0,(0,(0,())))))).2.2.2.2.1,y_1.1.2.2.2.2.1))
def zkN (Z:Nat) (z:(((List NY) × ((List Bool) × ((List WY) × ((List (List (List Int))) × ((Int → Int → List SY) × Unit))))) × ((Int × Unit) × Unit))):zcm:=zkM Z (iter (zkL Z) Z) z.1.1 z.1.2.1 z.1.2.2.1 z.1.2.2.2.1 z.1.2.2.2.2.1 z.2.1.1
theorem zDh (Z:Nat) (xa:zbC.rt.T) (xd:zbC.D.T):zbC.go (zg1 Z) Z zkK zg2 xa xd = zkN Z (zbC.xb (xa,xd)) :=
 (show zbC.go (zg1 Z) Z zkK zg2 xa xd = zkM Z (zkK.lp (zg1 Z) 1 Z (fun _ _ _ => none) (endX zg2 zbC) 0 ztw) xa.1 xa.2.1 xa.2.2.1 xa.2.2.2.1 xa.2.2.2.2.1 xd.1.1 by kernel_rfl).trans (by rw [zDg]; rfl)
abbrev zoI (Z:Nat):LE:=⟨zbC,zkN Z⟩
theorem zDi (Z:Nat):EntryOK Tryz.prog 57 (zoI Z).te:=okF (T:=zg1 Z) (fn:=Tryz.f57) (le:=zoI Z) (frz:=[]) (ann:=ztv) (cuts:=[]) (rv:=zg2) (TabOK.of (entCons (ztu Z) entNil) (methNil)) mixed (by kernel_rfl) (by kernel_rfl) (by kernel_rfl) (fun _ => rfl) (fun _ => rfl) (fun xa xd y h => ⟨Z,(zDh Z xa xd).trans h⟩)
def zoJ (Z:Nat) (d0:List NY) (d1:List Bool) (d2:List WY) (d3:List (List (List Int))) (d4:Int → Int → List SY) (x0:Int) (x1:Int) (x2:Int) (x3:Int) (x4:Int) (x5:List EY):Option (((List NY) × ((List Bool) × ((List WY) × ((List (List (List Int))) × ((Int → Int → List SY) × Unit))))) × ((Bool × Unit) × Unit)) :=
 Option.bind (zdU Z ((x1,()),())) fun y_1 =>
 cond (!y_1.1.1)
 (some (((d0,d1,d2,d3,d4,()),(false,()),())))
 (Option.bind (zdU Z ((x2,()),())) fun y_3 =>
 cond (!y_3.1.1)
 (some (((d0,d1,d2,d3,d4,()),(false,()),())))
 (cond (x1 == x2)
 (some (((d0,d1,d2,d3,d4,()),(false,()),())))
 (cond (x0 == (1:Int))
 (cond (decide (x3 ≥ (0:Int)))
 (tst (decide ((0:Int) < (zz (List.length d0)))) <|
 cond (decide (x3 ≤ (List.getD d0 (Int.toNat (0:Int)) (0,([],(0,(0,(0,())))))).2.2.1))
 (cond (decide (x4 ≥ (0:Int)))
 (cond (decide (x4 < (5:Int)))
 (some (((d0,d1,d2,d3,d4,()),((zz (List.length x5)) == (0:Int),()),())))
 (some (((d0,d1,d2,d3,d4,()),(false,()),()))))
 (some (((d0,d1,d2,d3,d4,()),(false,()),()))))
 (some (((d0,d1,d2,d3,d4,()),(false,()),()))))
 (some (((d0,d1,d2,d3,d4,()),(false,()),()))))
 (cond (x0 == (2:Int))
 (cond (x3 == (0:Int))
 (cond (x4 == (0:Int))
 (Option.bind (zg0 Z ((d0,d1,d2,d3,d4,()),(x5,()),())) fun y_10 =>
 some (((y_10.1.1,y_10.1.2.1,y_10.1.2.2.1,y_10.1.2.2.2.1,y_10.1.2.2.2.2.1,()),(y_10.2.1.1,()),())))
 (some (((d0,d1,d2,d3,d4,()),(false,()),()))))
 (some (((d0,d1,d2,d3,d4,()),(false,()),()))))
 (some (((d0,d1,d2,d3,d4,()),(false,()),())))))))
def zoK (Z:Nat) (z:(((List NY) × ((List Bool) × ((List WY) × ((List (List (List Int))) × ((Int → Int → List SY) × Unit))))) × (WY × Unit))):Option (((List NY) × ((List Bool) × ((List WY) × ((List (List (List Int))) × ((Int → Int → List SY) × Unit))))) × ((Bool × Unit) × Unit)):=zoJ Z z.1.1 z.1.2.1 z.1.2.2.1 z.1.2.2.2.1 z.1.2.2.2.2.1 z.2.1.1 z.2.1.2.1 z.2.1.2.2.1 z.2.1.2.2.2.1 z.2.1.2.2.2.2.1 z.2.1.2.2.2.2.2.1
abbrev ztx (Z:Nat):LE:=⟨.ref (.cells (.dat (Kd.list KN) (.dat (Kd.list Kd.bool) (.dat (Kd.list KW) (.dat (Kd.list (Kd.list (Kd.list I6))) (.mpo KS .nil)))))) (.agg (.dat I6 (.dat I6 (.dat I6 (.dat I6 (.dat I6 (.dat (Kd.list KE) .nil)))))) .nil) (.grp (.dat Kd.bool .nil) .nil) false,zoK Z⟩
theorem zDj (Z:Nat):EntryOK Tryz.prog 58 (ztx Z).te:=okS (fn:=Tryz.f58) (frz:=[]) (ann:=[]) (cuts:=[]) (rv:=[(4,none)]) Z (TabOK.of (entCons (zoy Z) (entCons (ztu Z) entNil)) (methNil)) mixed (by kernel_rfl) (by kernel_rfl) (by kernel_rfl) (fun _ => rfl) (fun _ => rfl) (fun _ _ => by kernel_rfl)
def zK (Z:Nat):Tab:=Tab.of [(54,(zou Z).te),(55,(zow Z).te),(56,(zs9 Z).te),(57,(zoI Z).te),(58,(ztx Z).te)] []
def zty:List Norm:=[⟨[33,32,1],[],[],[]⟩,{ live:=[57,56,4,1],fix:=[],tr:=[(4,some 4,KS,0)] },{ live:=[74,73,72,4],fix:=[],tr:=[(4,some 4,KS,0)] }]
noncomputable def zH:C:=irOf Tryz.prog Tryz.f15 [] zty []
def zaj:List (Nat × Option (Nat × Bool)):=[(2,none)]
abbrev zDk:Sx:=.agg (.dat (Kd.list KN) (.dat (Kd.list Kd.bool) (.dat (Kd.list KW) (.dat (Kd.list (Kd.list (Kd.list I6))) .nil)))) .nil
abbrev zDl:Sx:=.grp (.dat Kd.bool .nil) .nil
abbrev zI:LF:=.pure zDk zDl true
abbrev zd2:=(Int) × (Int) × (List NY) × (List Bool) × (List WY) × (List (List (List Int)))
abbrev zd3:=(Int) × (Int) × (List NY) × (List Bool) × (List WY) × (List (List (List Int))) × (List NY) × (List Bool) × (List WY) × (List (List (List Int))) × (Int → Int → List SY)
abbrev zd4:=(Int) × (Int) × (List WY) × (List NY) × (List Bool) × (List WY) × (List (List (List Int))) × (Int → Int → List SY)
def zd5 (v:zd2):Env × Heap:=([(33,SV.int .i64 v.1),(32,SV.int .i64 v.2.1),(1,SV.ptr 0 0)],[Blk.cells [SV.es KN v.2.2.1,SV.es Kd.bool v.2.2.2.1,SV.es KW v.2.2.2.2.1,SV.es (Kd.list (Kd.list I6)) v.2.2.2.2.2] 0 4])
def zd6 (v:zd3):Env × Heap:=([(57,SV.int .i64 v.1),(56,SV.int .i64 v.2.1),(4,SV.ptr 0 0),(1,SV.ptr 1 0)],[Blk.cells [SV.es KN v.2.2.1,SV.es Kd.bool v.2.2.2.1,SV.es KW v.2.2.2.2.1,SV.es (Kd.list (Kd.list I6)) v.2.2.2.2.2.1,SV.mapp 2] 0 5,Blk.cells [SV.es KN v.2.2.2.2.2.2.1,SV.es Kd.bool v.2.2.2.2.2.2.2.1,SV.es KW v.2.2.2.2.2.2.2.2.1,SV.es (Kd.list (Kd.list I6)) v.2.2.2.2.2.2.2.2.2.1] 0 4,Blk.mapo KS v.2.2.2.2.2.2.2.2.2.2 none])
def ztz (v:zd4):Env × Heap:=([(74,SV.int .i64 v.1),(73,SV.int .i64 v.2.1),(72,SV.es KW v.2.2.1),(4,SV.ptr 0 0)],[Blk.cells [SV.es KN v.2.2.2.1,SV.es Kd.bool v.2.2.2.2.1,SV.es KW v.2.2.2.2.2.1,SV.es (Kd.list (Kd.list I6)) v.2.2.2.2.2.2.1,SV.mapp 1] 0 5,Blk.mapo KS v.2.2.2.2.2.2.2 none])
def zg4 (Z:Nat) (g2:zd4 → Option ((Bool × Unit) × Unit)) (v:zd4):Option ((Bool × Unit) × Unit) :=
 cond (decide (v.1 < v.2.1))
 (tst (decide (0 ≤ v.1)) <|
 tst (decide (v.1 < (zz (List.length v.2.2.1)))) <|
 Option.bind (zoK Z ((v.2.2.2.1,v.2.2.2.2.1,v.2.2.2.2.2.1,v.2.2.2.2.2.2.1,v.2.2.2.2.2.2.2,()),((List.getD v.2.2.1 (Int.toNat v.1) (0,(0,(0,(0,(0,([],()))))))).1,(List.getD v.2.2.1 (Int.toNat v.1) (0,(0,(0,(0,(0,([],()))))))).2.1,(List.getD v.2.2.1 (Int.toNat v.1) (0,(0,(0,(0,(0,([],()))))))).2.2.1,(List.getD v.2.2.1 (Int.toNat v.1) (0,(0,(0,(0,(0,([],()))))))).2.2.2.1,(List.getD v.2.2.1 (Int.toNat v.1) (0,(0,(0,(0,(0,([],()))))))).2.2.2.2.1,(List.getD v.2.2.1 (Int.toNat v.1) (0,(0,(0,(0,(0,([],()))))))).2.2.2.2.2.1,()),())) fun y_2 =>
 cond (!y_2.2.1.1)
 (some (((false,()),())))
 (g2 (w64 (v.1 + (1:Int)),v.2.1,v.2.2.1,y_2.1.1,y_2.1.2.1,y_2.1.2.2.1,y_2.1.2.2.2.1,y_2.1.2.2.2.2.1)))
 (some (((true,()),())))
def zcn (Z:Nat) (g2:zd4 → Option ((Bool × Unit) × Unit)):zd4 → Option ((Bool × Unit) × Unit):=zg4 Z g2
theorem zDm (Z:Nat) (G):zH.lp (zK Z) 0 Z G (endX zaj zI) 2 ztz = iter (zcn Z) Z:=C.lp_iter fun g v => by kernel_rfl
def zd7 (Z:Nat) (X2:zd4 → Option ((Bool × Unit) × Unit)) (g1:zd3 → Option ((Bool × Unit) × Unit)) (v:zd3):Option ((Bool × Unit) × Unit) :=
 cond (decide (v.1 < v.2.1))
 (Option.bind (zoA Z ((v.2.2.1,v.2.2.2.1,v.2.2.2.2.1,v.2.2.2.2.2.1,v.2.2.2.2.2.2.2.2.2.2,()),(v.1,()),())) fun y_2 =>
 cond (!y_2.2.1.1)
 (some (((false,()),())))
 (Option.bind (zkN Z ((y_2.1.1,y_2.1.2.1,y_2.1.2.2.1,y_2.1.2.2.2.1,y_2.1.2.2.2.2.1,()),(v.1,()),())) fun y_4 =>
 cond (!y_4.2.1.1)
 (some (((false,()),())))
 (g1 (w64 (v.1 + (1:Int)),v.2.1,y_4.1.1,y_4.1.2.1,y_4.1.2.2.1,y_4.1.2.2.2.1,v.2.2.2.2.2.2.1,v.2.2.2.2.2.2.2.1,v.2.2.2.2.2.2.2.2.1,v.2.2.2.2.2.2.2.2.2.1,y_4.1.2.2.2.2.1))))
 (X2 ((0:Int),(zz (List.length v.2.2.2.2.2.2.2.2.1)),v.2.2.2.2.2.2.2.2.1,v.2.2.1,v.2.2.2.1,v.2.2.2.2.1,v.2.2.2.2.2.1,v.2.2.2.2.2.2.2.2.2.2))
def zaQ (Z:Nat) (g1:zd3 → Option ((Bool × Unit) × Unit)):zd3 → Option ((Bool × Unit) × Unit):=zd7 Z (iter (zcn Z) Z) g1
theorem zDn (Z:Nat) (G):zH.lp (zK Z) 0 Z G (endX zaj zI) 1 zd6 = iter (zaQ Z) Z:=C.lp_iter fun g v =>
 (show run (zK Z) 0 Z (zH.bdAt 1) (zd6 v).1 (zd6 v).2 (loopK 0 (zH.nmAt 1) g (zH.contAt (zK Z) 0 Z G 0 1 (endX zaj zI))) = zd7 Z (zH.lp (zK Z) 0 Z (fun m => bif Nat.beq m 1 then g else G m) (endX zaj zI) 2 ztz) (fun v => g (zd6 v).1 (zd6 v).2) v by kernel_rfl).trans (by rw [zDm]; rfl)
def zd8 (Z:Nat) (X1:zd3 → Option ((Bool × Unit) × Unit)) (g0:zd2 → Option ((Bool × Unit) × Unit)) (v:zd2):Option ((Bool × Unit) × Unit) :=
 cond (decide (v.1 < v.2.1))
 (tst (decide (0 ≤ v.1)) <|
 tst (decide (v.1 < (zz (List.length v.2.2.2.2.2)))) <|
 tst (decide (0 ≤ v.1)) <|
 tst (decide (v.1 < (zz (List.length v.2.2.1)))) <|
 Option.bind (zkq Z ((List.getD v.2.2.2.2.2 (Int.toNat v.1) [],()),((List.getD v.2.2.1 (Int.toNat v.1) (0,([],(0,(0,(0,())))))).1,()),())) fun y_2 =>
 cond (!y_2.1.1)
 (some (((false,()),())))
 (g0 (w64 (v.1 + (1:Int)),v.2.1,v.2.2.1,v.2.2.2.1,v.2.2.2.2.1,v.2.2.2.2.2)))
 (X1 ((0:Int),(zz (List.length v.2.2.1)),v.2.2.1,v.2.2.2.1,v.2.2.2.2.1,v.2.2.2.2.2,v.2.2.1,v.2.2.2.1,v.2.2.2.2.1,v.2.2.2.2.2,fun x x_1 => []))
def zg5 (Z:Nat) (g0:zd2 → Option ((Bool × Unit) × Unit)):zd2 → Option ((Bool × Unit) × Unit):=zd8 Z (iter (zaQ Z) Z) g0
theorem zDo (Z:Nat) (G):zH.lp (zK Z) 0 Z G (endX zaj zI) 0 zd5 = iter (zg5 Z) Z:=C.lp_iter fun g v =>
 (show run (zK Z) 0 Z (zH.bdAt 0) (zd5 v).1 (zd5 v).2 (loopK 0 (zH.nmAt 0) g (zH.contAt (zK Z) 0 Z G 0 0 (endX zaj zI))) = zd8 Z (zH.lp (zK Z) 0 Z (fun m => bif Nat.beq m 0 then g else G m) (endX zaj zI) 1 zd6) (fun v => g (zd5 v).1 (zd5 v).2) v by kernel_rfl).trans (by rw [zDn]; rfl)
def zkO (Z:Nat) (X0:zd2 → Option ((Bool × Unit) × Unit)) (x0:List NY) (x1:List Bool) (x2:List WY) (x3:List (List (List Int))):Option ((Bool × Unit) × Unit) :=
 cond ((zz (List.length x0)) != (5:Int))
 (some (((false,()),())))
 (cond ((zz (List.length x3)) != (5:Int))
 (some (((false,()),())))
 (Option.bind (zkn Z ((x1,()),())) fun y_3 =>
 cond (!y_3.1.1)
 (some (((false,()),())))
 (cond (decide ((zz (List.length x2)) > (24:Int)))
 (some (((false,()),())))
 (X0 ((0:Int),(zz (List.length x0)),x0,x1,x2,x3)))))
def zkP (Z:Nat) (z:(((List NY) × ((List Bool) × ((List WY) × ((List (List (List Int))) × Unit)))) × Unit)):Option ((Bool × Unit) × Unit):=zkO Z (iter (zg5 Z) Z) z.1.1 z.1.2.1 z.1.2.2.1 z.1.2.2.2.1
theorem zDp (Z:Nat) (xa:zI.rt.T) (xd:zI.D.T):zI.go (zK Z) Z zH zaj xa xd = zkP Z (zI.xb (xa,xd)) :=
 (show zI.go (zK Z) Z zH zaj xa xd = zkO Z (zH.lp (zK Z) 0 Z (fun _ _ _ => none) (endX zaj zI) 0 zd5) xd.1.1 xd.1.2.1 xd.1.2.2.1 xd.1.2.2.2.1 by kernel_rfl).trans (by rw [zDo]; rfl)
abbrev zoL (Z:Nat):LE:=⟨zI,zkP Z⟩
theorem zDq (Z:Nat):EntryOK Tryz.prog 15 (zoL Z).te:=okF (T:=zK Z) (fn:=Tryz.f15) (le:=zoL Z) (frz:=[]) (ann:=zty) (cuts:=[]) (rv:=zaj) (TabOK.of (entCons (zCy Z) (entCons (zCE Z) (entCons (zCG Z) (entCons (zDi Z) (entCons (zDj Z) entNil))))) (methNil)) mixed (by kernel_rfl) (by kernel_rfl) (by kernel_rfl) (fun _ => rfl) (fun _ => rfl) (fun xa xd y h => ⟨Z,(zDp Z xa xd).trans h⟩)
end Go.Proofs.YtljojacnjjgceaaGreat.Den
namespace Go.Proofs.YtljojacnjjgceaaGreat.Den
open Go Go.RowKit
def zDr (Z:Nat) (x0:List Int) (x1:Int):Option ((Int × Unit) × Unit) :=
 cond (decide (w64 (x1 - (zz (List.length x0))) < (0:Int)))
 (some ((((-1:Int),()),())))
 (some (((w64 (x1 - (zz (List.length x0))),()),())))
def zg6 (Z:Nat) (z:(((List Int) × Unit) × ((Int × Unit) × Unit))):Option ((Int × Unit) × Unit):=zDr Z z.1.1 z.2.1.1
abbrev ztA (Z:Nat):LE:=⟨.pure (.grp (.dat (Kd.list I6) .nil) (.grp (.dat I6 .nil) .nil)) (.grp (.dat I6 .nil) .nil) true,zg6 Z⟩
theorem ztB (Z:Nat):EntryOK Tryz.prog 131 (ztA Z).te:=okS (fn:=Tryz.f131) (frz:=[]) (ann:=[]) (cuts:=[]) (rv:=[(4,none)]) Z (TabOK.of (entNil) (methNil)) mixed (by kernel_rfl) (by kernel_rfl) (by kernel_rfl) (fun _ => rfl) (fun _ => rfl) (fun _ _ => by kernel_rfl)
def zg7 (Z:Nat):Tab:=Tab.of [(131,(ztA Z).te)] []
def ztC:List Norm:=[⟨[5,0,1],[],[],[]⟩]
noncomputable def zkQ:C:=irOf Tryz.prog Tryz.f102 [] ztC []
def zg8:List (Nat × Option (Nat × Bool)):=[(4,none)]
abbrev zDs:Sx:=.grp (.dat (Kd.list (Kd.list I6)) .nil) (.grp (.dat I6 .nil) .nil)
abbrev zDt:Sx:=.grp (.dat I6 .nil) .nil
abbrev zbD:LF:=.pure zDs zDt true
abbrev zd9:=(Int) × (List (List Int)) × (Int)
def ztD (v:zd9):Env × Heap:=([(5,SV.int .i64 v.1),(0,SV.es (Kd.list I6) v.2.1),(1,SV.int .i64 v.2.2)],[])
def zg9 (Z:Nat) (g0:zd9 → Option ((Int × Unit) × Unit)) (v:zd9):Option ((Int × Unit) × Unit) :=
 cond (decide (v.1 < (zz (List.length v.2.1))))
 (tst (decide (0 ≤ v.1)) <|
 tst (decide (v.1 < (zz (List.length v.2.1)))) <|
 Option.bind (zg6 Z ((List.getD v.2.1 (Int.toNat v.1) [],()),(v.2.2,()),())) fun y_2 =>
 cond (decide (y_2.1.1 < (0:Int)))
 (some ((((-1:Int),()),())))
 (g0 (w64 (v.1 + (1:Int)),v.2.1,y_2.1.1)))
 (some (((v.2.2,()),())))
def zoM (Z:Nat) (g0:zd9 → Option ((Int × Unit) × Unit)):zd9 → Option ((Int × Unit) × Unit):=zg9 Z g0
theorem zDu (Z:Nat) (G):zkQ.lp (zg7 Z) 0 Z G (endX zg8 zbD) 0 ztD = iter (zoM Z) Z:=C.lp_iter fun g v => by kernel_rfl
def ztE (Z:Nat) (X0:zd9 → Option ((Int × Unit) × Unit)) (x0:List (List Int)) (x1:Int):Option ((Int × Unit) × Unit) :=
 cond (decide (w64 (x1 - (zz (List.length x0))) < (0:Int)))
 (some ((((-1:Int),()),())))
 (X0 ((0:Int),x0,w64 (x1 - (zz (List.length x0)))))
def zea (Z:Nat) (z:(((List (List Int)) × Unit) × ((Int × Unit) × Unit))):Option ((Int × Unit) × Unit):=ztE Z (iter (zoM Z) Z) z.1.1 z.2.1.1
theorem zDv (Z:Nat) (xa:zbD.rt.T) (xd:zbD.D.T):zbD.go (zg7 Z) Z zkQ zg8 xa xd = zea Z (zbD.xb (xa,xd)) :=
 (show zbD.go (zg7 Z) Z zkQ zg8 xa xd = ztE Z (zkQ.lp (zg7 Z) 0 Z (fun _ _ _ => none) (endX zg8 zbD) 0 ztD) xd.1.1 xd.2.1.1 by kernel_rfl).trans (by rw [zDu]; rfl)
abbrev zoN (Z:Nat):LE:=⟨zbD,zea Z⟩
theorem ztF (Z:Nat):EntryOK Tryz.prog 102 (zoN Z).te:=okF (T:=zg7 Z) (fn:=Tryz.f102) (le:=zoN Z) (frz:=[]) (ann:=ztC) (cuts:=[]) (rv:=zg8) (TabOK.of (entCons (ztB Z) entNil) (methNil)) mixed (by kernel_rfl) (by kernel_rfl) (by kernel_rfl) (fun _ => rfl) (fun _ => rfl) (fun xa xd y h => ⟨Z,(zDv Z xa xd).trans h⟩)
def zDw (Z:Nat) (x0:List (List Int)) (x1:Int):Option ((Int × Unit) × Unit) :=
 Option.bind (zea Z ((x0,()),(x1,()),())) fun y_1 =>
 cond (decide (y_1.1.1 < (0:Int)))
 (some ((((-1:Int),()),())))
 (some (((y_1.1.1,()),())))
def ztG (Z:Nat) (z:(((List (List Int)) × Unit) × ((Int × Unit) × Unit))):Option ((Int × Unit) × Unit):=zDw Z z.1.1 z.2.1.1
abbrev zDx (Z:Nat):LE:=⟨.pure (.agg (.dat (Kd.list (Kd.list I6)) .nil) (.grp (.dat I6 .nil) .nil)) (.grp (.dat I6 .nil) .nil) true,ztG Z⟩
theorem zDy (Z:Nat):EntryOK Tryz.prog 197 (zDx Z).te:=okS (fn:=Tryz.f197) (frz:=[]) (ann:=[]) (cuts:=[]) (rv:=[(4,none)]) Z (TabOK.of (entCons (ztF Z) entNil) (methNil)) mixed (by kernel_rfl) (by kernel_rfl) (by kernel_rfl) (fun _ => rfl) (fun _ => rfl) (fun _ _ => by kernel_rfl)
def zDz (Z:Nat) (x0:List Int) (x1:Int):Option ((Int × Unit) × Unit) :=
 Option.bind (zg6 Z ((x0,()),(x1,()),())) fun y_1 =>
 cond (decide (y_1.1.1 < (0:Int)))
 (some ((((-1:Int),()),())))
 (some (((y_1.1.1,()),())))
def ztH (Z:Nat) (z:(((List Int) × Unit) × ((Int × Unit) × Unit))):Option ((Int × Unit) × Unit):=zDz Z z.1.1 z.2.1.1
abbrev zDA (Z:Nat):LE:=⟨.pure (.agg (.dat (Kd.list I6) .nil) (.grp (.dat I6 .nil) .nil)) (.grp (.dat I6 .nil) .nil) true,ztH Z⟩
theorem zDB (Z:Nat):EntryOK Tryz.prog 198 (zDA Z).te:=okS (fn:=Tryz.f198) (frz:=[]) (ann:=[]) (cuts:=[]) (rv:=[(4,none)]) Z (TabOK.of (entCons (ztB Z) entNil) (methNil)) mixed (by kernel_rfl) (by kernel_rfl) (by kernel_rfl) (fun _ => rfl) (fun _ => rfl) (fun _ _ => by kernel_rfl)
def zDC (Z:Nat) (x0:LP) (x1:Int):Option ((Int × Unit) × Unit) :=
 cond (decide (w64 (x1 - (zz (List.length x0))) < (0:Int)))
 (some ((((-1:Int),()),())))
 (some (((w64 (x1 - (zz (List.length x0))),()),())))
def zoO (Z:Nat) (z:((LP × Unit) × ((Int × Unit) × Unit))):Option ((Int × Unit) × Unit):=zDC Z z.1.1 z.2.1.1
abbrev zDD (Z:Nat):LE:=⟨.pure (.grp (.dat (Kd.list KP) .nil) (.grp (.dat I6 .nil) .nil)) (.grp (.dat I6 .nil) .nil) true,zoO Z⟩
theorem zDE (Z:Nat):EntryOK Tryz.prog 221 (zDD Z).te:=okS (fn:=Tryz.f221) (frz:=[]) (ann:=[]) (cuts:=[]) (rv:=[(4,none)]) Z (TabOK.of (entNil) (methNil)) mixed (by kernel_rfl) (by kernel_rfl) (by kernel_rfl) (fun _ => rfl) (fun _ => rfl) (fun _ _ => by kernel_rfl)
def zDF (Z:Nat) (x0:LP) (x1:Int) (x2:Int) (x3:Int):Option ((Int × Unit) × Unit) :=
 Option.bind (zoO Z ((x0,()),(x3,()),())) fun y_1 =>
 cond (decide (y_1.1.1 < (0:Int)))
 (some ((((-1:Int),()),())))
 (some (((y_1.1.1,()),())))
def ztI (Z:Nat) (z:((LP × (Int × (Int × Unit))) × ((Int × Unit) × Unit))):Option ((Int × Unit) × Unit):=zDF Z z.1.1 z.1.2.1 z.1.2.2.1 z.2.1.1
abbrev zDG (Z:Nat):LE:=⟨.pure (.agg (.dat (Kd.list KP) (.dat I6 (.dat I6 .nil))) (.grp (.dat I6 .nil) .nil)) (.grp (.dat I6 .nil) .nil) true,ztI Z⟩
theorem zDH (Z:Nat):EntryOK Tryz.prog 199 (zDG Z).te:=okS (fn:=Tryz.f199) (frz:=[]) (ann:=[]) (cuts:=[]) (rv:=[(4,none)]) Z (TabOK.of (entCons (zDE Z) entNil) (methNil)) mixed (by kernel_rfl) (by kernel_rfl) (by kernel_rfl) (fun _ => rfl) (fun _ => rfl) (fun _ _ => by kernel_rfl)
def zDI (Z:Nat) (x0:LP) (x1:Int):Option ((Int × Unit) × Unit) :=
 cond (decide (w64 (x1 - (zz (List.length x0))) < (0:Int)))
 (some ((((-1:Int),()),())))
 (some (((w64 (x1 - (zz (List.length x0))),()),())))
def zoP (Z:Nat) (z:((LP × Unit) × ((Int × Unit) × Unit))):Option ((Int × Unit) × Unit):=zDI Z z.1.1 z.2.1.1
abbrev zDJ (Z:Nat):LE:=⟨.pure (.grp (.dat (Kd.list KP) .nil) (.grp (.dat I6 .nil) .nil)) (.grp (.dat I6 .nil) .nil) true,zoP Z⟩
theorem zDK (Z:Nat):EntryOK Tryz.prog 222 (zDJ Z).te:=okS (fn:=Tryz.f222) (frz:=[]) (ann:=[]) (cuts:=[]) (rv:=[(4,none)]) Z (TabOK.of (entNil) (methNil)) mixed (by kernel_rfl) (by kernel_rfl) (by kernel_rfl) (fun _ => rfl) (fun _ => rfl) (fun _ _ => by kernel_rfl)
def zDL (Z:Nat) (x0:LP) (x1:Int) (x2:Int):Option ((Int × Unit) × Unit) :=
 Option.bind (zoP Z ((x0,()),(x2,()),())) fun y_1 =>
 cond (decide (y_1.1.1 < (0:Int)))
 (some ((((-1:Int),()),())))
 (some (((y_1.1.1,()),())))
def ztJ (Z:Nat) (z:((LP × (Int × Unit)) × ((Int × Unit) × Unit))):Option ((Int × Unit) × Unit):=zDL Z z.1.1 z.1.2.1 z.2.1.1
abbrev zDM (Z:Nat):LE:=⟨.pure (.agg (.dat (Kd.list KP) (.dat I6 .nil)) (.grp (.dat I6 .nil) .nil)) (.grp (.dat I6 .nil) .nil) true,ztJ Z⟩
theorem zDN (Z:Nat):EntryOK Tryz.prog 200 (zDM Z).te:=okS (fn:=Tryz.f200) (frz:=[]) (ann:=[]) (cuts:=[]) (rv:=[(4,none)]) Z (TabOK.of (entCons (zDK Z) entNil) (methNil)) mixed (by kernel_rfl) (by kernel_rfl) (by kernel_rfl) (fun _ => rfl) (fun _ => rfl) (fun _ _ => by kernel_rfl)
def zDO (Z:Nat) (x0:List (List Int)) (x1:List Int) (x2:LP) (x3:Int) (x4:Int) (x5:LP) (x6:Int) (x7:Int):Option ((Int × Unit) × Unit) :=
 Option.bind (ztG Z ((x0,()),(x7,()),())) fun y_1 =>
 cond (decide (y_1.1.1 < (0:Int)))
 (some ((((-1:Int),()),())))
 (Option.bind (ztH Z ((x1,()),(y_1.1.1,()),())) fun y_3 =>
 cond (decide (y_3.1.1 < (0:Int)))
 (some ((((-1:Int),()),())))
 (Option.bind (ztI Z ((x2,x3,x4,()),(y_3.1.1,()),())) fun y_5 =>
 cond (decide (y_5.1.1 < (0:Int)))
 (some ((((-1:Int),()),())))
 (Option.bind (ztJ Z ((x5,x6,()),(y_5.1.1,()),())) fun y_7 =>
 cond (decide (y_7.1.1 < (0:Int)))
 (some ((((-1:Int),()),())))
 (some (((y_7.1.1,()),()))))))
def zoQ (Z:Nat) (z:(SumY × ((Int × Unit) × Unit))):Option ((Int × Unit) × Unit):=zDO Z z.1.1 z.1.2.1 z.1.2.2.1 z.1.2.2.2.1 z.1.2.2.2.2.1 z.1.2.2.2.2.2.1 z.1.2.2.2.2.2.2.1 z.2.1.1
abbrev zDP (Z:Nat):LE:=⟨.pure (.agg (.dat (Kd.list (Kd.list I6)) (.dat (Kd.list I6) (.dat (Kd.list KP) (.dat I6 (.dat I6 (.dat (Kd.list KP) (.dat I6 .nil))))))) (.grp (.dat I6 .nil) .nil)) (.grp (.dat I6 .nil) .nil) true,zoQ Z⟩
theorem zDQ (Z:Nat):EntryOK Tryz.prog 186 (zDP Z).te:=okS (fn:=Tryz.f186) (frz:=[]) (ann:=[]) (cuts:=[]) (rv:=[(4,none)]) Z (TabOK.of (entCons (zDy Z) (entCons (zDB Z) (entCons (zDH Z) (entCons (zDN Z) entNil)))) (methNil)) mixed (by kernel_rfl) (by kernel_rfl) (by kernel_rfl) (fun _ => rfl) (fun _ => rfl) (fun _ _ => by kernel_rfl)
def zDR (Z:Nat) (x0:Int) (x1:Int) (x2:Int) (x3:List (List Int)) (x4:List Int) (x5:LP) (x6:Int) (x7:Int) (x8:LP) (x9:Int) (x10:Int):Option ((Int × Unit) × Unit) :=
 Option.bind (zoQ Z ((x3,x4,x5,x6,x7,x8,x9,()),(x10,()),())) fun y_1 =>
 cond (decide (y_1.1.1 < (0:Int)))
 (some ((((-1:Int),()),())))
 (some (((y_1.1.1,()),())))
def zkR (Z:Nat) (z:((Int × (Int × (Int × SumY))) × ((Int × Unit) × Unit))):Option ((Int × Unit) × Unit):=zDR Z z.1.1 z.1.2.1 z.1.2.2.1 z.1.2.2.2.1 z.1.2.2.2.2.1 z.1.2.2.2.2.2.1 z.1.2.2.2.2.2.2.1 z.1.2.2.2.2.2.2.2.1 z.1.2.2.2.2.2.2.2.2.1 z.1.2.2.2.2.2.2.2.2.2.1 z.2.1.1
abbrev ztK (Z:Nat):LE:=⟨.pure (.agg (.dat I6 (.dat I6 (.dat I6 (.dat (Kd.list (Kd.list I6)) (.dat (Kd.list I6) (.dat (Kd.list KP) (.dat I6 (.dat I6 (.dat (Kd.list KP) (.dat I6 .nil)))))))))) (.grp (.dat I6 .nil) .nil)) (.grp (.dat I6 .nil) .nil) true,zkR Z⟩
theorem zDS (Z:Nat):EntryOK Tryz.prog 163 (ztK Z).te:=okS (fn:=Tryz.f163) (frz:=[]) (ann:=[]) (cuts:=[]) (rv:=[(4,none)]) Z (TabOK.of (entCons (zDQ Z) entNil) (methNil)) mixed (by kernel_rfl) (by kernel_rfl) (by kernel_rfl) (fun _ => rfl) (fun _ => rfl) (fun _ _ => by kernel_rfl)
def zha (Z:Nat):Tab:=Tab.of [(163,(ztK Z).te)] []
def ztL:List Norm:=[⟨[5,0,1],[],[],[]⟩]
noncomputable def zkS:C:=irOf Tryz.prog Tryz.f130 [] ztL []
def zhb:List (Nat × Option (Nat × Bool)):=[(4,none)]
abbrev zDT:Sx:=.grp (.dat (Kd.list KE) .nil) (.grp (.dat I6 .nil) .nil)
abbrev zDU:Sx:=.grp (.dat I6 .nil) .nil
abbrev zbE:LF:=.pure zDT zDU true
abbrev zeb:=(Int) × (List EY) × (Int)
def ztM (v:zeb):Env × Heap:=([(5,SV.int .i64 v.1),(0,SV.es KE v.2.1),(1,SV.int .i64 v.2.2)],[])
def zhc (Z:Nat) (g0:zeb → Option ((Int × Unit) × Unit)) (v:zeb):Option ((Int × Unit) × Unit) :=
 cond (decide (v.1 < (zz (List.length v.2.1))))
 (tst (decide (0 ≤ v.1)) <|
 tst (decide (v.1 < (zz (List.length v.2.1)))) <|
 Option.bind (zkR Z (((List.getD v.2.1 (Int.toNat v.1) (0,(0,(0,((([],()),(([],()),(([],(0,(0,()))),(([],(0,())),())))),()))))).1,(List.getD v.2.1 (Int.toNat v.1) (0,(0,(0,((([],()),(([],()),(([],(0,(0,()))),(([],(0,())),())))),()))))).2.1,(List.getD v.2.1 (Int.toNat v.1) (0,(0,(0,((([],()),(([],()),(([],(0,(0,()))),(([],(0,())),())))),()))))).2.2.1,(List.getD v.2.1 (Int.toNat v.1) (0,(0,(0,((([],()),(([],()),(([],(0,(0,()))),(([],(0,())),())))),()))))).2.2.2.1.1.1,(List.getD v.2.1 (Int.toNat v.1) (0,(0,(0,((([],()),(([],()),(([],(0,(0,()))),(([],(0,())),())))),()))))).2.2.2.1.2.1.1,(List.getD v.2.1 (Int.toNat v.1) (0,(0,(0,((([],()),(([],()),(([],(0,(0,()))),(([],(0,())),())))),()))))).2.2.2.1.2.2.1.1,(List.getD v.2.1 (Int.toNat v.1) (0,(0,(0,((([],()),(([],()),(([],(0,(0,()))),(([],(0,())),())))),()))))).2.2.2.1.2.2.1.2.1,(List.getD v.2.1 (Int.toNat v.1) (0,(0,(0,((([],()),(([],()),(([],(0,(0,()))),(([],(0,())),())))),()))))).2.2.2.1.2.2.1.2.2.1,(List.getD v.2.1 (Int.toNat v.1) (0,(0,(0,((([],()),(([],()),(([],(0,(0,()))),(([],(0,())),())))),()))))).2.2.2.1.2.2.2.1.1,(List.getD v.2.1 (Int.toNat v.1) (0,(0,(0,((([],()),(([],()),(([],(0,(0,()))),(([],(0,())),())))),()))))).2.2.2.1.2.2.2.1.2.1,()),(v.2.2,()),())) fun y_2 =>
 cond (decide (y_2.1.1 < (0:Int)))
 (some ((((-1:Int),()),())))
 (g0 (w64 (v.1 + (1:Int)),v.2.1,y_2.1.1)))
 (some (((v.2.2,()),())))
def zoR (Z:Nat) (g0:zeb → Option ((Int × Unit) × Unit)):zeb → Option ((Int × Unit) × Unit):=zhc Z g0
theorem zDV (Z:Nat) (G):zkS.lp (zha Z) 0 Z G (endX zhb zbE) 0 ztM = iter (zoR Z) Z:=C.lp_iter fun g v => by kernel_rfl
def ztN (Z:Nat) (X0:zeb → Option ((Int × Unit) × Unit)) (x0:List EY) (x1:Int):Option ((Int × Unit) × Unit) :=
 cond (decide (w64 (x1 - (zz (List.length x0))) < (0:Int)))
 (some ((((-1:Int),()),())))
 (X0 ((0:Int),x0,w64 (x1 - (zz (List.length x0)))))
def zhd (Z:Nat) (z:(((List EY) × Unit) × ((Int × Unit) × Unit))):Option ((Int × Unit) × Unit):=ztN Z (iter (zoR Z) Z) z.1.1 z.2.1.1
theorem zDW (Z:Nat) (xa:zbE.rt.T) (xd:zbE.D.T):zbE.go (zha Z) Z zkS zhb xa xd = zhd Z (zbE.xb (xa,xd)) :=
 (show zbE.go (zha Z) Z zkS zhb xa xd = ztN Z (zkS.lp (zha Z) 0 Z (fun _ _ _ => none) (endX zhb zbE) 0 ztM) xd.1.1 xd.2.1.1 by kernel_rfl).trans (by rw [zDV]; rfl)
abbrev ztO (Z:Nat):LE:=⟨zbE,zhd Z⟩
theorem ztP (Z:Nat):EntryOK Tryz.prog 130 (ztO Z).te:=okF (T:=zha Z) (fn:=Tryz.f130) (le:=ztO Z) (frz:=[]) (ann:=ztL) (cuts:=[]) (rv:=zhb) (TabOK.of (entCons (zDS Z) entNil) (methNil)) mixed (by kernel_rfl) (by kernel_rfl) (by kernel_rfl) (fun _ => rfl) (fun _ => rfl) (fun xa xd y h => ⟨Z,(zDW Z xa xd).trans h⟩)
def zDX (Z:Nat) (x0:Int) (x1:List EY) (x2:Int) (x3:Int) (x4:Int) (x5:Int):Option ((Int × Unit) × Unit) :=
 Option.bind (zhd Z ((x1,()),(x5,()),())) fun y_1 =>
 cond (decide (y_1.1.1 < (0:Int)))
 (some ((((-1:Int),()),())))
 (some (((y_1.1.1,()),())))
def zkT (Z:Nat) (z:(NY × ((Int × Unit) × Unit))):Option ((Int × Unit) × Unit):=zDX Z z.1.1 z.1.2.1 z.1.2.2.1 z.1.2.2.2.1 z.1.2.2.2.2.1 z.2.1.1
abbrev ztQ (Z:Nat):LE:=⟨.pure (.agg (.dat I6 (.dat (Kd.list KE) (.dat I6 (.dat I6 (.dat I6 .nil))))) (.grp (.dat I6 .nil) .nil)) (.grp (.dat I6 .nil) .nil) true,zkT Z⟩
theorem zDY (Z:Nat):EntryOK Tryz.prog 100 (ztQ Z).te:=okS (fn:=Tryz.f100) (frz:=[]) (ann:=[]) (cuts:=[]) (rv:=[(4,none)]) Z (TabOK.of (entCons (ztP Z) entNil) (methNil)) mixed (by kernel_rfl) (by kernel_rfl) (by kernel_rfl) (fun _ => rfl) (fun _ => rfl) (fun _ _ => by kernel_rfl)
def zhe (Z:Nat):Tab:=Tab.of [(100,(ztQ Z).te)] []
def ztR:List Norm:=[⟨[5,0,1],[],[],[]⟩]
noncomputable def zkU:C:=irOf Tryz.prog Tryz.f60 [] ztR []
def zhf:List (Nat × Option (Nat × Bool)):=[(4,none)]
abbrev zDZ:Sx:=.grp (.dat (Kd.list KN) .nil) (.grp (.dat I6 .nil) .nil)
abbrev zD0:Sx:=.grp (.dat I6 .nil) .nil
abbrev zbF:LF:=.pure zDZ zD0 true
abbrev zec:=(Int) × (List NY) × (Int)
def ztS (v:zec):Env × Heap:=([(5,SV.int .i64 v.1),(0,SV.es KN v.2.1),(1,SV.int .i64 v.2.2)],[])
def zhg (Z:Nat) (g0:zec → Option ((Int × Unit) × Unit)) (v:zec):Option ((Int × Unit) × Unit) :=
 cond (decide (v.1 < (zz (List.length v.2.1))))
 (tst (decide (0 ≤ v.1)) <|
 tst (decide (v.1 < (zz (List.length v.2.1)))) <|
 Option.bind (zkT Z (((List.getD v.2.1 (Int.toNat v.1) (0,([],(0,(0,(0,())))))).1,(List.getD v.2.1 (Int.toNat v.1) (0,([],(0,(0,(0,())))))).2.1,(List.getD v.2.1 (Int.toNat v.1) (0,([],(0,(0,(0,())))))).2.2.1,(List.getD v.2.1 (Int.toNat v.1) (0,([],(0,(0,(0,())))))).2.2.2.1,(List.getD v.2.1 (Int.toNat v.1) (0,([],(0,(0,(0,())))))).2.2.2.2.1,()),(v.2.2,()),())) fun y_2 =>
 cond (decide (y_2.1.1 < (0:Int)))
 (some ((((-1:Int),()),())))
 (g0 (w64 (v.1 + (1:Int)),v.2.1,y_2.1.1)))
 (some (((v.2.2,()),())))
def zoS (Z:Nat) (g0:zec → Option ((Int × Unit) × Unit)):zec → Option ((Int × Unit) × Unit):=zhg Z g0
theorem zD1 (Z:Nat) (G):zkU.lp (zhe Z) 0 Z G (endX zhf zbF) 0 ztS = iter (zoS Z) Z:=C.lp_iter fun g v => by kernel_rfl
def ztT (Z:Nat) (X0:zec → Option ((Int × Unit) × Unit)) (x0:List NY) (x1:Int):Option ((Int × Unit) × Unit) :=
 cond (decide (w64 (x1 - (zz (List.length x0))) < (0:Int)))
 (some ((((-1:Int),()),())))
 (X0 ((0:Int),x0,w64 (x1 - (zz (List.length x0)))))
def zkV (Z:Nat) (z:(((List NY) × Unit) × ((Int × Unit) × Unit))):Option ((Int × Unit) × Unit):=ztT Z (iter (zoS Z) Z) z.1.1 z.2.1.1
theorem zD2 (Z:Nat) (xa:zbF.rt.T) (xd:zbF.D.T):zbF.go (zhe Z) Z zkU zhf xa xd = zkV Z (zbF.xb (xa,xd)) :=
 (show zbF.go (zhe Z) Z zkU zhf xa xd = ztT Z (zkU.lp (zhe Z) 0 Z (fun _ _ _ => none) (endX zhf zbF) 0 ztS) xd.1.1 xd.2.1.1 by kernel_rfl).trans (by rw [zD1]; rfl)
abbrev ztU (Z:Nat):LE:=⟨zbF,zkV Z⟩
theorem zD3 (Z:Nat):EntryOK Tryz.prog 60 (ztU Z).te:=okF (T:=zhe Z) (fn:=Tryz.f60) (le:=ztU Z) (frz:=[]) (ann:=ztR) (cuts:=[]) (rv:=zhf) (TabOK.of (entCons (zDY Z) entNil) (methNil)) mixed (by kernel_rfl) (by kernel_rfl) (by kernel_rfl) (fun _ => rfl) (fun _ => rfl) (fun xa xd y h => ⟨Z,(zD2 Z xa xd).trans h⟩)
def zD4 (Z:Nat) (x0:List Bool) (x1:Int):Option ((Int × Unit) × Unit) :=
 cond (decide (w64 (x1 - (zz (List.length x0))) < (0:Int)))
 (some ((((-1:Int),()),())))
 (some (((w64 (x1 - (zz (List.length x0))),()),())))
def zoT (Z:Nat) (z:(((List Bool) × Unit) × ((Int × Unit) × Unit))):Option ((Int × Unit) × Unit):=zD4 Z z.1.1 z.2.1.1
abbrev zD5 (Z:Nat):LE:=⟨.pure (.grp (.dat (Kd.list Kd.bool) .nil) (.grp (.dat I6 .nil) .nil)) (.grp (.dat I6 .nil) .nil) true,zoT Z⟩
theorem zD6 (Z:Nat):EntryOK Tryz.prog 61 (zD5 Z).te:=okS (fn:=Tryz.f61) (frz:=[]) (ann:=[]) (cuts:=[]) (rv:=[(4,none)]) Z (TabOK.of (entNil) (methNil)) mixed (by kernel_rfl) (by kernel_rfl) (by kernel_rfl) (fun _ => rfl) (fun _ => rfl) (fun _ _ => by kernel_rfl)
def zD7 (Z:Nat) (x0:Int) (x1:Int) (x2:Int) (x3:Int) (x4:Int) (x5:List EY) (x6:Int):Option ((Int × Unit) × Unit) :=
 Option.bind (zhd Z ((x5,()),(x6,()),())) fun y_1 =>
 cond (decide (y_1.1.1 < (0:Int)))
 (some ((((-1:Int),()),())))
 (some (((y_1.1.1,()),())))
def zkW (Z:Nat) (z:(WY × ((Int × Unit) × Unit))):Option ((Int × Unit) × Unit):=zD7 Z z.1.1 z.1.2.1 z.1.2.2.1 z.1.2.2.2.1 z.1.2.2.2.2.1 z.1.2.2.2.2.2.1 z.2.1.1
abbrev ztV (Z:Nat):LE:=⟨.pure (.agg (.dat I6 (.dat I6 (.dat I6 (.dat I6 (.dat I6 (.dat (Kd.list KE) .nil)))))) (.grp (.dat I6 .nil) .nil)) (.grp (.dat I6 .nil) .nil) true,zkW Z⟩
theorem zD8 (Z:Nat):EntryOK Tryz.prog 101 (ztV Z).te:=okS (fn:=Tryz.f101) (frz:=[]) (ann:=[]) (cuts:=[]) (rv:=[(4,none)]) Z (TabOK.of (entCons (ztP Z) entNil) (methNil)) mixed (by kernel_rfl) (by kernel_rfl) (by kernel_rfl) (fun _ => rfl) (fun _ => rfl) (fun _ _ => by kernel_rfl)
def zhh (Z:Nat):Tab:=Tab.of [(101,(ztV Z).te)] []
def ztW:List Norm:=[⟨[5,0,1],[],[],[]⟩]
noncomputable def zkX:C:=irOf Tryz.prog Tryz.f62 [] ztW []
def zhi:List (Nat × Option (Nat × Bool)):=[(4,none)]
abbrev zD9:Sx:=.grp (.dat (Kd.list KW) .nil) (.grp (.dat I6 .nil) .nil)
abbrev zEa:Sx:=.grp (.dat I6 .nil) .nil
abbrev zbG:LF:=.pure zD9 zEa true
abbrev zed:=(Int) × (List WY) × (Int)
def ztX (v:zed):Env × Heap:=([(5,SV.int .i64 v.1),(0,SV.es KW v.2.1),(1,SV.int .i64 v.2.2)],[])
def zhj (Z:Nat) (g0:zed → Option ((Int × Unit) × Unit)) (v:zed):Option ((Int × Unit) × Unit) :=
 cond (decide (v.1 < (zz (List.length v.2.1))))
 (tst (decide (0 ≤ v.1)) <|
 tst (decide (v.1 < (zz (List.length v.2.1)))) <|
 Option.bind (zkW Z (((List.getD v.2.1 (Int.toNat v.1) (0,(0,(0,(0,(0,([],()))))))).1,(List.getD v.2.1 (Int.toNat v.1) (0,(0,(0,(0,(0,([],()))))))).2.1,(List.getD v.2.1 (Int.toNat v.1) (0,(0,(0,(0,(0,([],()))))))).2.2.1,(List.getD v.2.1 (Int.toNat v.1) (0,(0,(0,(0,(0,([],()))))))).2.2.2.1,(List.getD v.2.1 (Int.toNat v.1) (0,(0,(0,(0,(0,([],()))))))).2.2.2.2.1,(List.getD v.2.1 (Int.toNat v.1) (0,(0,(0,(0,(0,([],()))))))).2.2.2.2.2.1,()),(v.2.2,()),())) fun y_2 =>
 cond (decide (y_2.1.1 < (0:Int)))
 (some ((((-1:Int),()),())))
 (g0 (w64 (v.1 + (1:Int)),v.2.1,y_2.1.1)))
 (some (((v.2.2,()),())))
def zoU (Z:Nat) (g0:zed → Option ((Int × Unit) × Unit)):zed → Option ((Int × Unit) × Unit):=zhj Z g0
theorem zEb (Z:Nat) (G):zkX.lp (zhh Z) 0 Z G (endX zhi zbG) 0 ztX = iter (zoU Z) Z:=C.lp_iter fun g v => by kernel_rfl
def ztY (Z:Nat) (X0:zed → Option ((Int × Unit) × Unit)) (x0:List WY) (x1:Int):Option ((Int × Unit) × Unit) :=
 cond (decide (w64 (x1 - (zz (List.length x0))) < (0:Int)))
 (some ((((-1:Int),()),())))
 (X0 ((0:Int),x0,w64 (x1 - (zz (List.length x0)))))
def zkY (Z:Nat) (z:(((List WY) × Unit) × ((Int × Unit) × Unit))):Option ((Int × Unit) × Unit):=ztY Z (iter (zoU Z) Z) z.1.1 z.2.1.1
theorem zEc (Z:Nat) (xa:zbG.rt.T) (xd:zbG.D.T):zbG.go (zhh Z) Z zkX zhi xa xd = zkY Z (zbG.xb (xa,xd)) :=
 (show zbG.go (zhh Z) Z zkX zhi xa xd = ztY Z (zkX.lp (zhh Z) 0 Z (fun _ _ _ => none) (endX zhi zbG) 0 ztX) xd.1.1 xd.2.1.1 by kernel_rfl).trans (by rw [zEb]; rfl)
abbrev ztZ (Z:Nat):LE:=⟨zbG,zkY Z⟩
theorem zEd (Z:Nat):EntryOK Tryz.prog 62 (ztZ Z).te:=okF (T:=zhh Z) (fn:=Tryz.f62) (le:=ztZ Z) (frz:=[]) (ann:=ztW) (cuts:=[]) (rv:=zhi) (TabOK.of (entCons (zD8 Z) entNil) (methNil)) mixed (by kernel_rfl) (by kernel_rfl) (by kernel_rfl) (fun _ => rfl) (fun _ => rfl) (fun xa xd y h => ⟨Z,(zEc Z xa xd).trans h⟩)
def zhk (Z:Nat):Tab:=Tab.of [(102,(zoN Z).te)] []
def zt0:List Norm:=[⟨[5,0,1],[],[],[]⟩]
noncomputable def zkZ:C:=irOf Tryz.prog Tryz.f63 [] zt0 []
def zhl:List (Nat × Option (Nat × Bool)):=[(4,none)]
abbrev zEe:Sx:=.grp (.dat (Kd.list (Kd.list (Kd.list I6))) .nil) (.grp (.dat I6 .nil) .nil)
abbrev zEf:Sx:=.grp (.dat I6 .nil) .nil
abbrev zbH:LF:=.pure zEe zEf true
abbrev zee:=(Int) × (List (List (List Int))) × (Int)
def zt1 (v:zee):Env × Heap:=([(5,SV.int .i64 v.1),(0,SV.es (Kd.list (Kd.list I6)) v.2.1),(1,SV.int .i64 v.2.2)],[])
def zhm (Z:Nat) (g0:zee → Option ((Int × Unit) × Unit)) (v:zee):Option ((Int × Unit) × Unit) :=
 cond (decide (v.1 < (zz (List.length v.2.1))))
 (tst (decide (0 ≤ v.1)) <|
 tst (decide (v.1 < (zz (List.length v.2.1)))) <|
 Option.bind (zea Z ((List.getD v.2.1 (Int.toNat v.1) [],()),(v.2.2,()),())) fun y_2 =>
 cond (decide (y_2.1.1 < (0:Int)))
 (some ((((-1:Int),()),())))
 (g0 (w64 (v.1 + (1:Int)),v.2.1,y_2.1.1)))
 (some (((v.2.2,()),())))
def zoV (Z:Nat) (g0:zee → Option ((Int × Unit) × Unit)):zee → Option ((Int × Unit) × Unit):=zhm Z g0
theorem zEg (Z:Nat) (G):zkZ.lp (zhk Z) 0 Z G (endX zhl zbH) 0 zt1 = iter (zoV Z) Z:=C.lp_iter fun g v => by kernel_rfl
def zt2 (Z:Nat) (X0:zee → Option ((Int × Unit) × Unit)) (x0:List (List (List Int))) (x1:Int):Option ((Int × Unit) × Unit) :=
 cond (decide (w64 (x1 - (zz (List.length x0))) < (0:Int)))
 (some ((((-1:Int),()),())))
 (X0 ((0:Int),x0,w64 (x1 - (zz (List.length x0)))))
def zk0 (Z:Nat) (z:(((List (List (List Int))) × Unit) × ((Int × Unit) × Unit))):Option ((Int × Unit) × Unit):=zt2 Z (iter (zoV Z) Z) z.1.1 z.2.1.1
theorem zEh (Z:Nat) (xa:zbH.rt.T) (xd:zbH.D.T):zbH.go (zhk Z) Z zkZ zhl xa xd = zk0 Z (zbH.xb (xa,xd)) :=
 (show zbH.go (zhk Z) Z zkZ zhl xa xd = zt2 Z (zkZ.lp (zhk Z) 0 Z (fun _ _ _ => none) (endX zhl zbH) 0 zt1) xd.1.1 xd.2.1.1 by kernel_rfl).trans (by rw [zEg]; rfl)
abbrev zt3 (Z:Nat):LE:=⟨zbH,zk0 Z⟩
theorem zEi (Z:Nat):EntryOK Tryz.prog 63 (zt3 Z).te:=okF (T:=zhk Z) (fn:=Tryz.f63) (le:=zt3 Z) (frz:=[]) (ann:=zt0) (cuts:=[]) (rv:=zhl) (TabOK.of (entCons (ztF Z) entNil) (methNil)) mixed (by kernel_rfl) (by kernel_rfl) (by kernel_rfl) (fun _ => rfl) (fun _ => rfl) (fun xa xd y h => ⟨Z,(zEh Z xa xd).trans h⟩)
def zEj (Z:Nat) (x0:List NY) (x1:List Bool) (x2:List WY) (x3:List (List (List Int))) (x4:Int):Option ((Int × Unit) × Unit) :=
 Option.bind (zkV Z ((x0,()),(x4,()),())) fun y_1 =>
 cond (decide (y_1.1.1 < (0:Int)))
 (some ((((-1:Int),()),())))
 (Option.bind (zoT Z ((x1,()),(y_1.1.1,()),())) fun y_3 =>
 cond (decide (y_3.1.1 < (0:Int)))
 (some ((((-1:Int),()),())))
 (Option.bind (zkY Z ((x2,()),(y_3.1.1,()),())) fun y_5 =>
 cond (decide (y_5.1.1 < (0:Int)))
 (some ((((-1:Int),()),())))
 (Option.bind (zk0 Z ((x3,()),(y_5.1.1,()),())) fun y_7 =>
 cond (decide (y_7.1.1 < (0:Int)))
 (some ((((-1:Int),()),())))
 (some (((y_7.1.1,()),()))))))
def zoW (Z:Nat) (z:(((List NY) × ((List Bool) × ((List WY) × ((List (List (List Int))) × Unit)))) × ((Int × Unit) × Unit))):Option ((Int × Unit) × Unit):=zEj Z z.1.1 z.1.2.1 z.1.2.2.1 z.1.2.2.2.1 z.2.1.1
abbrev zt4 (Z:Nat):LE:=⟨.pure (.agg (.dat (Kd.list KN) (.dat (Kd.list Kd.bool) (.dat (Kd.list KW) (.dat (Kd.list (Kd.list (Kd.list I6))) .nil)))) (.grp (.dat I6 .nil) .nil)) (.grp (.dat I6 .nil) .nil) true,zoW Z⟩
theorem zEk (Z:Nat):EntryOK Tryz.prog 17 (zt4 Z).te:=okS (fn:=Tryz.f17) (frz:=[]) (ann:=[]) (cuts:=[]) (rv:=[(4,none)]) Z (TabOK.of (entCons (zD3 Z) (entCons (zD6 Z) (entCons (zEd Z) (entCons (zEi Z) entNil)))) (methNil)) mixed (by kernel_rfl) (by kernel_rfl) (by kernel_rfl) (fun _ => rfl) (fun _ => rfl) (fun _ _ => by kernel_rfl)
end Go.Proofs.YtljojacnjjgceaaGreat.Den
namespace Go.Proofs.YtljojacnjjgceaaGreat.Den
open Go Go.RowKit
abbrev zco:=Option (((List Int) × Unit) × Unit)
def zhn (Z:Nat):Tab:=Tab.of [] []
def zt5:List Norm:=[⟨[4,0,3],[],[],[]⟩]
noncomputable def zk1:C:=irOf Tryz.prog Tryz.f134 [] zt5 []
def zho:List (Nat × Option (Nat × Bool)):=[(2,none)]
abbrev zEl:Sx:=.grp (.dat (Kd.list I6) .nil) .nil
abbrev zEm:Sx:=.grp (.own 0 I6 .nil) .nil
abbrev zbI:LF:=.pure zEl zEm true
abbrev zef:=(Int) × (List Int) × (List Int)
def zt6 (v:zef):Env × Heap:=([(4,SV.int .i64 v.1),(0,SV.es I6 v.2.1),(3,SV.own 0)],[Blk.arr I6 v.2.2 0])
def zhp (Z:Nat) (g0:zef → zco) (v:zef):zco :=
 cond (decide (v.1 < (zz (List.length v.2.1))))
 (tst (decide (0 ≤ v.1)) <|
 tst (decide (v.1 < (zz (List.length v.2.1)))) <|
 tst (decide (0 ≤ v.1)) <|
 tst (decide (v.1 < (zz (List.length v.2.2)))) <|
 tst (decide (Int.toNat v.1 < List.length v.2.2)) <|
 g0 (w64 (v.1 + (1:Int)),v.2.1,List.set v.2.2 (Int.toNat v.1) (List.getD v.2.1 (Int.toNat v.1) 0)))
 (some (((v.2.2,()),())))
def zk2 (Z:Nat) (g0:zef → zco):zef → zco:=zhp Z g0
theorem zEn (Z:Nat) (G):zk1.lp (zhn Z) 0 Z G (endX zho zbI) 0 zt6 = iter (zk2 Z) Z:=C.lp_iter fun g v => by kernel_rfl
def zk3 (Z:Nat) (X0:zef → zco) (x0:List Int):zco :=
 tst (decide (0 ≤ (zz (List.length x0)))) <|
 tst (decide ((zz (List.length x0)) ≤ (zz (List.length x0)))) <|
 tst (decide (Int.toNat (zz (List.length x0)) < LIM)) <|
 X0 ((0:Int),x0,List.replicate (Int.toNat (zz (List.length x0))) 0)
def zeg (Z:Nat) (z:(((List Int) × Unit) × Unit)):zco:=zk3 Z (iter (zk2 Z) Z) z.1.1
theorem zEo (Z:Nat) (xa:zbI.rt.T) (xd:zbI.D.T):zbI.go (zhn Z) Z zk1 zho xa xd = zeg Z (zbI.xb (xa,xd)) :=
 (show zbI.go (zhn Z) Z zk1 zho xa xd = zk3 Z (zk1.lp (zhn Z) 0 Z (fun _ _ _ => none) (endX zho zbI) 0 zt6) xd.1.1 by kernel_rfl).trans (by rw [zEn]; rfl)
abbrev zoX (Z:Nat):LE:=⟨zbI,zeg Z⟩
theorem zt7 (Z:Nat):EntryOK Tryz.prog 134 (zoX Z).te:=okF (T:=zhn Z) (fn:=Tryz.f134) (le:=zoX Z) (frz:=[]) (ann:=zt5) (cuts:=[]) (rv:=zho) (TabOK.of (entNil) (methNil)) mixed (by kernel_rfl) (by kernel_rfl) (by kernel_rfl) (fun _ => rfl) (fun _ => rfl) (fun xa xd y h => ⟨Z,(zEo Z xa xd).trans h⟩)
abbrev zcp:=Option (((List (List Int)) × Unit) × Unit)
def zhq (Z:Nat):Tab:=Tab.of [(134,(zoX Z).te)] []
def zt8:List Norm:=[⟨[4,0,3],[],[],[]⟩]
noncomputable def zk4:C:=irOf Tryz.prog Tryz.f107 [] zt8 []
def zhr:List (Nat × Option (Nat × Bool)):=[(2,none)]
abbrev zEp:Sx:=.grp (.dat (Kd.list (Kd.list I6)) .nil) .nil
abbrev zEq:Sx:=.grp (.dat (Kd.list (Kd.list I6)) .nil) .nil
abbrev zbJ:LF:=.pure zEp zEq false
abbrev zeh:=(Int) × (List (List Int)) × (List (List Int))
def zt9 (v:zeh):Env × Heap:=([(4,SV.int .i64 v.1),(0,SV.es (Kd.list I6) v.2.1),(3,SV.own 0)],[Blk.arr (Kd.list I6) v.2.2 0])
def zhs (Z:Nat) (g0:zeh → zcp) (v:zeh):zcp :=
 cond (decide (v.1 < (zz (List.length v.2.1))))
 (tst (decide (0 ≤ v.1)) <|
 tst (decide (v.1 < (zz (List.length v.2.1)))) <|
 Option.bind (zeg Z ((List.getD v.2.1 (Int.toNat v.1) [],()),())) fun y_2 =>
 tst (decide (0 ≤ v.1)) <|
 tst (decide (v.1 < (zz (List.length v.2.2)))) <|
 tst (decide (Int.toNat v.1 < List.length v.2.2)) <|
 g0 (w64 (v.1 + (1:Int)),v.2.1,List.set v.2.2 (Int.toNat v.1) y_2.1.1))
 (some (((v.2.2,()),())))
def zk5 (Z:Nat) (g0:zeh → zcp):zeh → zcp:=zhs Z g0
theorem zEr (Z:Nat) (G):zk4.lp (zhq Z) 0 Z G (endX zhr zbJ) 0 zt9 = iter (zk5 Z) Z:=C.lp_iter fun g v => by kernel_rfl
def zk6 (Z:Nat) (X0:zeh → zcp) (x0:List (List Int)):zcp :=
 tst (decide (0 ≤ (zz (List.length x0)))) <|
 tst (decide ((zz (List.length x0)) ≤ (zz (List.length x0)))) <|
 tst (decide (Int.toNat (zz (List.length x0)) < LIM)) <|
 X0 ((0:Int),x0,List.replicate (Int.toNat (zz (List.length x0))) [])
def zei (Z:Nat) (z:(((List (List Int)) × Unit) × Unit)):zcp:=zk6 Z (iter (zk5 Z) Z) z.1.1
theorem zEs (Z:Nat) (xa:zbJ.rt.T) (xd:zbJ.D.T):zbJ.go (zhq Z) Z zk4 zhr xa xd = zei Z (zbJ.xb (xa,xd)) :=
 (show zbJ.go (zhq Z) Z zk4 zhr xa xd = zk6 Z (zk4.lp (zhq Z) 0 Z (fun _ _ _ => none) (endX zhr zbJ) 0 zt9) xd.1.1 by kernel_rfl).trans (by rw [zEr]; rfl)
abbrev zoY (Z:Nat):LE:=⟨zbJ,zei Z⟩
theorem zua (Z:Nat):EntryOK Tryz.prog 107 (zoY Z).te:=okF (T:=zhq Z) (fn:=Tryz.f107) (le:=zoY Z) (frz:=[]) (ann:=zt8) (cuts:=[]) (rv:=zhr) (TabOK.of (entCons (zt7 Z) entNil) (methNil)) mixed (by kernel_rfl) (by kernel_rfl) (by kernel_rfl) (fun _ => rfl) (fun _ => rfl) (fun xa xd y h => ⟨Z,(zEs Z xa xd).trans h⟩)
def zoZ (Z:Nat) (x0:List (List Int)):Option (((List (List Int)) × Unit) × Unit) :=
 Option.bind (zei Z ((x0,()),())) fun y_1 =>
 some (((y_1.1.1,()),()))
def zo0 (Z:Nat) (z:(((List (List Int)) × Unit) × Unit)):Option (((List (List Int)) × Unit) × Unit):=zoZ Z z.1.1
abbrev zEt (Z:Nat):LE:=⟨.pure (.agg (.dat (Kd.list (Kd.list I6)) .nil) .nil) (.agg (.dat (Kd.list (Kd.list I6)) .nil) .nil) false,zo0 Z⟩
theorem zEu (Z:Nat):EntryOK Tryz.prog 205 (zEt Z).te:=okS (fn:=Tryz.f205) (frz:=[]) (ann:=[]) (cuts:=[]) (rv:=[(2,some (1,true))]) Z (TabOK.of (entCons (zua Z) entNil) (methNil)) mixed (by kernel_rfl) (by kernel_rfl) (by kernel_rfl) (fun _ => rfl) (fun _ => rfl) (fun _ _ => by kernel_rfl)
def zo1 (Z:Nat) (x0:List Int):Option (((List Int) × Unit) × Unit) :=
 Option.bind (zeg Z ((x0,()),())) fun y_1 =>
 some (((y_1.1.1,()),()))
def zo2 (Z:Nat) (z:(((List Int) × Unit) × Unit)):Option (((List Int) × Unit) × Unit):=zo1 Z z.1.1
abbrev zEv (Z:Nat):LE:=⟨.pure (.agg (.dat (Kd.list I6) .nil) .nil) (.agg (.own 0 I6 .nil) .nil) true,zo2 Z⟩
theorem zEw (Z:Nat):EntryOK Tryz.prog 206 (zEv Z).te:=okS (fn:=Tryz.f206) (frz:=[]) (ann:=[]) (cuts:=[]) (rv:=[(2,some (1,true))]) Z (TabOK.of (entCons (zt7 Z) entNil) (methNil)) mixed (by kernel_rfl) (by kernel_rfl) (by kernel_rfl) (fun _ => rfl) (fun _ => rfl) (fun _ _ => by kernel_rfl)
def zEx (Z:Nat) (x0:Int) (x1:Int):Option ((Int × (Int × Unit)) × Unit) :=
 some (((x0,x1,()),()))
def zo3 (Z:Nat) (z:((Int × (Int × Unit)) × Unit)):Option ((Int × (Int × Unit)) × Unit):=zEx Z z.1.1 z.1.2.1
abbrev zub (Z:Nat):LE:=⟨.pure (.agg (.dat I6 (.dat I6 .nil)) .nil) (.agg (.dat I6 (.dat I6 .nil)) .nil) true,zo3 Z⟩
theorem zEy (Z:Nat):EntryOK Tryz.prog 233 (zub Z).te:=okS (fn:=Tryz.f233) (frz:=[]) (ann:=[]) (cuts:=[]) (rv:=[(2,some (2,true))]) Z (TabOK.of (entNil) (methNil)) mixed (by kernel_rfl) (by kernel_rfl) (by kernel_rfl) (fun _ => rfl) (fun _ => rfl) (fun _ _ => by kernel_rfl)
abbrev zcq:=Option ((LP × Unit) × Unit)
def zht (Z:Nat):Tab:=Tab.of [(233,(zub Z).te)] []
def zuc:List Norm:=[⟨[4,0,3],[],[],[]⟩]
noncomputable def zk7:C:=irOf Tryz.prog Tryz.f225 [] zuc []
def zhu:List (Nat × Option (Nat × Bool)):=[(2,none)]
abbrev zEz:Sx:=.grp (.dat (Kd.list KP) .nil) .nil
abbrev zEA:Sx:=.grp (.own 0 KP .nil) .nil
abbrev zbK:LF:=.pure zEz zEA true
abbrev zej:=(Int) × LP × LP
def zud (v:zej):Env × Heap:=([(4,SV.int .i64 v.1),(0,SV.es KP v.2.1),(3,SV.own 0)],[Blk.arr KP v.2.2 0])
def zhv (Z:Nat) (g0:zej → zcq) (v:zej):zcq :=
 cond (decide (v.1 < (zz (List.length v.2.1))))
 (tst (decide (0 ≤ v.1)) <|
 tst (decide (v.1 < (zz (List.length v.2.1)))) <|
 Option.bind (zo3 Z (((List.getD v.2.1 (Int.toNat v.1) (0,(0,()))).1,(List.getD v.2.1 (Int.toNat v.1) (0,(0,()))).2.1,()),())) fun y_2 =>
 tst (decide (0 ≤ v.1)) <|
 tst (decide (v.1 < (zz (List.length v.2.2)))) <|
 tst (decide (Int.toNat v.1 < List.length v.2.2)) <|
 g0 (w64 (v.1 + (1:Int)),v.2.1,List.set v.2.2 (Int.toNat v.1) (y_2.1.1,y_2.1.2.1,())))
 (some (((v.2.2,()),())))
def zk8 (Z:Nat) (g0:zej → zcq):zej → zcq:=zhv Z g0
theorem zEB (Z:Nat) (G):zk7.lp (zht Z) 0 Z G (endX zhu zbK) 0 zud = iter (zk8 Z) Z:=C.lp_iter fun g v => by kernel_rfl
def zk9 (Z:Nat) (X0:zej → zcq) (x0:LP):zcq :=
 tst (decide (0 ≤ (zz (List.length x0)))) <|
 tst (decide ((zz (List.length x0)) ≤ (zz (List.length x0)))) <|
 tst (decide (Int.toNat (zz (List.length x0)) < LIM)) <|
 X0 ((0:Int),x0,List.replicate (Int.toNat (zz (List.length x0))) (0,(0,())))
def zla (Z:Nat) (z:((LP × Unit) × Unit)):zcq:=zk9 Z (iter (zk8 Z) Z) z.1.1
theorem zEC (Z:Nat) (xa:zbK.rt.T) (xd:zbK.D.T):zbK.go (zht Z) Z zk7 zhu xa xd = zla Z (zbK.xb (xa,xd)) :=
 (show zbK.go (zht Z) Z zk7 zhu xa xd = zk9 Z (zk7.lp (zht Z) 0 Z (fun _ _ _ => none) (endX zhu zbK) 0 zud) xd.1.1 by kernel_rfl).trans (by rw [zEB]; rfl)
abbrev zue (Z:Nat):LE:=⟨zbK,zla Z⟩
theorem zED (Z:Nat):EntryOK Tryz.prog 225 (zue Z).te:=okF (T:=zht Z) (fn:=Tryz.f225) (le:=zue Z) (frz:=[]) (ann:=zuc) (cuts:=[]) (rv:=zhu) (TabOK.of (entCons (zEy Z) entNil) (methNil)) mixed (by kernel_rfl) (by kernel_rfl) (by kernel_rfl) (fun _ => rfl) (fun _ => rfl) (fun xa xd y h => ⟨Z,(zEC Z xa xd).trans h⟩)
def zo4 (Z:Nat) (x0:LP) (x1:Int) (x2:Int):Option ((LP × (Int × (Int × Unit))) × Unit) :=
 Option.bind (zla Z ((x0,()),())) fun y_1 =>
 some (((y_1.1.1,x1,x2,()),()))
def zo5 (Z:Nat) (z:((LP × (Int × (Int × Unit))) × Unit)):Option ((LP × (Int × (Int × Unit))) × Unit):=zo4 Z z.1.1 z.1.2.1 z.1.2.2.1
abbrev zEE (Z:Nat):LE:=⟨.pure (.agg (.dat (Kd.list KP) (.dat I6 (.dat I6 .nil))) .nil) (.agg (.own 0 KP (.dat I6 (.dat I6 .nil))) .nil) true,zo5 Z⟩
theorem zEF (Z:Nat):EntryOK Tryz.prog 207 (zEE Z).te:=okS (fn:=Tryz.f207) (frz:=[]) (ann:=[]) (cuts:=[]) (rv:=[(2,some (3,true))]) Z (TabOK.of (entCons (zED Z) entNil) (methNil)) mixed (by kernel_rfl) (by kernel_rfl) (by kernel_rfl) (fun _ => rfl) (fun _ => rfl) (fun _ _ => by kernel_rfl)
def zEG (Z:Nat) (x0:Int) (x1:Int):Option ((Int × (Int × Unit)) × Unit) :=
 some (((x0,x1,()),()))
def zo6 (Z:Nat) (z:((Int × (Int × Unit)) × Unit)):Option ((Int × (Int × Unit)) × Unit):=zEG Z z.1.1 z.1.2.1
abbrev zuf (Z:Nat):LE:=⟨.pure (.agg (.dat I6 (.dat I6 .nil)) .nil) (.agg (.dat I6 (.dat I6 .nil)) .nil) true,zo6 Z⟩
theorem zEH (Z:Nat):EntryOK Tryz.prog 234 (zuf Z).te:=okS (fn:=Tryz.f234) (frz:=[]) (ann:=[]) (cuts:=[]) (rv:=[(2,some (2,true))]) Z (TabOK.of (entNil) (methNil)) mixed (by kernel_rfl) (by kernel_rfl) (by kernel_rfl) (fun _ => rfl) (fun _ => rfl) (fun _ _ => by kernel_rfl)
abbrev zcr:=Option ((LP × Unit) × Unit)
def zhw (Z:Nat):Tab:=Tab.of [(234,(zuf Z).te)] []
def zug:List Norm:=[⟨[4,0,3],[],[],[]⟩]
noncomputable def zlb:C:=irOf Tryz.prog Tryz.f226 [] zug []
def zhx:List (Nat × Option (Nat × Bool)):=[(2,none)]
abbrev zEI:Sx:=.grp (.dat (Kd.list KP) .nil) .nil
abbrev zEJ:Sx:=.grp (.own 0 KP .nil) .nil
abbrev zbL:LF:=.pure zEI zEJ true
abbrev zek:=(Int) × LP × LP
def zuh (v:zek):Env × Heap:=([(4,SV.int .i64 v.1),(0,SV.es KP v.2.1),(3,SV.own 0)],[Blk.arr KP v.2.2 0])
def zhy (Z:Nat) (g0:zek → zcr) (v:zek):zcr :=
 cond (decide (v.1 < (zz (List.length v.2.1))))
 (tst (decide (0 ≤ v.1)) <|
 tst (decide (v.1 < (zz (List.length v.2.1)))) <|
 Option.bind (zo6 Z (((List.getD v.2.1 (Int.toNat v.1) (0,(0,()))).1,(List.getD v.2.1 (Int.toNat v.1) (0,(0,()))).2.1,()),())) fun y_2 =>
 tst (decide (0 ≤ v.1)) <|
 tst (decide (v.1 < (zz (List.length v.2.2)))) <|
 tst (decide (Int.toNat v.1 < List.length v.2.2)) <|
 g0 (w64 (v.1 + (1:Int)),v.2.1,List.set v.2.2 (Int.toNat v.1) (y_2.1.1,y_2.1.2.1,())))
 (some (((v.2.2,()),())))
def zlc (Z:Nat) (g0:zek → zcr):zek → zcr:=zhy Z g0
theorem zEK (Z:Nat) (G):zlb.lp (zhw Z) 0 Z G (endX zhx zbL) 0 zuh = iter (zlc Z) Z:=C.lp_iter fun g v => by kernel_rfl
def zld (Z:Nat) (X0:zek → zcr) (x0:LP):zcr :=
 tst (decide (0 ≤ (zz (List.length x0)))) <|
 tst (decide ((zz (List.length x0)) ≤ (zz (List.length x0)))) <|
 tst (decide (Int.toNat (zz (List.length x0)) < LIM)) <|
 X0 ((0:Int),x0,List.replicate (Int.toNat (zz (List.length x0))) (0,(0,())))
def zle (Z:Nat) (z:((LP × Unit) × Unit)):zcr:=zld Z (iter (zlc Z) Z) z.1.1
theorem zEL (Z:Nat) (xa:zbL.rt.T) (xd:zbL.D.T):zbL.go (zhw Z) Z zlb zhx xa xd = zle Z (zbL.xb (xa,xd)) :=
 (show zbL.go (zhw Z) Z zlb zhx xa xd = zld Z (zlb.lp (zhw Z) 0 Z (fun _ _ _ => none) (endX zhx zbL) 0 zuh) xd.1.1 by kernel_rfl).trans (by rw [zEK]; rfl)
abbrev zui (Z:Nat):LE:=⟨zbL,zle Z⟩
theorem zEM (Z:Nat):EntryOK Tryz.prog 226 (zui Z).te:=okF (T:=zhw Z) (fn:=Tryz.f226) (le:=zui Z) (frz:=[]) (ann:=zug) (cuts:=[]) (rv:=zhx) (TabOK.of (entCons (zEH Z) entNil) (methNil)) mixed (by kernel_rfl) (by kernel_rfl) (by kernel_rfl) (fun _ => rfl) (fun _ => rfl) (fun xa xd y h => ⟨Z,(zEL Z xa xd).trans h⟩)
def zo7 (Z:Nat) (x0:LP) (x1:Int):Option ((LP × (Int × Unit)) × Unit) :=
 Option.bind (zle Z ((x0,()),())) fun y_1 =>
 some (((y_1.1.1,x1,()),()))
def zo8 (Z:Nat) (z:((LP × (Int × Unit)) × Unit)):Option ((LP × (Int × Unit)) × Unit):=zo7 Z z.1.1 z.1.2.1
abbrev zEN (Z:Nat):LE:=⟨.pure (.agg (.dat (Kd.list KP) (.dat I6 .nil)) .nil) (.agg (.own 0 KP (.dat I6 .nil)) .nil) true,zo8 Z⟩
theorem zEO (Z:Nat):EntryOK Tryz.prog 208 (zEN Z).te:=okS (fn:=Tryz.f208) (frz:=[]) (ann:=[]) (cuts:=[]) (rv:=[(2,some (2,true))]) Z (TabOK.of (entCons (zEM Z) entNil) (methNil)) mixed (by kernel_rfl) (by kernel_rfl) (by kernel_rfl) (fun _ => rfl) (fun _ => rfl) (fun _ _ => by kernel_rfl)
def zo9 (Z:Nat) (x0:List (List Int)) (x1:List Int) (x2:LP) (x3:Int) (x4:Int) (x5:LP) (x6:Int):Option (SumY × Unit) :=
 Option.bind (zo0 Z ((x0,()),())) fun y_1 =>
 Option.bind (zo2 Z ((x1,()),())) fun y_2 =>
 Option.bind (zo5 Z ((x2,x3,x4,()),())) fun y_3 =>
 Option.bind (zo8 Z ((x5,x6,()),())) fun y_4 =>
 some (((y_1.1.1,y_2.1.1,y_3.1.1,y_3.1.2.1,y_3.1.2.2.1,y_4.1.1,y_4.1.2.1,()),()))
def zpa (Z:Nat) (z:(SumY × Unit)):Option (SumY × Unit):=zo9 Z z.1.1 z.1.2.1 z.1.2.2.1 z.1.2.2.2.1 z.1.2.2.2.2.1 z.1.2.2.2.2.2.1 z.1.2.2.2.2.2.2.1
abbrev zEP (Z:Nat):LE:=⟨.pure (.agg (.dat (Kd.list (Kd.list I6)) (.dat (Kd.list I6) (.dat (Kd.list KP) (.dat I6 (.dat I6 (.dat (Kd.list KP) (.dat I6 .nil))))))) .nil) (.agg (.dat (Kd.list (Kd.list I6)) (.own 0 I6 (.own 0 KP (.dat I6 (.dat I6 (.own 0 KP (.dat I6 .nil))))))) .nil) false,zpa Z⟩
theorem zEQ (Z:Nat):EntryOK Tryz.prog 189 (zEP Z).te:=okS (fn:=Tryz.f189) (frz:=[]) (ann:=[]) (cuts:=[]) (rv:=[(2,some (7,true))]) Z (TabOK.of (entCons (zEu Z) (entCons (zEw Z) (entCons (zEF Z) (entCons (zEO Z) entNil)))) (methNil)) mixed (by kernel_rfl) (by kernel_rfl) (by kernel_rfl) (fun _ => rfl) (fun _ => rfl) (fun _ _ => by kernel_rfl)
def zpb (Z:Nat) (x0:Int) (x1:Int) (x2:Int) (x3:List (List Int)) (x4:List Int) (x5:LP) (x6:Int) (x7:Int) (x8:LP) (x9:Int):Option ((Int × (Int × (Int × SumY))) × Unit) :=
 Option.bind (zpa Z ((x3,x4,x5,x6,x7,x8,x9,()),())) fun y_1 =>
 some (((x0,x1,x2,y_1.1.1,y_1.1.2.1,y_1.1.2.2.1,y_1.1.2.2.2.1,y_1.1.2.2.2.2.1,y_1.1.2.2.2.2.2.1,y_1.1.2.2.2.2.2.2.1,()),()))
def zlf (Z:Nat) (z:((Int × (Int × (Int × SumY))) × Unit)):Option ((Int × (Int × (Int × SumY))) × Unit):=zpb Z z.1.1 z.1.2.1 z.1.2.2.1 z.1.2.2.2.1 z.1.2.2.2.2.1 z.1.2.2.2.2.2.1 z.1.2.2.2.2.2.2.1 z.1.2.2.2.2.2.2.2.1 z.1.2.2.2.2.2.2.2.2.1 z.1.2.2.2.2.2.2.2.2.2.1
abbrev zuj (Z:Nat):LE:=⟨.pure (.agg (.dat I6 (.dat I6 (.dat I6 (.dat (Kd.list (Kd.list I6)) (.dat (Kd.list I6) (.dat (Kd.list KP) (.dat I6 (.dat I6 (.dat (Kd.list KP) (.dat I6 .nil)))))))))) .nil) (.agg (.dat I6 (.dat I6 (.dat I6 (.dat (Kd.list (Kd.list I6)) (.own 0 I6 (.own 0 KP (.dat I6 (.dat I6 (.own 0 KP (.dat I6 .nil)))))))))) .nil) false,zlf Z⟩
theorem zER (Z:Nat):EntryOK Tryz.prog 166 (zuj Z).te:=okS (fn:=Tryz.f166) (frz:=[]) (ann:=[]) (cuts:=[]) (rv:=[(2,some (10,true))]) Z (TabOK.of (entCons (zEQ Z) entNil) (methNil)) mixed (by kernel_rfl) (by kernel_rfl) (by kernel_rfl) (fun _ => rfl) (fun _ => rfl) (fun _ _ => by kernel_rfl)
abbrev zcs:=Option (((List EY) × Unit) × Unit)
def zhz (Z:Nat):Tab:=Tab.of [(166,(zuj Z).te)] []
def zuk:List Norm:=[⟨[4,0,3],[],[],[]⟩]
noncomputable def zlg:C:=irOf Tryz.prog Tryz.f133 [] zuk []
def zhA:List (Nat × Option (Nat × Bool)):=[(2,none)]
abbrev zES:Sx:=.grp (.dat (Kd.list KE) .nil) .nil
abbrev zET:Sx:=.grp (.dat (Kd.list KE) .nil) .nil
abbrev zbM:LF:=.pure zES zET false
abbrev zel:=(Int) × (List EY) × (List EY)
def zul (v:zel):Env × Heap:=([(4,SV.int .i64 v.1),(0,SV.es KE v.2.1),(3,SV.own 0)],[Blk.arr KE v.2.2 0])
def zhB (Z:Nat) (g0:zel → zcs) (v:zel):zcs :=
 cond (decide (v.1 < (zz (List.length v.2.1))))
 (tst (decide (0 ≤ v.1)) <|
 tst (decide (v.1 < (zz (List.length v.2.1)))) <|
 Option.bind (zlf Z (((List.getD v.2.1 (Int.toNat v.1) (0,(0,(0,((([],()),(([],()),(([],(0,(0,()))),(([],(0,())),())))),()))))).1,(List.getD v.2.1 (Int.toNat v.1) (0,(0,(0,((([],()),(([],()),(([],(0,(0,()))),(([],(0,())),())))),()))))).2.1,(List.getD v.2.1 (Int.toNat v.1) (0,(0,(0,((([],()),(([],()),(([],(0,(0,()))),(([],(0,())),())))),()))))).2.2.1,(List.getD v.2.1 (Int.toNat v.1) (0,(0,(0,((([],()),(([],()),(([],(0,(0,()))),(([],(0,())),())))),()))))).2.2.2.1.1.1,(List.getD v.2.1 (Int.toNat v.1) (0,(0,(0,((([],()),(([],()),(([],(0,(0,()))),(([],(0,())),())))),()))))).2.2.2.1.2.1.1,(List.getD v.2.1 (Int.toNat v.1) (0,(0,(0,((([],()),(([],()),(([],(0,(0,()))),(([],(0,())),())))),()))))).2.2.2.1.2.2.1.1,(List.getD v.2.1 (Int.toNat v.1) (0,(0,(0,((([],()),(([],()),(([],(0,(0,()))),(([],(0,())),())))),()))))).2.2.2.1.2.2.1.2.1,(List.getD v.2.1 (Int.toNat v.1) (0,(0,(0,((([],()),(([],()),(([],(0,(0,()))),(([],(0,())),())))),()))))).2.2.2.1.2.2.1.2.2.1,(List.getD v.2.1 (Int.toNat v.1) (0,(0,(0,((([],()),(([],()),(([],(0,(0,()))),(([],(0,())),())))),()))))).2.2.2.1.2.2.2.1.1,(List.getD v.2.1 (Int.toNat v.1) (0,(0,(0,((([],()),(([],()),(([],(0,(0,()))),(([],(0,())),())))),()))))).2.2.2.1.2.2.2.1.2.1,()),())) fun y_2 =>
 tst (decide (0 ≤ v.1)) <|
 tst (decide (v.1 < (zz (List.length v.2.2)))) <|
 tst (decide (Int.toNat v.1 < List.length v.2.2)) <|
 g0 (w64 (v.1 + (1:Int)),v.2.1,List.set v.2.2 (Int.toNat v.1) (y_2.1.1,y_2.1.2.1,y_2.1.2.2.1,((y_2.1.2.2.2.1,()),(y_2.1.2.2.2.2.1,()),(y_2.1.2.2.2.2.2.1,y_2.1.2.2.2.2.2.2.1,y_2.1.2.2.2.2.2.2.2.1,()),(y_2.1.2.2.2.2.2.2.2.2.1,y_2.1.2.2.2.2.2.2.2.2.2.1,()),()),())))
 (some (((v.2.2,()),())))
def zlh (Z:Nat) (g0:zel → zcs):zel → zcs:=zhB Z g0
theorem zEU (Z:Nat) (G):zlg.lp (zhz Z) 0 Z G (endX zhA zbM) 0 zul = iter (zlh Z) Z:=C.lp_iter fun g v => by kernel_rfl
def zli (Z:Nat) (X0:zel → zcs) (x0:List EY):zcs :=
 tst (decide (0 ≤ (zz (List.length x0)))) <|
 tst (decide ((zz (List.length x0)) ≤ (zz (List.length x0)))) <|
 tst (decide (Int.toNat (zz (List.length x0)) < LIM)) <|
 X0 ((0:Int),x0,List.replicate (Int.toNat (zz (List.length x0))) (0,(0,(0,((([],()),(([],()),(([],(0,(0,()))),(([],(0,())),())))),())))))
def zhC (Z:Nat) (z:(((List EY) × Unit) × Unit)):zcs:=zli Z (iter (zlh Z) Z) z.1.1
theorem zEV (Z:Nat) (xa:zbM.rt.T) (xd:zbM.D.T):zbM.go (zhz Z) Z zlg zhA xa xd = zhC Z (zbM.xb (xa,xd)) :=
 (show zbM.go (zhz Z) Z zlg zhA xa xd = zli Z (zlg.lp (zhz Z) 0 Z (fun _ _ _ => none) (endX zhA zbM) 0 zul) xd.1.1 by kernel_rfl).trans (by rw [zEU]; rfl)
abbrev zum (Z:Nat):LE:=⟨zbM,zhC Z⟩
theorem zun (Z:Nat):EntryOK Tryz.prog 133 (zum Z).te:=okF (T:=zhz Z) (fn:=Tryz.f133) (le:=zum Z) (frz:=[]) (ann:=zuk) (cuts:=[]) (rv:=zhA) (TabOK.of (entCons (zER Z) entNil) (methNil)) mixed (by kernel_rfl) (by kernel_rfl) (by kernel_rfl) (fun _ => rfl) (fun _ => rfl) (fun xa xd y h => ⟨Z,(zEV Z xa xd).trans h⟩)
def zpc (Z:Nat) (x0:Int) (x1:List EY) (x2:Int) (x3:Int) (x4:Int):Option (NY × Unit) :=
 Option.bind (zhC Z ((x1,()),())) fun y_1 =>
 some (((x0,y_1.1.1,x2,x3,x4,()),()))
def zlj (Z:Nat) (z:(NY × Unit)):Option (NY × Unit):=zpc Z z.1.1 z.1.2.1 z.1.2.2.1 z.1.2.2.2.1 z.1.2.2.2.2.1
abbrev zuo (Z:Nat):LE:=⟨.pure (.agg (.dat I6 (.dat (Kd.list KE) (.dat I6 (.dat I6 (.dat I6 .nil))))) .nil) (.agg (.dat I6 (.dat (Kd.list KE) (.dat I6 (.dat I6 (.dat I6 .nil))))) .nil) false,zlj Z⟩
theorem zEW (Z:Nat):EntryOK Tryz.prog 105 (zuo Z).te:=okS (fn:=Tryz.f105) (frz:=[]) (ann:=[]) (cuts:=[]) (rv:=[(2,some (5,true))]) Z (TabOK.of (entCons (zun Z) entNil) (methNil)) mixed (by kernel_rfl) (by kernel_rfl) (by kernel_rfl) (fun _ => rfl) (fun _ => rfl) (fun _ _ => by kernel_rfl)
abbrev zct:=Option (((List NY) × Unit) × Unit)
def zhD (Z:Nat):Tab:=Tab.of [(105,(zuo Z).te)] []
def zup:List Norm:=[⟨[4,0,3],[],[],[]⟩]
noncomputable def zlk:C:=irOf Tryz.prog Tryz.f67 [] zup []
def zhE:List (Nat × Option (Nat × Bool)):=[(2,none)]
abbrev zEX:Sx:=.grp (.dat (Kd.list KN) .nil) .nil
abbrev zEY:Sx:=.grp (.dat (Kd.list KN) .nil) .nil
abbrev zbN:LF:=.pure zEX zEY false
abbrev zem:=(Int) × (List NY) × (List NY)
def zuq (v:zem):Env × Heap:=([(4,SV.int .i64 v.1),(0,SV.es KN v.2.1),(3,SV.own 0)],[Blk.arr KN v.2.2 0])
def zhF (Z:Nat) (g0:zem → zct) (v:zem):zct :=
 cond (decide (v.1 < (zz (List.length v.2.1))))
 (tst (decide (0 ≤ v.1)) <|
 tst (decide (v.1 < (zz (List.length v.2.1)))) <|
 Option.bind (zlj Z (((List.getD v.2.1 (Int.toNat v.1) (0,([],(0,(0,(0,())))))).1,(List.getD v.2.1 (Int.toNat v.1) (0,([],(0,(0,(0,())))))).2.1,(List.getD v.2.1 (Int.toNat v.1) (0,([],(0,(0,(0,())))))).2.2.1,(List.getD v.2.1 (Int.toNat v.1) (0,([],(0,(0,(0,())))))).2.2.2.1,(List.getD v.2.1 (Int.toNat v.1) (0,([],(0,(0,(0,())))))).2.2.2.2.1,()),())) fun y_2 =>
 tst (decide (0 ≤ v.1)) <|
 tst (decide (v.1 < (zz (List.length v.2.2)))) <|
 tst (decide (Int.toNat v.1 < List.length v.2.2)) <|
 g0 (w64 (v.1 + (1:Int)),v.2.1,List.set v.2.2 (Int.toNat v.1) (y_2.1.1,y_2.1.2.1,y_2.1.2.2.1,y_2.1.2.2.2.1,y_2.1.2.2.2.2.1,())))
 (some (((v.2.2,()),())))
def zll (Z:Nat) (g0:zem → zct):zem → zct:=zhF Z g0
theorem zEZ (Z:Nat) (G):zlk.lp (zhD Z) 0 Z G (endX zhE zbN) 0 zuq = iter (zll Z) Z:=C.lp_iter fun g v => by kernel_rfl
def zlm (Z:Nat) (X0:zem → zct) (x0:List NY):zct :=
 tst (decide (0 ≤ (zz (List.length x0)))) <|
 tst (decide ((zz (List.length x0)) ≤ (zz (List.length x0)))) <|
 tst (decide (Int.toNat (zz (List.length x0)) < LIM)) <|
 X0 ((0:Int),x0,List.replicate (Int.toNat (zz (List.length x0))) (0,([],(0,(0,(0,()))))))
def zln (Z:Nat) (z:(((List NY) × Unit) × Unit)):zct:=zlm Z (iter (zll Z) Z) z.1.1
theorem zE0 (Z:Nat) (xa:zbN.rt.T) (xd:zbN.D.T):zbN.go (zhD Z) Z zlk zhE xa xd = zln Z (zbN.xb (xa,xd)) :=
 (show zbN.go (zhD Z) Z zlk zhE xa xd = zlm Z (zlk.lp (zhD Z) 0 Z (fun _ _ _ => none) (endX zhE zbN) 0 zuq) xd.1.1 by kernel_rfl).trans (by rw [zEZ]; rfl)
abbrev zur (Z:Nat):LE:=⟨zbN,zln Z⟩
theorem zE1 (Z:Nat):EntryOK Tryz.prog 67 (zur Z).te:=okF (T:=zhD Z) (fn:=Tryz.f67) (le:=zur Z) (frz:=[]) (ann:=zup) (cuts:=[]) (rv:=zhE) (TabOK.of (entCons (zEW Z) entNil) (methNil)) mixed (by kernel_rfl) (by kernel_rfl) (by kernel_rfl) (fun _ => rfl) (fun _ => rfl) (fun xa xd y h => ⟨Z,(zE0 Z xa xd).trans h⟩)
abbrev zcu:=Option (((List Bool) × Unit) × Unit)
def zhG (Z:Nat):Tab:=Tab.of [] []
def zus:List Norm:=[⟨[4,0,3],[],[],[]⟩]
noncomputable def zlo:C:=irOf Tryz.prog Tryz.f68 [] zus []
def zhH:List (Nat × Option (Nat × Bool)):=[(2,none)]
abbrev zE2:Sx:=.grp (.dat (Kd.list Kd.bool) .nil) .nil
abbrev zE3:Sx:=.grp (.own 0 Kd.bool .nil) .nil
abbrev zbO:LF:=.pure zE2 zE3 true
abbrev zen:=(Int) × (List Bool) × (List Bool)
def zut (v:zen):Env × Heap:=([(4,SV.int .i64 v.1),(0,SV.es Kd.bool v.2.1),(3,SV.own 0)],[Blk.arr Kd.bool v.2.2 0])
def zhI (Z:Nat) (g0:zen → zcu) (v:zen):zcu :=
 cond (decide (v.1 < (zz (List.length v.2.1))))
 (tst (decide (0 ≤ v.1)) <|
 tst (decide (v.1 < (zz (List.length v.2.1)))) <|
 tst (decide (0 ≤ v.1)) <|
 tst (decide (v.1 < (zz (List.length v.2.2)))) <|
 tst (decide (Int.toNat v.1 < List.length v.2.2)) <|
 g0 (w64 (v.1 + (1:Int)),v.2.1,List.set v.2.2 (Int.toNat v.1) (List.getD v.2.1 (Int.toNat v.1) false)))
 (some (((v.2.2,()),())))
def zlp (Z:Nat) (g0:zen → zcu):zen → zcu:=zhI Z g0
theorem zE4 (Z:Nat) (G):zlo.lp (zhG Z) 0 Z G (endX zhH zbO) 0 zut = iter (zlp Z) Z:=C.lp_iter fun g v => by kernel_rfl
def zlq (Z:Nat) (X0:zen → zcu) (x0:List Bool):zcu :=
 tst (decide (0 ≤ (zz (List.length x0)))) <|
 tst (decide ((zz (List.length x0)) ≤ (zz (List.length x0)))) <|
 tst (decide (Int.toNat (zz (List.length x0)) < LIM)) <|
 X0 ((0:Int),x0,List.replicate (Int.toNat (zz (List.length x0))) false)
def zlr (Z:Nat) (z:(((List Bool) × Unit) × Unit)):zcu:=zlq Z (iter (zlp Z) Z) z.1.1
theorem zE5 (Z:Nat) (xa:zbO.rt.T) (xd:zbO.D.T):zbO.go (zhG Z) Z zlo zhH xa xd = zlr Z (zbO.xb (xa,xd)) :=
 (show zbO.go (zhG Z) Z zlo zhH xa xd = zlq Z (zlo.lp (zhG Z) 0 Z (fun _ _ _ => none) (endX zhH zbO) 0 zut) xd.1.1 by kernel_rfl).trans (by rw [zE4]; rfl)
abbrev zuu (Z:Nat):LE:=⟨zbO,zlr Z⟩
theorem zE6 (Z:Nat):EntryOK Tryz.prog 68 (zuu Z).te:=okF (T:=zhG Z) (fn:=Tryz.f68) (le:=zuu Z) (frz:=[]) (ann:=zus) (cuts:=[]) (rv:=zhH) (TabOK.of (entNil) (methNil)) mixed (by kernel_rfl) (by kernel_rfl) (by kernel_rfl) (fun _ => rfl) (fun _ => rfl) (fun xa xd y h => ⟨Z,(zE5 Z xa xd).trans h⟩)
def zpd (Z:Nat) (x0:Int) (x1:Int) (x2:Int) (x3:Int) (x4:Int) (x5:List EY):Option (WY × Unit) :=
 Option.bind (zhC Z ((x5,()),())) fun y_1 =>
 some (((x0,x1,x2,x3,x4,y_1.1.1,()),()))
def zls (Z:Nat) (z:(WY × Unit)):Option (WY × Unit):=zpd Z z.1.1 z.1.2.1 z.1.2.2.1 z.1.2.2.2.1 z.1.2.2.2.2.1 z.1.2.2.2.2.2.1
abbrev zuv (Z:Nat):LE:=⟨.pure (.agg (.dat I6 (.dat I6 (.dat I6 (.dat I6 (.dat I6 (.dat (Kd.list KE) .nil)))))) .nil) (.agg (.dat I6 (.dat I6 (.dat I6 (.dat I6 (.dat I6 (.dat (Kd.list KE) .nil)))))) .nil) false,zls Z⟩
theorem zE7 (Z:Nat):EntryOK Tryz.prog 106 (zuv Z).te:=okS (fn:=Tryz.f106) (frz:=[]) (ann:=[]) (cuts:=[]) (rv:=[(2,some (6,true))]) Z (TabOK.of (entCons (zun Z) entNil) (methNil)) mixed (by kernel_rfl) (by kernel_rfl) (by kernel_rfl) (fun _ => rfl) (fun _ => rfl) (fun _ _ => by kernel_rfl)
abbrev zcv:=Option (((List WY) × Unit) × Unit)
def zhJ (Z:Nat):Tab:=Tab.of [(106,(zuv Z).te)] []
def zuw:List Norm:=[⟨[4,0,3],[],[],[]⟩]
noncomputable def zlt:C:=irOf Tryz.prog Tryz.f69 [] zuw []
def zhK:List (Nat × Option (Nat × Bool)):=[(2,none)]
abbrev zE8:Sx:=.grp (.dat (Kd.list KW) .nil) .nil
abbrev zE9:Sx:=.grp (.dat (Kd.list KW) .nil) .nil
abbrev zbP:LF:=.pure zE8 zE9 false
abbrev zeo:=(Int) × (List WY) × (List WY)
def zux (v:zeo):Env × Heap:=([(4,SV.int .i64 v.1),(0,SV.es KW v.2.1),(3,SV.own 0)],[Blk.arr KW v.2.2 0])
def zhL (Z:Nat) (g0:zeo → zcv) (v:zeo):zcv :=
 cond (decide (v.1 < (zz (List.length v.2.1))))
 (tst (decide (0 ≤ v.1)) <|
 tst (decide (v.1 < (zz (List.length v.2.1)))) <|
 Option.bind (zls Z (((List.getD v.2.1 (Int.toNat v.1) (0,(0,(0,(0,(0,([],()))))))).1,(List.getD v.2.1 (Int.toNat v.1) (0,(0,(0,(0,(0,([],()))))))).2.1,(List.getD v.2.1 (Int.toNat v.1) (0,(0,(0,(0,(0,([],()))))))).2.2.1,(List.getD v.2.1 (Int.toNat v.1) (0,(0,(0,(0,(0,([],()))))))).2.2.2.1,(List.getD v.2.1 (Int.toNat v.1) (0,(0,(0,(0,(0,([],()))))))).2.2.2.2.1,(List.getD v.2.1 (Int.toNat v.1) (0,(0,(0,(0,(0,([],()))))))).2.2.2.2.2.1,()),())) fun y_2 =>
 tst (decide (0 ≤ v.1)) <|
 tst (decide (v.1 < (zz (List.length v.2.2)))) <|
 tst (decide (Int.toNat v.1 < List.length v.2.2)) <|
 g0 (w64 (v.1 + (1:Int)),v.2.1,List.set v.2.2 (Int.toNat v.1) (y_2.1.1,y_2.1.2.1,y_2.1.2.2.1,y_2.1.2.2.2.1,y_2.1.2.2.2.2.1,y_2.1.2.2.2.2.2.1,())))
 (some (((v.2.2,()),())))
def zlu (Z:Nat) (g0:zeo → zcv):zeo → zcv:=zhL Z g0
theorem zFa (Z:Nat) (G):zlt.lp (zhJ Z) 0 Z G (endX zhK zbP) 0 zux = iter (zlu Z) Z:=C.lp_iter fun g v => by kernel_rfl
def zlv (Z:Nat) (X0:zeo → zcv) (x0:List WY):zcv :=
 tst (decide (0 ≤ (zz (List.length x0)))) <|
 tst (decide ((zz (List.length x0)) ≤ (zz (List.length x0)))) <|
 tst (decide (Int.toNat (zz (List.length x0)) < LIM)) <|
 X0 ((0:Int),x0,List.replicate (Int.toNat (zz (List.length x0))) (0,(0,(0,(0,(0,([],())))))))
def zlw (Z:Nat) (z:(((List WY) × Unit) × Unit)):zcv:=zlv Z (iter (zlu Z) Z) z.1.1
theorem zFb (Z:Nat) (xa:zbP.rt.T) (xd:zbP.D.T):zbP.go (zhJ Z) Z zlt zhK xa xd = zlw Z (zbP.xb (xa,xd)) :=
 (show zbP.go (zhJ Z) Z zlt zhK xa xd = zlv Z (zlt.lp (zhJ Z) 0 Z (fun _ _ _ => none) (endX zhK zbP) 0 zux) xd.1.1 by kernel_rfl).trans (by rw [zFa]; rfl)
abbrev zuy (Z:Nat):LE:=⟨zbP,zlw Z⟩
theorem zFc (Z:Nat):EntryOK Tryz.prog 69 (zuy Z).te:=okF (T:=zhJ Z) (fn:=Tryz.f69) (le:=zuy Z) (frz:=[]) (ann:=zuw) (cuts:=[]) (rv:=zhK) (TabOK.of (entCons (zE7 Z) entNil) (methNil)) mixed (by kernel_rfl) (by kernel_rfl) (by kernel_rfl) (fun _ => rfl) (fun _ => rfl) (fun xa xd y h => ⟨Z,(zFb Z xa xd).trans h⟩)
abbrev zcw:=Option (((List (List (List Int))) × Unit) × Unit)
def zhM (Z:Nat):Tab:=Tab.of [(107,(zoY Z).te)] []
def zuz:List Norm:=[⟨[4,0,3],[],[],[]⟩]
noncomputable def zlx:C:=irOf Tryz.prog Tryz.f70 [] zuz []
def zhN:List (Nat × Option (Nat × Bool)):=[(2,none)]
abbrev zFd:Sx:=.grp (.dat (Kd.list (Kd.list (Kd.list I6))) .nil) .nil
abbrev zFe:Sx:=.grp (.dat (Kd.list (Kd.list (Kd.list I6))) .nil) .nil
abbrev zbQ:LF:=.pure zFd zFe false
abbrev zep:=(Int) × (List (List (List Int))) × (List (List (List Int)))
def zuA (v:zep):Env × Heap:=([(4,SV.int .i64 v.1),(0,SV.es (Kd.list (Kd.list I6)) v.2.1),(3,SV.own 0)],[Blk.arr (Kd.list (Kd.list I6)) v.2.2 0])
def zhO (Z:Nat) (g0:zep → zcw) (v:zep):zcw :=
 cond (decide (v.1 < (zz (List.length v.2.1))))
 (tst (decide (0 ≤ v.1)) <|
 tst (decide (v.1 < (zz (List.length v.2.1)))) <|
 Option.bind (zei Z ((List.getD v.2.1 (Int.toNat v.1) [],()),())) fun y_2 =>
 tst (decide (0 ≤ v.1)) <|
 tst (decide (v.1 < (zz (List.length v.2.2)))) <|
 tst (decide (Int.toNat v.1 < List.length v.2.2)) <|
 g0 (w64 (v.1 + (1:Int)),v.2.1,List.set v.2.2 (Int.toNat v.1) y_2.1.1))
 (some (((v.2.2,()),())))
def zly (Z:Nat) (g0:zep → zcw):zep → zcw:=zhO Z g0
theorem zFf (Z:Nat) (G):zlx.lp (zhM Z) 0 Z G (endX zhN zbQ) 0 zuA = iter (zly Z) Z:=C.lp_iter fun g v => by kernel_rfl
def zlz (Z:Nat) (X0:zep → zcw) (x0:List (List (List Int))):zcw :=
 tst (decide (0 ≤ (zz (List.length x0)))) <|
 tst (decide ((zz (List.length x0)) ≤ (zz (List.length x0)))) <|
 tst (decide (Int.toNat (zz (List.length x0)) < LIM)) <|
 X0 ((0:Int),x0,List.replicate (Int.toNat (zz (List.length x0))) [])
def zlA (Z:Nat) (z:(((List (List (List Int))) × Unit) × Unit)):zcw:=zlz Z (iter (zly Z) Z) z.1.1
theorem zFg (Z:Nat) (xa:zbQ.rt.T) (xd:zbQ.D.T):zbQ.go (zhM Z) Z zlx zhN xa xd = zlA Z (zbQ.xb (xa,xd)) :=
 (show zbQ.go (zhM Z) Z zlx zhN xa xd = zlz Z (zlx.lp (zhM Z) 0 Z (fun _ _ _ => none) (endX zhN zbQ) 0 zuA) xd.1.1 by kernel_rfl).trans (by rw [zFf]; rfl)
abbrev zuB (Z:Nat):LE:=⟨zbQ,zlA Z⟩
theorem zFh (Z:Nat):EntryOK Tryz.prog 70 (zuB Z).te:=okF (T:=zhM Z) (fn:=Tryz.f70) (le:=zuB Z) (frz:=[]) (ann:=zuz) (cuts:=[]) (rv:=zhN) (TabOK.of (entCons (zua Z) entNil) (methNil)) mixed (by kernel_rfl) (by kernel_rfl) (by kernel_rfl) (fun _ => rfl) (fun _ => rfl) (fun xa xd y h => ⟨Z,(zFg Z xa xd).trans h⟩)
def zpe (Z:Nat) (x0:List NY) (x1:List Bool) (x2:List WY) (x3:List (List (List Int))):Option (((List NY) × ((List Bool) × ((List WY) × ((List (List (List Int))) × Unit)))) × Unit) :=
 Option.bind (zln Z ((x0,()),())) fun y_1 =>
 Option.bind (zlr Z ((x1,()),())) fun y_2 =>
 Option.bind (zlw Z ((x2,()),())) fun y_3 =>
 Option.bind (zlA Z ((x3,()),())) fun y_4 =>
 some (((y_1.1.1,y_2.1.1,y_3.1.1,y_4.1.1,()),()))
def zhP (Z:Nat) (z:(((List NY) × ((List Bool) × ((List WY) × ((List (List (List Int))) × Unit)))) × Unit)):Option (((List NY) × ((List Bool) × ((List WY) × ((List (List (List Int))) × Unit)))) × Unit):=zpe Z z.1.1 z.1.2.1 z.1.2.2.1 z.1.2.2.2.1
abbrev zuC (Z:Nat):LE:=⟨.pure (.agg (.dat (Kd.list KN) (.dat (Kd.list Kd.bool) (.dat (Kd.list KW) (.dat (Kd.list (Kd.list (Kd.list I6))) .nil)))) .nil) (.agg (.dat (Kd.list KN) (.own 0 Kd.bool (.dat (Kd.list KW) (.dat (Kd.list (Kd.list (Kd.list I6))) .nil)))) .nil) false,zhP Z⟩
theorem zFi (Z:Nat):EntryOK Tryz.prog 19 (zuC Z).te:=okS (fn:=Tryz.f19) (frz:=[]) (ann:=[]) (cuts:=[]) (rv:=[(2,some (4,true))]) Z (TabOK.of (entCons (zE1 Z) (entCons (zE6 Z) (entCons (zFc Z) (entCons (zFh Z) entNil)))) (methNil)) mixed (by kernel_rfl) (by kernel_rfl) (by kernel_rfl) (fun _ => rfl) (fun _ => rfl) (fun _ _ => by kernel_rfl)
end Go.Proofs.YtljojacnjjgceaaGreat.Den
namespace Go.Proofs.YtljojacnjjgceaaGreat.Den
open Go Go.RowKit
def zhQ (Z:Nat):Tab:=Tab.of [] []
def zuD:List Norm:=[⟨[5,0,1],[],[],[]⟩]
noncomputable def zlB:C:=irOf Tryz.prog Tryz.f136 [] zuD []
def zhR:List (Nat × Option (Nat × Bool)):=[(4,none)]
abbrev zFj:Sx:=.grp (.dat (Kd.list I6) .nil) (.grp (.dat (Kd.list I6) .nil) .nil)
abbrev zFk:Sx:=.grp (.dat Kd.bool .nil) .nil
abbrev zbR:LF:=.pure zFj zFk true
abbrev zeq:=(Int) × (List Int) × (List Int)
def zuE (v:zeq):Env × Heap:=([(5,SV.int .i64 v.1),(0,SV.es I6 v.2.1),(1,SV.es I6 v.2.2)],[])
def zhS (Z:Nat) (g0:zeq → Option ((Bool × Unit) × Unit)) (v:zeq):Option ((Bool × Unit) × Unit) :=
 cond (decide (v.1 < (zz (List.length v.2.1))))
 (tst (decide (0 ≤ v.1)) <|
 tst (decide (v.1 < (zz (List.length v.2.1)))) <|
 tst (decide (0 ≤ v.1)) <|
 tst (decide (v.1 < (zz (List.length v.2.2)))) <|
 cond (List.getD v.2.1 (Int.toNat v.1) 0 != List.getD v.2.2 (Int.toNat v.1) 0)
 (some (((false,()),())))
 (g0 (w64 (v.1 + (1:Int)),v.2.1,v.2.2)))
 (some (((true,()),())))
def zlC (Z:Nat) (g0:zeq → Option ((Bool × Unit) × Unit)):zeq → Option ((Bool × Unit) × Unit):=zhS Z g0
theorem zFl (Z:Nat) (G):zlB.lp (zhQ Z) 0 Z G (endX zhR zbR) 0 zuE = iter (zlC Z) Z:=C.lp_iter fun g v => by kernel_rfl
def zlD (Z:Nat) (X0:zeq → Option ((Bool × Unit) × Unit)) (x0:List Int) (x1:List Int):Option ((Bool × Unit) × Unit) :=
 cond ((zz (List.length x0)) != (zz (List.length x1)))
 (some (((false,()),())))
 (X0 ((0:Int),x0,x1))
def zer (Z:Nat) (z:(((List Int) × Unit) × (((List Int) × Unit) × Unit))):Option ((Bool × Unit) × Unit):=zlD Z (iter (zlC Z) Z) z.1.1 z.2.1.1
theorem zFm (Z:Nat) (xa:zbR.rt.T) (xd:zbR.D.T):zbR.go (zhQ Z) Z zlB zhR xa xd = zer Z (zbR.xb (xa,xd)) :=
 (show zbR.go (zhQ Z) Z zlB zhR xa xd = zlD Z (zlB.lp (zhQ Z) 0 Z (fun _ _ _ => none) (endX zhR zbR) 0 zuE) xd.1.1 xd.2.1.1 by kernel_rfl).trans (by rw [zFl]; rfl)
abbrev zpf (Z:Nat):LE:=⟨zbR,zer Z⟩
theorem zuF (Z:Nat):EntryOK Tryz.prog 136 (zpf Z).te:=okF (T:=zhQ Z) (fn:=Tryz.f136) (le:=zpf Z) (frz:=[]) (ann:=zuD) (cuts:=[]) (rv:=zhR) (TabOK.of (entNil) (methNil)) mixed (by kernel_rfl) (by kernel_rfl) (by kernel_rfl) (fun _ => rfl) (fun _ => rfl) (fun xa xd y h => ⟨Z,(zFm Z xa xd).trans h⟩)
def zhT (Z:Nat):Tab:=Tab.of [(136,(zpf Z).te)] []
def zuG:List Norm:=[⟨[5,0,1],[],[],[]⟩]
noncomputable def zlE:C:=irOf Tryz.prog Tryz.f110 [] zuG []
def zhU:List (Nat × Option (Nat × Bool)):=[(4,none)]
abbrev zFn:Sx:=.grp (.dat (Kd.list (Kd.list I6)) .nil) (.grp (.dat (Kd.list (Kd.list I6)) .nil) .nil)
abbrev zFo:Sx:=.grp (.dat Kd.bool .nil) .nil
abbrev zbS:LF:=.pure zFn zFo true
abbrev zes:=(Int) × (List (List Int)) × (List (List Int))
def zuH (v:zes):Env × Heap:=([(5,SV.int .i64 v.1),(0,SV.es (Kd.list I6) v.2.1),(1,SV.es (Kd.list I6) v.2.2)],[])
def zhV (Z:Nat) (g0:zes → Option ((Bool × Unit) × Unit)) (v:zes):Option ((Bool × Unit) × Unit) :=
 cond (decide (v.1 < (zz (List.length v.2.1))))
 (tst (decide (0 ≤ v.1)) <|
 tst (decide (v.1 < (zz (List.length v.2.1)))) <|
 tst (decide (0 ≤ v.1)) <|
 tst (decide (v.1 < (zz (List.length v.2.2)))) <|
 Option.bind (zer Z ((List.getD v.2.1 (Int.toNat v.1) [],()),(List.getD v.2.2 (Int.toNat v.1) [],()),())) fun y_2 =>
 cond (!y_2.1.1)
 (some (((false,()),())))
 (g0 (w64 (v.1 + (1:Int)),v.2.1,v.2.2)))
 (some (((true,()),())))
def zlF (Z:Nat) (g0:zes → Option ((Bool × Unit) × Unit)):zes → Option ((Bool × Unit) × Unit):=zhV Z g0
theorem zFp (Z:Nat) (G):zlE.lp (zhT Z) 0 Z G (endX zhU zbS) 0 zuH = iter (zlF Z) Z:=C.lp_iter fun g v => by kernel_rfl
def zlG (Z:Nat) (X0:zes → Option ((Bool × Unit) × Unit)) (x0:List (List Int)) (x1:List (List Int)):Option ((Bool × Unit) × Unit) :=
 cond ((zz (List.length x0)) != (zz (List.length x1)))
 (some (((false,()),())))
 (X0 ((0:Int),x0,x1))
def zet (Z:Nat) (z:(((List (List Int)) × Unit) × (((List (List Int)) × Unit) × Unit))):Option ((Bool × Unit) × Unit):=zlG Z (iter (zlF Z) Z) z.1.1 z.2.1.1
theorem zFq (Z:Nat) (xa:zbS.rt.T) (xd:zbS.D.T):zbS.go (zhT Z) Z zlE zhU xa xd = zet Z (zbS.xb (xa,xd)) :=
 (show zbS.go (zhT Z) Z zlE zhU xa xd = zlG Z (zlE.lp (zhT Z) 0 Z (fun _ _ _ => none) (endX zhU zbS) 0 zuH) xd.1.1 xd.2.1.1 by kernel_rfl).trans (by rw [zFp]; rfl)
abbrev zpg (Z:Nat):LE:=⟨zbS,zet Z⟩
theorem zuI (Z:Nat):EntryOK Tryz.prog 110 (zpg Z).te:=okF (T:=zhT Z) (fn:=Tryz.f110) (le:=zpg Z) (frz:=[]) (ann:=zuG) (cuts:=[]) (rv:=zhU) (TabOK.of (entCons (zuF Z) entNil) (methNil)) mixed (by kernel_rfl) (by kernel_rfl) (by kernel_rfl) (fun _ => rfl) (fun _ => rfl) (fun xa xd y h => ⟨Z,(zFq Z xa xd).trans h⟩)
def zph (Z:Nat) (x0:List (List Int)) (x1:List (List Int)):Option ((Bool × Unit) × Unit) :=
 Option.bind (zet Z ((x0,()),(x1,()),())) fun y_1 =>
 cond (!y_1.1.1)
 (some (((false,()),())))
 (some (((true,()),())))
def zpi (Z:Nat) (z:(((List (List Int)) × Unit) × (((List (List Int)) × Unit) × Unit))):Option ((Bool × Unit) × Unit):=zph Z z.1.1 z.2.1.1
abbrev zFr (Z:Nat):LE:=⟨.pure (.agg (.dat (Kd.list (Kd.list I6)) .nil) (.agg (.dat (Kd.list (Kd.list I6)) .nil) .nil)) (.grp (.dat Kd.bool .nil) .nil) true,zpi Z⟩
theorem zFs (Z:Nat):EntryOK Tryz.prog 209 (zFr Z).te:=okS (fn:=Tryz.f209) (frz:=[]) (ann:=[]) (cuts:=[]) (rv:=[(4,none)]) Z (TabOK.of (entCons (zuI Z) entNil) (methNil)) mixed (by kernel_rfl) (by kernel_rfl) (by kernel_rfl) (fun _ => rfl) (fun _ => rfl) (fun _ _ => by kernel_rfl)
def zpj (Z:Nat) (x0:List Int) (x1:List Int):Option ((Bool × Unit) × Unit) :=
 Option.bind (zer Z ((x0,()),(x1,()),())) fun y_1 =>
 cond (!y_1.1.1)
 (some (((false,()),())))
 (some (((true,()),())))
def zpk (Z:Nat) (z:(((List Int) × Unit) × (((List Int) × Unit) × Unit))):Option ((Bool × Unit) × Unit):=zpj Z z.1.1 z.2.1.1
abbrev zFt (Z:Nat):LE:=⟨.pure (.agg (.dat (Kd.list I6) .nil) (.agg (.dat (Kd.list I6) .nil) .nil)) (.grp (.dat Kd.bool .nil) .nil) true,zpk Z⟩
theorem zFu (Z:Nat):EntryOK Tryz.prog 210 (zFt Z).te:=okS (fn:=Tryz.f210) (frz:=[]) (ann:=[]) (cuts:=[]) (rv:=[(4,none)]) Z (TabOK.of (entCons (zuF Z) entNil) (methNil)) mixed (by kernel_rfl) (by kernel_rfl) (by kernel_rfl) (fun _ => rfl) (fun _ => rfl) (fun _ _ => by kernel_rfl)
def zpl (Z:Nat) (x0:Int) (x1:Int) (x2:Int) (x3:Int):Option ((Bool × Unit) × Unit) :=
 cond (x0 != x2)
 (some (((false,()),())))
 (cond (x1 != x3)
 (some (((false,()),())))
 (some (((true,()),()))))
def zpm (Z:Nat) (z:((Int × (Int × Unit)) × ((Int × (Int × Unit)) × Unit))):Option ((Bool × Unit) × Unit):=zpl Z z.1.1 z.1.2.1 z.2.1.1 z.2.1.2.1
abbrev zuJ (Z:Nat):LE:=⟨.pure (.agg (.dat I6 (.dat I6 .nil)) (.agg (.dat I6 (.dat I6 .nil)) .nil)) (.grp (.dat Kd.bool .nil) .nil) true,zpm Z⟩
theorem zFv (Z:Nat):EntryOK Tryz.prog 235 (zuJ Z).te:=okS (fn:=Tryz.f235) (frz:=[]) (ann:=[]) (cuts:=[]) (rv:=[(4,none)]) Z (TabOK.of (entNil) (methNil)) mixed (by kernel_rfl) (by kernel_rfl) (by kernel_rfl) (fun _ => rfl) (fun _ => rfl) (fun _ _ => by kernel_rfl)
def zhW (Z:Nat):Tab:=Tab.of [(235,(zuJ Z).te)] []
def zuK:List Norm:=[⟨[5,0,1],[],[],[]⟩]
noncomputable def zlH:C:=irOf Tryz.prog Tryz.f227 [] zuK []
def zhX:List (Nat × Option (Nat × Bool)):=[(4,none)]
abbrev zFw:Sx:=.grp (.dat (Kd.list KP) .nil) (.grp (.dat (Kd.list KP) .nil) .nil)
abbrev zFx:Sx:=.grp (.dat Kd.bool .nil) .nil
abbrev zbT:LF:=.pure zFw zFx true
abbrev zeu:=(Int) × LP × LP
def zuL (v:zeu):Env × Heap:=([(5,SV.int .i64 v.1),(0,SV.es KP v.2.1),(1,SV.es KP v.2.2)],[])
def zhY (Z:Nat) (g0:zeu → Option ((Bool × Unit) × Unit)) (v:zeu):Option ((Bool × Unit) × Unit) :=
 cond (decide (v.1 < (zz (List.length v.2.1))))
 (tst (decide (0 ≤ v.1)) <|
 tst (decide (v.1 < (zz (List.length v.2.1)))) <|
 tst (decide (0 ≤ v.1)) <|
 tst (decide (v.1 < (zz (List.length v.2.2)))) <|
 Option.bind (zpm Z (((List.getD v.2.1 (Int.toNat v.1) (0,(0,()))).1,(List.getD v.2.1 (Int.toNat v.1) (0,(0,()))).2.1,()),((List.getD v.2.2 (Int.toNat v.1) (0,(0,()))).1,(List.getD v.2.2 (Int.toNat v.1) (0,(0,()))).2.1,()),())) fun y_2 =>
 cond (!y_2.1.1)
 (some (((false,()),())))
 (g0 (w64 (v.1 + (1:Int)),v.2.1,v.2.2)))
 (some (((true,()),())))
def zlI (Z:Nat) (g0:zeu → Option ((Bool × Unit) × Unit)):zeu → Option ((Bool × Unit) × Unit):=zhY Z g0
theorem zFy (Z:Nat) (G):zlH.lp (zhW Z) 0 Z G (endX zhX zbT) 0 zuL = iter (zlI Z) Z:=C.lp_iter fun g v => by kernel_rfl
def zlJ (Z:Nat) (X0:zeu → Option ((Bool × Unit) × Unit)) (x0:LP) (x1:LP):Option ((Bool × Unit) × Unit) :=
 cond ((zz (List.length x0)) != (zz (List.length x1)))
 (some (((false,()),())))
 (X0 ((0:Int),x0,x1))
def zlK (Z:Nat) (z:((LP × Unit) × ((LP × Unit) × Unit))):Option ((Bool × Unit) × Unit):=zlJ Z (iter (zlI Z) Z) z.1.1 z.2.1.1
theorem zFz (Z:Nat) (xa:zbT.rt.T) (xd:zbT.D.T):zbT.go (zhW Z) Z zlH zhX xa xd = zlK Z (zbT.xb (xa,xd)) :=
 (show zbT.go (zhW Z) Z zlH zhX xa xd = zlJ Z (zlH.lp (zhW Z) 0 Z (fun _ _ _ => none) (endX zhX zbT) 0 zuL) xd.1.1 xd.2.1.1 by kernel_rfl).trans (by rw [zFy]; rfl)
abbrev zuM (Z:Nat):LE:=⟨zbT,zlK Z⟩
theorem zFA (Z:Nat):EntryOK Tryz.prog 227 (zuM Z).te:=okF (T:=zhW Z) (fn:=Tryz.f227) (le:=zuM Z) (frz:=[]) (ann:=zuK) (cuts:=[]) (rv:=zhX) (TabOK.of (entCons (zFv Z) entNil) (methNil)) mixed (by kernel_rfl) (by kernel_rfl) (by kernel_rfl) (fun _ => rfl) (fun _ => rfl) (fun xa xd y h => ⟨Z,(zFz Z xa xd).trans h⟩)
def zpn (Z:Nat) (x0:LP) (x1:Int) (x2:Int) (x3:LP) (x4:Int) (x5:Int):Option ((Bool × Unit) × Unit) :=
 Option.bind (zlK Z ((x0,()),(x3,()),())) fun y_1 =>
 cond (!y_1.1.1)
 (some (((false,()),())))
 (cond (x1 != x4)
 (some (((false,()),())))
 (cond (x2 != x5)
 (some (((false,()),())))
 (some (((true,()),())))))
def zpo (Z:Nat) (z:((LP × (Int × (Int × Unit))) × ((LP × (Int × (Int × Unit))) × Unit))):Option ((Bool × Unit) × Unit):=zpn Z z.1.1 z.1.2.1 z.1.2.2.1 z.2.1.1 z.2.1.2.1 z.2.1.2.2.1
abbrev zFB (Z:Nat):LE:=⟨.pure (.agg (.dat (Kd.list KP) (.dat I6 (.dat I6 .nil))) (.agg (.dat (Kd.list KP) (.dat I6 (.dat I6 .nil))) .nil)) (.grp (.dat Kd.bool .nil) .nil) true,zpo Z⟩
theorem zFC (Z:Nat):EntryOK Tryz.prog 211 (zFB Z).te:=okS (fn:=Tryz.f211) (frz:=[]) (ann:=[]) (cuts:=[]) (rv:=[(4,none)]) Z (TabOK.of (entCons (zFA Z) entNil) (methNil)) mixed (by kernel_rfl) (by kernel_rfl) (by kernel_rfl) (fun _ => rfl) (fun _ => rfl) (fun _ _ => by kernel_rfl)
def zpp (Z:Nat) (x0:Int) (x1:Int) (x2:Int) (x3:Int):Option ((Bool × Unit) × Unit) :=
 cond (x0 != x2)
 (some (((false,()),())))
 (cond (x1 != x3)
 (some (((false,()),())))
 (some (((true,()),()))))
def zpq (Z:Nat) (z:((Int × (Int × Unit)) × ((Int × (Int × Unit)) × Unit))):Option ((Bool × Unit) × Unit):=zpp Z z.1.1 z.1.2.1 z.2.1.1 z.2.1.2.1
abbrev zuN (Z:Nat):LE:=⟨.pure (.agg (.dat I6 (.dat I6 .nil)) (.agg (.dat I6 (.dat I6 .nil)) .nil)) (.grp (.dat Kd.bool .nil) .nil) true,zpq Z⟩
theorem zFD (Z:Nat):EntryOK Tryz.prog 236 (zuN Z).te:=okS (fn:=Tryz.f236) (frz:=[]) (ann:=[]) (cuts:=[]) (rv:=[(4,none)]) Z (TabOK.of (entNil) (methNil)) mixed (by kernel_rfl) (by kernel_rfl) (by kernel_rfl) (fun _ => rfl) (fun _ => rfl) (fun _ _ => by kernel_rfl)
def zhZ (Z:Nat):Tab:=Tab.of [(236,(zuN Z).te)] []
def zuO:List Norm:=[⟨[5,0,1],[],[],[]⟩]
noncomputable def zlL:C:=irOf Tryz.prog Tryz.f228 [] zuO []
def zh0:List (Nat × Option (Nat × Bool)):=[(4,none)]
abbrev zFE:Sx:=.grp (.dat (Kd.list KP) .nil) (.grp (.dat (Kd.list KP) .nil) .nil)
abbrev zFF:Sx:=.grp (.dat Kd.bool .nil) .nil
abbrev zbU:LF:=.pure zFE zFF true
abbrev zev:=(Int) × LP × LP
def zuP (v:zev):Env × Heap:=([(5,SV.int .i64 v.1),(0,SV.es KP v.2.1),(1,SV.es KP v.2.2)],[])
def zh1 (Z:Nat) (g0:zev → Option ((Bool × Unit) × Unit)) (v:zev):Option ((Bool × Unit) × Unit) :=
 cond (decide (v.1 < (zz (List.length v.2.1))))
 (tst (decide (0 ≤ v.1)) <|
 tst (decide (v.1 < (zz (List.length v.2.1)))) <|
 tst (decide (0 ≤ v.1)) <|
 tst (decide (v.1 < (zz (List.length v.2.2)))) <|
 Option.bind (zpq Z (((List.getD v.2.1 (Int.toNat v.1) (0,(0,()))).1,(List.getD v.2.1 (Int.toNat v.1) (0,(0,()))).2.1,()),((List.getD v.2.2 (Int.toNat v.1) (0,(0,()))).1,(List.getD v.2.2 (Int.toNat v.1) (0,(0,()))).2.1,()),())) fun y_2 =>
 cond (!y_2.1.1)
 (some (((false,()),())))
 (g0 (w64 (v.1 + (1:Int)),v.2.1,v.2.2)))
 (some (((true,()),())))
def zlM (Z:Nat) (g0:zev → Option ((Bool × Unit) × Unit)):zev → Option ((Bool × Unit) × Unit):=zh1 Z g0
theorem zFG (Z:Nat) (G):zlL.lp (zhZ Z) 0 Z G (endX zh0 zbU) 0 zuP = iter (zlM Z) Z:=C.lp_iter fun g v => by kernel_rfl
def zlN (Z:Nat) (X0:zev → Option ((Bool × Unit) × Unit)) (x0:LP) (x1:LP):Option ((Bool × Unit) × Unit) :=
 cond ((zz (List.length x0)) != (zz (List.length x1)))
 (some (((false,()),())))
 (X0 ((0:Int),x0,x1))
def zlO (Z:Nat) (z:((LP × Unit) × ((LP × Unit) × Unit))):Option ((Bool × Unit) × Unit):=zlN Z (iter (zlM Z) Z) z.1.1 z.2.1.1
theorem zFH (Z:Nat) (xa:zbU.rt.T) (xd:zbU.D.T):zbU.go (zhZ Z) Z zlL zh0 xa xd = zlO Z (zbU.xb (xa,xd)) :=
 (show zbU.go (zhZ Z) Z zlL zh0 xa xd = zlN Z (zlL.lp (zhZ Z) 0 Z (fun _ _ _ => none) (endX zh0 zbU) 0 zuP) xd.1.1 xd.2.1.1 by kernel_rfl).trans (by rw [zFG]; rfl)
abbrev zuQ (Z:Nat):LE:=⟨zbU,zlO Z⟩
theorem zFI (Z:Nat):EntryOK Tryz.prog 228 (zuQ Z).te:=okF (T:=zhZ Z) (fn:=Tryz.f228) (le:=zuQ Z) (frz:=[]) (ann:=zuO) (cuts:=[]) (rv:=zh0) (TabOK.of (entCons (zFD Z) entNil) (methNil)) mixed (by kernel_rfl) (by kernel_rfl) (by kernel_rfl) (fun _ => rfl) (fun _ => rfl) (fun xa xd y h => ⟨Z,(zFH Z xa xd).trans h⟩)
def zpr (Z:Nat) (x0:LP) (x1:Int) (x2:LP) (x3:Int):Option ((Bool × Unit) × Unit) :=
 Option.bind (zlO Z ((x0,()),(x2,()),())) fun y_1 =>
 cond (!y_1.1.1)
 (some (((false,()),())))
 (cond (x1 != x3)
 (some (((false,()),())))
 (some (((true,()),()))))
def zps (Z:Nat) (z:((LP × (Int × Unit)) × ((LP × (Int × Unit)) × Unit))):Option ((Bool × Unit) × Unit):=zpr Z z.1.1 z.1.2.1 z.2.1.1 z.2.1.2.1
abbrev zFJ (Z:Nat):LE:=⟨.pure (.agg (.dat (Kd.list KP) (.dat I6 .nil)) (.agg (.dat (Kd.list KP) (.dat I6 .nil)) .nil)) (.grp (.dat Kd.bool .nil) .nil) true,zps Z⟩
theorem zFK (Z:Nat):EntryOK Tryz.prog 212 (zFJ Z).te:=okS (fn:=Tryz.f212) (frz:=[]) (ann:=[]) (cuts:=[]) (rv:=[(4,none)]) Z (TabOK.of (entCons (zFI Z) entNil) (methNil)) mixed (by kernel_rfl) (by kernel_rfl) (by kernel_rfl) (fun _ => rfl) (fun _ => rfl) (fun _ _ => by kernel_rfl)
def zpt (Z:Nat) (x0:List (List Int)) (x1:List Int) (x2:LP) (x3:Int) (x4:Int) (x5:LP) (x6:Int) (x7:List (List Int)) (x8:List Int) (x9:LP) (x10:Int) (x11:Int) (x12:LP) (x13:Int):Option ((Bool × Unit) × Unit) :=
 Option.bind (zpi Z ((x0,()),(x7,()),())) fun y_1 =>
 cond (!y_1.1.1)
 (some (((false,()),())))
 (Option.bind (zpk Z ((x1,()),(x8,()),())) fun y_3 =>
 cond (!y_3.1.1)
 (some (((false,()),())))
 (Option.bind (zpo Z ((x2,x3,x4,()),(x9,x10,x11,()),())) fun y_5 =>
 cond (!y_5.1.1)
 (some (((false,()),())))
 (Option.bind (zps Z ((x5,x6,()),(x12,x13,()),())) fun y_7 =>
 cond (!y_7.1.1)
 (some (((false,()),())))
 (some (((true,()),()))))))
def zpu (Z:Nat) (z:(SumY × (SumY × Unit))):Option ((Bool × Unit) × Unit):=zpt Z z.1.1 z.1.2.1 z.1.2.2.1 z.1.2.2.2.1 z.1.2.2.2.2.1 z.1.2.2.2.2.2.1 z.1.2.2.2.2.2.2.1 z.2.1.1 z.2.1.2.1 z.2.1.2.2.1 z.2.1.2.2.2.1 z.2.1.2.2.2.2.1 z.2.1.2.2.2.2.2.1 z.2.1.2.2.2.2.2.2.1
abbrev zFL (Z:Nat):LE:=⟨.pure (.agg (.dat (Kd.list (Kd.list I6)) (.dat (Kd.list I6) (.dat (Kd.list KP) (.dat I6 (.dat I6 (.dat (Kd.list KP) (.dat I6 .nil))))))) (.agg (.dat (Kd.list (Kd.list I6)) (.dat (Kd.list I6) (.dat (Kd.list KP) (.dat I6 (.dat I6 (.dat (Kd.list KP) (.dat I6 .nil))))))) .nil)) (.grp (.dat Kd.bool .nil) .nil) true,zpu Z⟩
theorem zFM (Z:Nat):EntryOK Tryz.prog 190 (zFL Z).te:=okS (fn:=Tryz.f190) (frz:=[]) (ann:=[]) (cuts:=[]) (rv:=[(4,none)]) Z (TabOK.of (entCons (zFs Z) (entCons (zFu Z) (entCons (zFC Z) (entCons (zFK Z) entNil)))) (methNil)) mixed (by kernel_rfl) (by kernel_rfl) (by kernel_rfl) (fun _ => rfl) (fun _ => rfl) (fun _ _ => by kernel_rfl)
def zpv (Z:Nat) (x0:Int) (x1:Int) (x2:Int) (x3:List (List Int)) (x4:List Int) (x5:LP) (x6:Int) (x7:Int) (x8:LP) (x9:Int) (x10:Int) (x11:Int) (x12:Int) (x13:List (List Int)) (x14:List Int) (x15:LP) (x16:Int) (x17:Int) (x18:LP) (x19:Int):Option ((Bool × Unit) × Unit) :=
 cond (x0 != x10)
 (some (((false,()),())))
 (cond (x1 != x11)
 (some (((false,()),())))
 (cond (x2 != x12)
 (some (((false,()),())))
 (Option.bind (zpu Z ((x3,x4,x5,x6,x7,x8,x9,()),(x13,x14,x15,x16,x17,x18,x19,()),())) fun y_4 =>
 cond (!y_4.1.1)
 (some (((false,()),())))
 (some (((true,()),()))))))
def zlP (Z:Nat) (z:((Int × (Int × (Int × SumY))) × ((Int × (Int × (Int × SumY))) × Unit))):Option ((Bool × Unit) × Unit):=zpv Z z.1.1 z.1.2.1 z.1.2.2.1 z.1.2.2.2.1 z.1.2.2.2.2.1 z.1.2.2.2.2.2.1 z.1.2.2.2.2.2.2.1 z.1.2.2.2.2.2.2.2.1 z.1.2.2.2.2.2.2.2.2.1 z.1.2.2.2.2.2.2.2.2.2.1 z.2.1.1 z.2.1.2.1 z.2.1.2.2.1 z.2.1.2.2.2.1 z.2.1.2.2.2.2.1 z.2.1.2.2.2.2.2.1 z.2.1.2.2.2.2.2.2.1 z.2.1.2.2.2.2.2.2.2.1 z.2.1.2.2.2.2.2.2.2.2.1 z.2.1.2.2.2.2.2.2.2.2.2.1
abbrev zuR (Z:Nat):LE:=⟨.pure (.agg (.dat I6 (.dat I6 (.dat I6 (.dat (Kd.list (Kd.list I6)) (.dat (Kd.list I6) (.dat (Kd.list KP) (.dat I6 (.dat I6 (.dat (Kd.list KP) (.dat I6 .nil)))))))))) (.agg (.dat I6 (.dat I6 (.dat I6 (.dat (Kd.list (Kd.list I6)) (.dat (Kd.list I6) (.dat (Kd.list KP) (.dat I6 (.dat I6 (.dat (Kd.list KP) (.dat I6 .nil)))))))))) .nil)) (.grp (.dat Kd.bool .nil) .nil) true,zlP Z⟩
theorem zFN (Z:Nat):EntryOK Tryz.prog 167 (zuR Z).te:=okS (fn:=Tryz.f167) (frz:=[]) (ann:=[]) (cuts:=[]) (rv:=[(4,none)]) Z (TabOK.of (entCons (zFM Z) entNil) (methNil)) mixed (by kernel_rfl) (by kernel_rfl) (by kernel_rfl) (fun _ => rfl) (fun _ => rfl) (fun _ _ => by kernel_rfl)
def zh2 (Z:Nat):Tab:=Tab.of [(167,(zuR Z).te)] []
def zuS:List Norm:=[⟨[5,0,1],[],[],[]⟩]
noncomputable def zlQ:C:=irOf Tryz.prog Tryz.f135 [] zuS []
def zh3:List (Nat × Option (Nat × Bool)):=[(4,none)]
abbrev zFO:Sx:=.grp (.dat (Kd.list KE) .nil) (.grp (.dat (Kd.list KE) .nil) .nil)
abbrev zFP:Sx:=.grp (.dat Kd.bool .nil) .nil
abbrev zbV:LF:=.pure zFO zFP true
abbrev zew:=(Int) × (List EY) × (List EY)
def zuT (v:zew):Env × Heap:=([(5,SV.int .i64 v.1),(0,SV.es KE v.2.1),(1,SV.es KE v.2.2)],[])
def zh4 (Z:Nat) (g0:zew → Option ((Bool × Unit) × Unit)) (v:zew):Option ((Bool × Unit) × Unit) :=
 cond (decide (v.1 < (zz (List.length v.2.1))))
 (tst (decide (0 ≤ v.1)) <|
 tst (decide (v.1 < (zz (List.length v.2.1)))) <|
 tst (decide (0 ≤ v.1)) <|
 tst (decide (v.1 < (zz (List.length v.2.2)))) <|
 Option.bind (zlP Z (((List.getD v.2.1 (Int.toNat v.1) (0,(0,(0,((([],()),(([],()),(([],(0,(0,()))),(([],(0,())),())))),()))))).1,(List.getD v.2.1 (Int.toNat v.1) (0,(0,(0,((([],()),(([],()),(([],(0,(0,()))),(([],(0,())),())))),()))))).2.1,(List.getD v.2.1 (Int.toNat v.1) (0,(0,(0,((([],()),(([],()),(([],(0,(0,()))),(([],(0,())),())))),()))))).2.2.1,(List.getD v.2.1 (Int.toNat v.1) (0,(0,(0,((([],()),(([],()),(([],(0,(0,()))),(([],(0,())),())))),()))))).2.2.2.1.1.1,(List.getD v.2.1 (Int.toNat v.1) (0,(0,(0,((([],()),(([],()),(([],(0,(0,()))),(([],(0,())),())))),()))))).2.2.2.1.2.1.1,(List.getD v.2.1 (Int.toNat v.1) (0,(0,(0,((([],()),(([],()),(([],(0,(0,()))),(([],(0,())),())))),()))))).2.2.2.1.2.2.1.1,(List.getD v.2.1 (Int.toNat v.1) (0,(0,(0,((([],()),(([],()),(([],(0,(0,()))),(([],(0,())),())))),()))))).2.2.2.1.2.2.1.2.1,(List.getD v.2.1 (Int.toNat v.1) (0,(0,(0,((([],()),(([],()),(([],(0,(0,()))),(([],(0,())),())))),()))))).2.2.2.1.2.2.1.2.2.1,(List.getD v.2.1 (Int.toNat v.1) (0,(0,(0,((([],()),(([],()),(([],(0,(0,()))),(([],(0,())),())))),()))))).2.2.2.1.2.2.2.1.1,(List.getD v.2.1 (Int.toNat v.1) (0,(0,(0,((([],()),(([],()),(([],(0,(0,()))),(([],(0,())),())))),()))))).2.2.2.1.2.2.2.1.2.1,()),((List.getD v.2.2 (Int.toNat v.1) (0,(0,(0,((([],()),(([],()),(([],(0,(0,()))),(([],(0,())),())))),()))))).1,(List.getD v.2.2 (Int.toNat v.1) (0,(0,(0,((([],()),(([],()),(([],(0,(0,()))),(([],(0,())),())))),()))))).2.1,(List.getD v.2.2 (Int.toNat v.1) (0,(0,(0,((([],()),(([],()),(([],(0,(0,()))),(([],(0,())),())))),()))))).2.2.1,(List.getD v.2.2 (Int.toNat v.1) (0,(0,(0,((([],()),(([],()),(([],(0,(0,()))),(([],(0,())),())))),()))))).2.2.2.1.1.1,(List.getD v.2.2 (Int.toNat v.1) (0,(0,(0,((([],()),(([],()),(([],(0,(0,()))),(([],(0,())),())))),()))))).2.2.2.1.2.1.1,(List.getD v.2.2 (Int.toNat v.1) (0,(0,(0,((([],()),(([],()),(([],(0,(0,()))),(([],(0,())),())))),()))))).2.2.2.1.2.2.1.1,(List.getD v.2.2 (Int.toNat v.1) (0,(0,(0,((([],()),(([],()),(([],(0,(0,()))),(([],(0,())),())))),()))))).2.2.2.1.2.2.1.2.1,(List.getD v.2.2 (Int.toNat v.1) (0,(0,(0,((([],()),(([],()),(([],(0,(0,()))),(([],(0,())),())))),()))))).2.2.2.1.2.2.1.2.2.1,(List.getD v.2.2 (Int.toNat v.1) (0,(0,(0,((([],()),(([],()),(([],(0,(0,()))),(([],(0,())),())))),()))))).2.2.2.1.2.2.2.1.1,(List.getD v.2.2 (Int.toNat v.1) (0,(0,(0,((([],()),(([],()),(([],(0,(0,()))),(([],(0,())),())))),()))))).2.2.2.1.2.2.2.1.2.1,()),())) fun y_2 =>
 cond (!y_2.1.1)
 (some (((false,()),())))
 (g0 (w64 (v.1 + (1:Int)),v.2.1,v.2.2)))
 (some (((true,()),())))
def zlR (Z:Nat) (g0:zew → Option ((Bool × Unit) × Unit)):zew → Option ((Bool × Unit) × Unit):=zh4 Z g0
theorem zFQ (Z:Nat) (G):zlQ.lp (zh2 Z) 0 Z G (endX zh3 zbV) 0 zuT = iter (zlR Z) Z:=C.lp_iter fun g v => by kernel_rfl
def zlS (Z:Nat) (X0:zew → Option ((Bool × Unit) × Unit)) (x0:List EY) (x1:List EY):Option ((Bool × Unit) × Unit) :=
 cond ((zz (List.length x0)) != (zz (List.length x1)))
 (some (((false,()),())))
 (X0 ((0:Int),x0,x1))
def zh5 (Z:Nat) (z:(((List EY) × Unit) × (((List EY) × Unit) × Unit))):Option ((Bool × Unit) × Unit):=zlS Z (iter (zlR Z) Z) z.1.1 z.2.1.1
theorem zFR (Z:Nat) (xa:zbV.rt.T) (xd:zbV.D.T):zbV.go (zh2 Z) Z zlQ zh3 xa xd = zh5 Z (zbV.xb (xa,xd)) :=
 (show zbV.go (zh2 Z) Z zlQ zh3 xa xd = zlS Z (zlQ.lp (zh2 Z) 0 Z (fun _ _ _ => none) (endX zh3 zbV) 0 zuT) xd.1.1 xd.2.1.1 by kernel_rfl).trans (by rw [zFQ]; rfl)
abbrev zuU (Z:Nat):LE:=⟨zbV,zh5 Z⟩
theorem zuV (Z:Nat):EntryOK Tryz.prog 135 (zuU Z).te:=okF (T:=zh2 Z) (fn:=Tryz.f135) (le:=zuU Z) (frz:=[]) (ann:=zuS) (cuts:=[]) (rv:=zh3) (TabOK.of (entCons (zFN Z) entNil) (methNil)) mixed (by kernel_rfl) (by kernel_rfl) (by kernel_rfl) (fun _ => rfl) (fun _ => rfl) (fun xa xd y h => ⟨Z,(zFR Z xa xd).trans h⟩)
def zpw (Z:Nat) (x0:Int) (x1:List EY) (x2:Int) (x3:Int) (x4:Int) (x5:Int) (x6:List EY) (x7:Int) (x8:Int) (x9:Int):Option ((Bool × Unit) × Unit) :=
 cond (x0 != x5)
 (some (((false,()),())))
 (Option.bind (zh5 Z ((x1,()),(x6,()),())) fun y_2 =>
 cond (!y_2.1.1)
 (some (((false,()),())))
 (cond (x2 != x7)
 (some (((false,()),())))
 (cond (x3 != x8)
 (some (((false,()),())))
 (cond (x4 != x9)
 (some (((false,()),())))
 (some (((true,()),())))))))
def zlT (Z:Nat) (z:(NY × (NY × Unit))):Option ((Bool × Unit) × Unit):=zpw Z z.1.1 z.1.2.1 z.1.2.2.1 z.1.2.2.2.1 z.1.2.2.2.2.1 z.2.1.1 z.2.1.2.1 z.2.1.2.2.1 z.2.1.2.2.2.1 z.2.1.2.2.2.2.1
abbrev zuW (Z:Nat):LE:=⟨.pure (.agg (.dat I6 (.dat (Kd.list KE) (.dat I6 (.dat I6 (.dat I6 .nil))))) (.agg (.dat I6 (.dat (Kd.list KE) (.dat I6 (.dat I6 (.dat I6 .nil))))) .nil)) (.grp (.dat Kd.bool .nil) .nil) true,zlT Z⟩
theorem zFS (Z:Nat):EntryOK Tryz.prog 108 (zuW Z).te:=okS (fn:=Tryz.f108) (frz:=[]) (ann:=[]) (cuts:=[]) (rv:=[(4,none)]) Z (TabOK.of (entCons (zuV Z) entNil) (methNil)) mixed (by kernel_rfl) (by kernel_rfl) (by kernel_rfl) (fun _ => rfl) (fun _ => rfl) (fun _ _ => by kernel_rfl)
def zh6 (Z:Nat):Tab:=Tab.of [(108,(zuW Z).te)] []
def zuX:List Norm:=[⟨[5,0,1],[],[],[]⟩]
noncomputable def zlU:C:=irOf Tryz.prog Tryz.f71 [] zuX []
def zh7:List (Nat × Option (Nat × Bool)):=[(4,none)]
abbrev zFT:Sx:=.grp (.dat (Kd.list KN) .nil) (.grp (.dat (Kd.list KN) .nil) .nil)
abbrev zFU:Sx:=.grp (.dat Kd.bool .nil) .nil
abbrev zbW:LF:=.pure zFT zFU true
abbrev zex:=(Int) × (List NY) × (List NY)
def zuY (v:zex):Env × Heap:=([(5,SV.int .i64 v.1),(0,SV.es KN v.2.1),(1,SV.es KN v.2.2)],[])
def zh8 (Z:Nat) (g0:zex → Option ((Bool × Unit) × Unit)) (v:zex):Option ((Bool × Unit) × Unit) :=
 cond (decide (v.1 < (zz (List.length v.2.1))))
 (tst (decide (0 ≤ v.1)) <|
 tst (decide (v.1 < (zz (List.length v.2.1)))) <|
 tst (decide (0 ≤ v.1)) <|
 tst (decide (v.1 < (zz (List.length v.2.2)))) <|
 Option.bind (zlT Z (((List.getD v.2.1 (Int.toNat v.1) (0,([],(0,(0,(0,())))))).1,(List.getD v.2.1 (Int.toNat v.1) (0,([],(0,(0,(0,())))))).2.1,(List.getD v.2.1 (Int.toNat v.1) (0,([],(0,(0,(0,())))))).2.2.1,(List.getD v.2.1 (Int.toNat v.1) (0,([],(0,(0,(0,())))))).2.2.2.1,(List.getD v.2.1 (Int.toNat v.1) (0,([],(0,(0,(0,())))))).2.2.2.2.1,()),((List.getD v.2.2 (Int.toNat v.1) (0,([],(0,(0,(0,())))))).1,(List.getD v.2.2 (Int.toNat v.1) (0,([],(0,(0,(0,())))))).2.1,(List.getD v.2.2 (Int.toNat v.1) (0,([],(0,(0,(0,())))))).2.2.1,(List.getD v.2.2 (Int.toNat v.1) (0,([],(0,(0,(0,())))))).2.2.2.1,(List.getD v.2.2 (Int.toNat v.1) (0,([],(0,(0,(0,())))))).2.2.2.2.1,()),())) fun y_2 =>
 cond (!y_2.1.1)
 (some (((false,()),())))
 (g0 (w64 (v.1 + (1:Int)),v.2.1,v.2.2)))
 (some (((true,()),())))
def zlV (Z:Nat) (g0:zex → Option ((Bool × Unit) × Unit)):zex → Option ((Bool × Unit) × Unit):=zh8 Z g0
theorem zFV (Z:Nat) (G):zlU.lp (zh6 Z) 0 Z G (endX zh7 zbW) 0 zuY = iter (zlV Z) Z:=C.lp_iter fun g v => by kernel_rfl
def zlW (Z:Nat) (X0:zex → Option ((Bool × Unit) × Unit)) (x0:List NY) (x1:List NY):Option ((Bool × Unit) × Unit) :=
 cond ((zz (List.length x0)) != (zz (List.length x1)))
 (some (((false,()),())))
 (X0 ((0:Int),x0,x1))
def zlX (Z:Nat) (z:(((List NY) × Unit) × (((List NY) × Unit) × Unit))):Option ((Bool × Unit) × Unit):=zlW Z (iter (zlV Z) Z) z.1.1 z.2.1.1
theorem zFW (Z:Nat) (xa:zbW.rt.T) (xd:zbW.D.T):zbW.go (zh6 Z) Z zlU zh7 xa xd = zlX Z (zbW.xb (xa,xd)) :=
 (show zbW.go (zh6 Z) Z zlU zh7 xa xd = zlW Z (zlU.lp (zh6 Z) 0 Z (fun _ _ _ => none) (endX zh7 zbW) 0 zuY) xd.1.1 xd.2.1.1 by kernel_rfl).trans (by rw [zFV]; rfl)
abbrev zuZ (Z:Nat):LE:=⟨zbW,zlX Z⟩
theorem zFX (Z:Nat):EntryOK Tryz.prog 71 (zuZ Z).te:=okF (T:=zh6 Z) (fn:=Tryz.f71) (le:=zuZ Z) (frz:=[]) (ann:=zuX) (cuts:=[]) (rv:=zh7) (TabOK.of (entCons (zFS Z) entNil) (methNil)) mixed (by kernel_rfl) (by kernel_rfl) (by kernel_rfl) (fun _ => rfl) (fun _ => rfl) (fun xa xd y h => ⟨Z,(zFW Z xa xd).trans h⟩)
def zh9 (Z:Nat):Tab:=Tab.of [] []
def zu0:List Norm:=[⟨[5,0,1],[],[],[]⟩]
noncomputable def zlY:C:=irOf Tryz.prog Tryz.f72 [] zu0 []
def zia:List (Nat × Option (Nat × Bool)):=[(4,none)]
abbrev zFY:Sx:=.grp (.dat (Kd.list Kd.bool) .nil) (.grp (.dat (Kd.list Kd.bool) .nil) .nil)
abbrev zFZ:Sx:=.grp (.dat Kd.bool .nil) .nil
abbrev zbX:LF:=.pure zFY zFZ true
abbrev zey:=(Int) × (List Bool) × (List Bool)
def zu1 (v:zey):Env × Heap:=([(5,SV.int .i64 v.1),(0,SV.es Kd.bool v.2.1),(1,SV.es Kd.bool v.2.2)],[])
def zib (Z:Nat) (g0:zey → Option ((Bool × Unit) × Unit)) (v:zey):Option ((Bool × Unit) × Unit) :=
 cond (decide (v.1 < (zz (List.length v.2.1))))
 (tst (decide (0 ≤ v.1)) <|
 tst (decide (v.1 < (zz (List.length v.2.1)))) <|
 tst (decide (0 ≤ v.1)) <|
 tst (decide (v.1 < (zz (List.length v.2.2)))) <|
 cond (!List.getD v.2.1 (Int.toNat v.1) false == List.getD v.2.2 (Int.toNat v.1) false)
 (some (((false,()),())))
 (g0 (w64 (v.1 + (1:Int)),v.2.1,v.2.2)))
 (some (((true,()),())))
def zlZ (Z:Nat) (g0:zey → Option ((Bool × Unit) × Unit)):zey → Option ((Bool × Unit) × Unit):=zib Z g0
theorem zF0 (Z:Nat) (G):zlY.lp (zh9 Z) 0 Z G (endX zia zbX) 0 zu1 = iter (zlZ Z) Z:=C.lp_iter fun g v => by kernel_rfl
def zl0 (Z:Nat) (X0:zey → Option ((Bool × Unit) × Unit)) (x0:List Bool) (x1:List Bool):Option ((Bool × Unit) × Unit) :=
 cond ((zz (List.length x0)) != (zz (List.length x1)))
 (some (((false,()),())))
 (X0 ((0:Int),x0,x1))
def zl1 (Z:Nat) (z:(((List Bool) × Unit) × (((List Bool) × Unit) × Unit))):Option ((Bool × Unit) × Unit):=zl0 Z (iter (zlZ Z) Z) z.1.1 z.2.1.1
theorem zF1 (Z:Nat) (xa:zbX.rt.T) (xd:zbX.D.T):zbX.go (zh9 Z) Z zlY zia xa xd = zl1 Z (zbX.xb (xa,xd)) :=
 (show zbX.go (zh9 Z) Z zlY zia xa xd = zl0 Z (zlY.lp (zh9 Z) 0 Z (fun _ _ _ => none) (endX zia zbX) 0 zu1) xd.1.1 xd.2.1.1 by kernel_rfl).trans (by rw [zF0]; rfl)
abbrev zu2 (Z:Nat):LE:=⟨zbX,zl1 Z⟩
theorem zF2 (Z:Nat):EntryOK Tryz.prog 72 (zu2 Z).te:=okF (T:=zh9 Z) (fn:=Tryz.f72) (le:=zu2 Z) (frz:=[]) (ann:=zu0) (cuts:=[]) (rv:=zia) (TabOK.of (entNil) (methNil)) mixed (by kernel_rfl) (by kernel_rfl) (by kernel_rfl) (fun _ => rfl) (fun _ => rfl) (fun xa xd y h => ⟨Z,(zF1 Z xa xd).trans h⟩)
def zpx (Z:Nat) (x0:Int) (x1:Int) (x2:Int) (x3:Int) (x4:Int) (x5:List EY) (x6:Int) (x7:Int) (x8:Int) (x9:Int) (x10:Int) (x11:List EY):Option ((Bool × Unit) × Unit) :=
 cond (x0 != x6)
 (some (((false,()),())))
 (cond (x1 != x7)
 (some (((false,()),())))
 (cond (x2 != x8)
 (some (((false,()),())))
 (cond (x3 != x9)
 (some (((false,()),())))
 (cond (x4 != x10)
 (some (((false,()),())))
 (Option.bind (zh5 Z ((x5,()),(x11,()),())) fun y_6 =>
 cond (!y_6.1.1)
 (some (((false,()),())))
 (some (((true,()),()))))))))
def zl2 (Z:Nat) (z:(WY × (WY × Unit))):Option ((Bool × Unit) × Unit):=zpx Z z.1.1 z.1.2.1 z.1.2.2.1 z.1.2.2.2.1 z.1.2.2.2.2.1 z.1.2.2.2.2.2.1 z.2.1.1 z.2.1.2.1 z.2.1.2.2.1 z.2.1.2.2.2.1 z.2.1.2.2.2.2.1 z.2.1.2.2.2.2.2.1
abbrev zu3 (Z:Nat):LE:=⟨.pure (.agg (.dat I6 (.dat I6 (.dat I6 (.dat I6 (.dat I6 (.dat (Kd.list KE) .nil)))))) (.agg (.dat I6 (.dat I6 (.dat I6 (.dat I6 (.dat I6 (.dat (Kd.list KE) .nil)))))) .nil)) (.grp (.dat Kd.bool .nil) .nil) true,zl2 Z⟩
theorem zF3 (Z:Nat):EntryOK Tryz.prog 109 (zu3 Z).te:=okS (fn:=Tryz.f109) (frz:=[]) (ann:=[]) (cuts:=[]) (rv:=[(4,none)]) Z (TabOK.of (entCons (zuV Z) entNil) (methNil)) mixed (by kernel_rfl) (by kernel_rfl) (by kernel_rfl) (fun _ => rfl) (fun _ => rfl) (fun _ _ => by kernel_rfl)
def zic (Z:Nat):Tab:=Tab.of [(109,(zu3 Z).te)] []
def zu4:List Norm:=[⟨[5,0,1],[],[],[]⟩]
noncomputable def zl3:C:=irOf Tryz.prog Tryz.f73 [] zu4 []
def zid:List (Nat × Option (Nat × Bool)):=[(4,none)]
abbrev zF4:Sx:=.grp (.dat (Kd.list KW) .nil) (.grp (.dat (Kd.list KW) .nil) .nil)
abbrev zF5:Sx:=.grp (.dat Kd.bool .nil) .nil
abbrev zbY:LF:=.pure zF4 zF5 true
abbrev zez:=(Int) × (List WY) × (List WY)
def zu5 (v:zez):Env × Heap:=([(5,SV.int .i64 v.1),(0,SV.es KW v.2.1),(1,SV.es KW v.2.2)],[])
def zie (Z:Nat) (g0:zez → Option ((Bool × Unit) × Unit)) (v:zez):Option ((Bool × Unit) × Unit) :=
 cond (decide (v.1 < (zz (List.length v.2.1))))
 (tst (decide (0 ≤ v.1)) <|
 tst (decide (v.1 < (zz (List.length v.2.1)))) <|
 tst (decide (0 ≤ v.1)) <|
 tst (decide (v.1 < (zz (List.length v.2.2)))) <|
 Option.bind (zl2 Z (((List.getD v.2.1 (Int.toNat v.1) (0,(0,(0,(0,(0,([],()))))))).1,(List.getD v.2.1 (Int.toNat v.1) (0,(0,(0,(0,(0,([],()))))))).2.1,(List.getD v.2.1 (Int.toNat v.1) (0,(0,(0,(0,(0,([],()))))))).2.2.1,(List.getD v.2.1 (Int.toNat v.1) (0,(0,(0,(0,(0,([],()))))))).2.2.2.1,(List.getD v.2.1 (Int.toNat v.1) (0,(0,(0,(0,(0,([],()))))))).2.2.2.2.1,(List.getD v.2.1 (Int.toNat v.1) (0,(0,(0,(0,(0,([],()))))))).2.2.2.2.2.1,()),((List.getD v.2.2 (Int.toNat v.1) (0,(0,(0,(0,(0,([],()))))))).1,(List.getD v.2.2 (Int.toNat v.1) (0,(0,(0,(0,(0,([],()))))))).2.1,(List.getD v.2.2 (Int.toNat v.1) (0,(0,(0,(0,(0,([],()))))))).2.2.1,(List.getD v.2.2 (Int.toNat v.1) (0,(0,(0,(0,(0,([],()))))))).2.2.2.1,(List.getD v.2.2 (Int.toNat v.1) (0,(0,(0,(0,(0,([],()))))))).2.2.2.2.1,(List.getD v.2.2 (Int.toNat v.1) (0,(0,(0,(0,(0,([],()))))))).2.2.2.2.2.1,()),())) fun y_2 =>
 cond (!y_2.1.1)
 (some (((false,()),())))
 (g0 (w64 (v.1 + (1:Int)),v.2.1,v.2.2)))
 (some (((true,()),())))
def zl4 (Z:Nat) (g0:zez → Option ((Bool × Unit) × Unit)):zez → Option ((Bool × Unit) × Unit):=zie Z g0
theorem zF6 (Z:Nat) (G):zl3.lp (zic Z) 0 Z G (endX zid zbY) 0 zu5 = iter (zl4 Z) Z:=C.lp_iter fun g v => by kernel_rfl
def zl5 (Z:Nat) (X0:zez → Option ((Bool × Unit) × Unit)) (x0:List WY) (x1:List WY):Option ((Bool × Unit) × Unit) :=
 cond ((zz (List.length x0)) != (zz (List.length x1)))
 (some (((false,()),())))
 (X0 ((0:Int),x0,x1))
def zl6 (Z:Nat) (z:(((List WY) × Unit) × (((List WY) × Unit) × Unit))):Option ((Bool × Unit) × Unit):=zl5 Z (iter (zl4 Z) Z) z.1.1 z.2.1.1
theorem zF7 (Z:Nat) (xa:zbY.rt.T) (xd:zbY.D.T):zbY.go (zic Z) Z zl3 zid xa xd = zl6 Z (zbY.xb (xa,xd)) :=
 (show zbY.go (zic Z) Z zl3 zid xa xd = zl5 Z (zl3.lp (zic Z) 0 Z (fun _ _ _ => none) (endX zid zbY) 0 zu5) xd.1.1 xd.2.1.1 by kernel_rfl).trans (by rw [zF6]; rfl)
abbrev zu6 (Z:Nat):LE:=⟨zbY,zl6 Z⟩
theorem zF8 (Z:Nat):EntryOK Tryz.prog 73 (zu6 Z).te:=okF (T:=zic Z) (fn:=Tryz.f73) (le:=zu6 Z) (frz:=[]) (ann:=zu4) (cuts:=[]) (rv:=zid) (TabOK.of (entCons (zF3 Z) entNil) (methNil)) mixed (by kernel_rfl) (by kernel_rfl) (by kernel_rfl) (fun _ => rfl) (fun _ => rfl) (fun xa xd y h => ⟨Z,(zF7 Z xa xd).trans h⟩)
def zif (Z:Nat):Tab:=Tab.of [(110,(zpg Z).te)] []
def zu7:List Norm:=[⟨[5,0,1],[],[],[]⟩]
noncomputable def zl7:C:=irOf Tryz.prog Tryz.f74 [] zu7 []
def zig:List (Nat × Option (Nat × Bool)):=[(4,none)]
abbrev zF9:Sx:=.grp (.dat (Kd.list (Kd.list (Kd.list I6))) .nil) (.grp (.dat (Kd.list (Kd.list (Kd.list I6))) .nil) .nil)
abbrev zGa:Sx:=.grp (.dat Kd.bool .nil) .nil
abbrev zbZ:LF:=.pure zF9 zGa true
abbrev zeA:=(Int) × (List (List (List Int))) × (List (List (List Int)))
def zu8 (v:zeA):Env × Heap:=([(5,SV.int .i64 v.1),(0,SV.es (Kd.list (Kd.list I6)) v.2.1),(1,SV.es (Kd.list (Kd.list I6)) v.2.2)],[])
def zih (Z:Nat) (g0:zeA → Option ((Bool × Unit) × Unit)) (v:zeA):Option ((Bool × Unit) × Unit) :=
 cond (decide (v.1 < (zz (List.length v.2.1))))
 (tst (decide (0 ≤ v.1)) <|
 tst (decide (v.1 < (zz (List.length v.2.1)))) <|
 tst (decide (0 ≤ v.1)) <|
 tst (decide (v.1 < (zz (List.length v.2.2)))) <|
 Option.bind (zet Z ((List.getD v.2.1 (Int.toNat v.1) [],()),(List.getD v.2.2 (Int.toNat v.1) [],()),())) fun y_2 =>
 cond (!y_2.1.1)
 (some (((false,()),())))
 (g0 (w64 (v.1 + (1:Int)),v.2.1,v.2.2)))
 (some (((true,()),())))
def zl8 (Z:Nat) (g0:zeA → Option ((Bool × Unit) × Unit)):zeA → Option ((Bool × Unit) × Unit):=zih Z g0
theorem zGb (Z:Nat) (G):zl7.lp (zif Z) 0 Z G (endX zig zbZ) 0 zu8 = iter (zl8 Z) Z:=C.lp_iter fun g v => by kernel_rfl
def zl9 (Z:Nat) (X0:zeA → Option ((Bool × Unit) × Unit)) (x0:List (List (List Int))) (x1:List (List (List Int))):Option ((Bool × Unit) × Unit) :=
 cond ((zz (List.length x0)) != (zz (List.length x1)))
 (some (((false,()),())))
 (X0 ((0:Int),x0,x1))
def zma (Z:Nat) (z:(((List (List (List Int))) × Unit) × (((List (List (List Int))) × Unit) × Unit))):Option ((Bool × Unit) × Unit):=zl9 Z (iter (zl8 Z) Z) z.1.1 z.2.1.1
theorem zGc (Z:Nat) (xa:zbZ.rt.T) (xd:zbZ.D.T):zbZ.go (zif Z) Z zl7 zig xa xd = zma Z (zbZ.xb (xa,xd)) :=
 (show zbZ.go (zif Z) Z zl7 zig xa xd = zl9 Z (zl7.lp (zif Z) 0 Z (fun _ _ _ => none) (endX zig zbZ) 0 zu8) xd.1.1 xd.2.1.1 by kernel_rfl).trans (by rw [zGb]; rfl)
abbrev zu9 (Z:Nat):LE:=⟨zbZ,zma Z⟩
theorem zGd (Z:Nat):EntryOK Tryz.prog 74 (zu9 Z).te:=okF (T:=zif Z) (fn:=Tryz.f74) (le:=zu9 Z) (frz:=[]) (ann:=zu7) (cuts:=[]) (rv:=zig) (TabOK.of (entCons (zuI Z) entNil) (methNil)) mixed (by kernel_rfl) (by kernel_rfl) (by kernel_rfl) (fun _ => rfl) (fun _ => rfl) (fun xa xd y h => ⟨Z,(zGc Z xa xd).trans h⟩)
def zpy (Z:Nat) (x0:List NY) (x1:List Bool) (x2:List WY) (x3:List (List (List Int))) (x4:List NY) (x5:List Bool) (x6:List WY) (x7:List (List (List Int))):Option ((Bool × Unit) × Unit) :=
 Option.bind (zlX Z ((x0,()),(x4,()),())) fun y_1 =>
 cond (!y_1.1.1)
 (some (((false,()),())))
 (Option.bind (zl1 Z ((x1,()),(x5,()),())) fun y_3 =>
 cond (!y_3.1.1)
 (some (((false,()),())))
 (Option.bind (zl6 Z ((x2,()),(x6,()),())) fun y_5 =>
 cond (!y_5.1.1)
 (some (((false,()),())))
 (Option.bind (zma Z ((x3,()),(x7,()),())) fun y_7 =>
 cond (!y_7.1.1)
 (some (((false,()),())))
 (some (((true,()),()))))))
def zpz (Z:Nat) (z:(((List NY) × ((List Bool) × ((List WY) × ((List (List (List Int))) × Unit)))) × (((List NY) × ((List Bool) × ((List WY) × ((List (List (List Int))) × Unit)))) × Unit))):Option ((Bool × Unit) × Unit):=zpy Z z.1.1 z.1.2.1 z.1.2.2.1 z.1.2.2.2.1 z.2.1.1 z.2.1.2.1 z.2.1.2.2.1 z.2.1.2.2.2.1
abbrev zva (Z:Nat):LE:=⟨.pure (.agg (.dat (Kd.list KN) (.dat (Kd.list Kd.bool) (.dat (Kd.list KW) (.dat (Kd.list (Kd.list (Kd.list I6))) .nil)))) (.agg (.dat (Kd.list KN) (.dat (Kd.list Kd.bool) (.dat (Kd.list KW) (.dat (Kd.list (Kd.list (Kd.list I6))) .nil)))) .nil)) (.grp (.dat Kd.bool .nil) .nil) true,zpz Z⟩
theorem zGe (Z:Nat):EntryOK Tryz.prog 20 (zva Z).te:=okS (fn:=Tryz.f20) (frz:=[]) (ann:=[]) (cuts:=[]) (rv:=[(4,none)]) Z (TabOK.of (entCons (zFX Z) (entCons (zF2 Z) (entCons (zF8 Z) (entCons (zGd Z) entNil)))) (methNil)) mixed (by kernel_rfl) (by kernel_rfl) (by kernel_rfl) (fun _ => rfl) (fun _ => rfl) (fun _ _ => by kernel_rfl)
end Go.Proofs.YtljojacnjjgceaaGreat.Den
