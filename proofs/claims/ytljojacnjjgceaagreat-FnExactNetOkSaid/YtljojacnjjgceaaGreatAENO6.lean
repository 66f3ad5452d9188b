/- Part 6 of the texts behind the row. -/
import Derived.Test.YtljojacnjjgceaaGreatAENO5
import Derived.Test.YtljojacnjjgceaaGreatChecked
import Derived.KernelRfl
set_option linter.unusedVariables false
set_option linter.unusedSimpArgs false
namespace Go.Proofs.YtljojacnjjgceaaGreat.Den
open Go Go.RowKit
theorem mixed:Tryz.prog.follows .mixedOrders = true:=Checked.mixed Tryz.checked
abbrev I6:Kd:=.int .i64
abbrev KP:Kd:=.pair I6 (.pair I6 .unit)
abbrev LP:=List (Int × (Int × Unit))
abbrev SumY:=(List (List Int)) × ((List Int) × (LP × (Int × (Int × (LP × (Int × Unit))))))
abbrev KS:Kd:=.pair (.pair (.list (.list I6)) .unit) (.pair (.pair (.list I6) .unit) (.pair (.pair (.list KP) (.pair I6 (.pair I6 .unit))) (.pair (.pair (.list KP) (.pair I6 .unit)) .unit)))
abbrev KE:Kd:=.pair I6 (.pair I6 (.pair I6 (.pair KS .unit)))
abbrev KN:Kd:=.pair I6 (.pair (.list KE) (.pair I6 (.pair I6 (.pair I6 .unit))))
abbrev KW:Kd:=.pair I6 (.pair I6 (.pair I6 (.pair I6 (.pair I6 (.pair (.list KE) .unit)))))
abbrev SY:=((List (List Int)) × Unit) × (((List Int) × Unit) × ((LP × (Int × (Int × Unit))) × ((LP × (Int × Unit)) × Unit)))
abbrev EY:=Int × (Int × (Int × (SY × Unit)))
abbrev NY:=Int × ((List EY) × (Int × (Int × (Int × Unit))))
abbrev WY:=Int × (Int × (Int × (Int × (Int × ((List EY) × Unit)))))
def w64 (n:Int):Int:=IntKind.wrap .i64 n
def zz (n:Nat):Int:=(n:Int)
theorem zz_eq (n:Nat):zz n = (n:Int):=rfl
def lit3 {α R:Type} (l:List α) (k:α → α → α → Option R):Option R:=match l with | [a,b,c] => k a b c | _ => none
theorem zp2 {α R:Type} {l:List α} {k:α → α → α → Option R} {r:R} (h:lit3 l k = some r):∃ a b c,l = [a,b,c] ∧ k a b c = some r:=by
 unfold lit3 at h
 split at h
 ·exact ⟨_,_,_,rfl,h⟩
 ·cases h
end Go.Proofs.YtljojacnjjgceaaGreat.Den
namespace Go.Proofs.YtljojacnjjgceaaGreat.Den
open Go Go.RowKit
def zqy (Z:Nat) (x0:Int) (x1:Int) (x2:Int):Option ((Bool × Unit) × Unit) :=
 cond (decide (x0 ≥ x1))
 (some (((decide (x0 ≤ x2),()),())))
 (some (((false,()),())))
def zf (Z:Nat) (z:((Int × Unit) × ((Int × Unit) × ((Int × Unit) × Unit)))):Option ((Bool × Unit) × Unit):=zqy Z z.1.1 z.2.1.1 z.2.2.1.1
abbrev zb1 (Z:Nat):LE:=⟨.pure (.grp (.dat I6 .nil) (.grp (.dat I6 .nil) (.grp (.dat I6 .nil) .nil))) (.grp (.dat Kd.bool .nil) .nil) true,zf Z⟩
theorem zx (Z:Nat):EntryOK Tryz.prog 41 (zb1 Z).te:=okS (fn:=Tryz.f41) (frz:=[]) (ann:=[]) (cuts:=[]) (rv:=[(6,none)]) Z (TabOK.of (entNil) (methNil)) mixed (by kernel_rfl) (by kernel_rfl) (by kernel_rfl) (fun _ => rfl) (fun _ => rfl) (fun _ _ => by kernel_rfl)
def zeV (Z:Nat):Tab:=Tab.of [] []
def zqz:List Norm:=[⟨[4,0,3],[],[],[]⟩]
noncomputable def ziM:C:=irOf Tryz.prog Tryz.f146 [] zqz []
def zeW:List (Nat × Option (Nat × Bool)):=[(2,none)]
abbrev zxZ:Sx:=.grp (.dat (Kd.list I6) .nil) .nil
abbrev zx0:Sx:=.grp (.dat I6 .nil) .nil
abbrev zaU:LF:=.pure zxZ zx0 true
abbrev zcC:=(Int) × (List Int) × (Int)
def zqA (v:zcC):Env × Heap:=([(4,SV.int .i64 v.1),(0,SV.es I6 v.2.1),(3,SV.int .i64 v.2.2)],[])
def zeX (Z:Nat) (g0:zcC → Option ((Int × Unit) × Unit)) (v:zcC):Option ((Int × Unit) × Unit) :=
 cond (decide (v.1 < (zz (List.length v.2.1))))
 (tst (decide (0 ≤ v.1)) <|
 tst (decide (v.1 < (zz (List.length v.2.1)))) <|
 g0 (w64 (v.1 + (1:Int)),v.2.1,w64 (v.2.2 + List.getD v.2.1 (Int.toNat v.1) 0)))
 (some (((v.2.2,()),())))
def ziN (Z:Nat) (g0:zcC → Option ((Int × Unit) × Unit)):zcC → Option ((Int × Unit) × Unit):=zeX Z g0
theorem zx1 (Z:Nat) (G):ziM.lp (zeV Z) 0 Z G (endX zeW zaU) 0 zqA = iter (ziN Z) Z:=C.lp_iter fun g v => by kernel_rfl
def zqB (Z:Nat) (X0:zcC → Option ((Int × Unit) × Unit)) (x0:List Int):Option ((Int × Unit) × Unit) :=
 X0 ((0:Int),x0,(0:Int))
def zao (Z:Nat) (z:(((List Int) × Unit) × Unit)):Option ((Int × Unit) × Unit):=zqB Z (iter (ziN Z) Z) z.1.1
theorem zx2 (Z:Nat) (xa:zaU.rt.T) (xd:zaU.D.T):zaU.go (zeV Z) Z ziM zeW xa xd = zao Z (zaU.xb (xa,xd)) :=
 (show zaU.go (zeV Z) Z ziM zeW xa xd = zqB Z (ziM.lp (zeV Z) 0 Z (fun _ _ _ => none) (endX zeW zaU) 0 zqA) xd.1.1 by kernel_rfl).trans (by rw [zx1]; rfl)
abbrev zmL (Z:Nat):LE:=⟨zaU,zao Z⟩
theorem zmM (Z:Nat):EntryOK Tryz.prog 146 (zmL Z).te:=okF (T:=zeV Z) (fn:=Tryz.f146) (le:=zmL Z) (frz:=[]) (ann:=zqz) (cuts:=[]) (rv:=zeW) (TabOK.of (entNil) (methNil)) mixed (by kernel_rfl) (by kernel_rfl) (by kernel_rfl) (fun _ => rfl) (fun _ => rfl) (fun xa xd y h => ⟨Z,(zx2 Z xa xd).trans h⟩)
def z9 (Z:Nat):Tab:=Tab.of [(41,(zb1 Z).te),(146,(zmL Z).te)] []
def zqC:List Norm:=[⟨[3,1],[],[],[]⟩,⟨[4,1,3],[],[],[]⟩]
noncomputable def zM:C:=irOf Tryz.prog Tryz.f141 [] zqC []
def zaB:List (Nat × Option (Nat × Bool)):=[(2,none)]
abbrev zx3:Sx:=.agg (.dat (Kd.list (Kd.list I6)) .nil) .nil
abbrev zx4:Sx:=.grp (.dat Kd.bool .nil) .nil
abbrev zN:LF:=.pure zx3 zx4 true
abbrev zaV:=(Int) × (List (List Int))
abbrev zcD:=(Int) × (Int) × (List (List Int))
def zap (v:zaV):Env × Heap:=([(3,SV.int .i64 v.1),(1,SV.ptr 0 0)],[Blk.cells [SV.es (Kd.list I6) v.2] 0 1])
def zcE (v:zcD):Env × Heap:=([(4,SV.int .i64 v.1),(1,SV.ptr 0 0),(3,SV.int .i64 v.2.1)],[Blk.cells [SV.es (Kd.list I6) v.2.2] 0 1])
def zcF (Z:Nat) (g0:zaV → Option ((Bool × Unit) × Unit)) (g1:zcD → Option ((Bool × Unit) × Unit)) (v:zcD):Option ((Bool × Unit) × Unit) :=
 cond (decide (v.1 < (8:Int)))
 (tst (decide (0 ≤ v.2.1)) <|
 tst (decide (v.2.1 < (zz (List.length v.2.2)))) <|
 tst (decide (0 ≤ v.1)) <|
 tst (decide (v.1 < (zz (List.length (List.getD v.2.2 (Int.toNat v.2.1) []))))) <|
 Option.bind (zf Z ((List.getD (List.getD v.2.2 (Int.toNat v.2.1) []) (Int.toNat v.1) 0,()),((0:Int),()),((2000:Int),()),())) fun y_2 =>
 cond (!y_2.1.1)
 (some (((false,()),())))
 (g1 (w64 (v.1 + (1:Int)),v.2.1,v.2.2)))
 (tst (decide (0 ≤ v.2.1)) <|
 tst (decide (v.2.1 < (zz (List.length v.2.2)))) <|
 Option.bind (zao Z ((List.getD v.2.2 (Int.toNat v.2.1) [],()),())) fun y_2 =>
 tst (decide ((0:Int) < (zz (List.length v.2.2)))) <|
 Option.bind (zao Z ((List.getD v.2.2 (Int.toNat (0:Int)) [],()),())) fun y_3 =>
 cond (y_2.1.1 != y_3.1.1)
 (some (((false,()),())))
 (tst (decide (0 ≤ v.2.1)) <|
 tst (decide (v.2.1 < (zz (List.length v.2.2)))) <|
 Option.bind (zao Z ((List.getD v.2.2 (Int.toNat v.2.1) [],()),())) fun y_5 =>
 cond (decide (y_5.1.1 > (2000:Int)))
 (some (((false,()),())))
 (g0 (w64 (v.2.1 + (1:Int)),v.2.2))))
def zmN (Z:Nat) (g0:zaV → Option ((Bool × Unit) × Unit)) (g1:zcD → Option ((Bool × Unit) × Unit)):zcD → Option ((Bool × Unit) × Unit):=zcF Z g0 g1
theorem zx5 (Z:Nat) (G):zM.lp (z9 Z) 0 Z G (endX zaB zN) 1 zcE = iter (zmN Z (fun v => G 0 (zap v).1 (zap v).2)) Z:=C.lp_iter fun g v =>
 (show run (z9 Z) 0 Z (zM.bdAt 1) (zcE v).1 (zcE v).2 (loopK 0 (zM.nmAt 1) g (zM.contAt (z9 Z) 0 Z G 0 1 (endX zaB zN))) = zcF Z (fun v => G 0 (zap v).1 (zap v).2) (fun v => g (zcE v).1 (zcE v).2) v by kernel_rfl)
def zcG (Z:Nat) (X1:zcD → Option ((Bool × Unit) × Unit)) (g0:zaV → Option ((Bool × Unit) × Unit)) (v:zaV):Option ((Bool × Unit) × Unit) :=
 cond (decide (v.1 < (3:Int)))
 (tst (decide (0 ≤ v.1)) <|
 tst (decide (v.1 < (zz (List.length v.2)))) <|
 cond ((zz (List.length (List.getD v.2 (Int.toNat v.1) []))) != (8:Int))
 (some (((false,()),())))
 (X1 ((0:Int),v.1,v.2)))
 (some (((true,()),())))
def ziO (Z:Nat) (g0:zaV → Option ((Bool × Unit) × Unit)):zaV → Option ((Bool × Unit) × Unit):=zcG Z (iter (zmN Z g0) Z) g0
theorem zx6 (Z:Nat) (G):zM.lp (z9 Z) 0 Z G (endX zaB zN) 0 zap = iter (ziO Z) Z:=C.lp_iter fun g v =>
 (show run (z9 Z) 0 Z (zM.bdAt 0) (zap v).1 (zap v).2 (loopK 0 (zM.nmAt 0) g (zM.contAt (z9 Z) 0 Z G 0 0 (endX zaB zN))) = zcG Z (zM.lp (z9 Z) 0 Z (fun m => bif Nat.beq m 0 then g else G m) (endX zaB zN) 1 zcE) (fun v => g (zap v).1 (zap v).2) v by kernel_rfl).trans (by rw [zx5]; rfl)
def ziP (Z:Nat) (X0:zaV → Option ((Bool × Unit) × Unit)) (x0:List (List Int)):Option ((Bool × Unit) × Unit) :=
 cond ((zz (List.length x0)) != (3:Int))
 (some (((false,()),())))
 (X0 ((0:Int),x0))
def zcH (Z:Nat) (z:(((List (List Int)) × Unit) × Unit)):Option ((Bool × Unit) × Unit):=ziP Z (iter (ziO Z) Z) z.1.1
theorem zx7 (Z:Nat) (xa:zN.rt.T) (xd:zN.D.T):zN.go (z9 Z) Z zM zaB xa xd = zcH Z (zN.xb (xa,xd)) :=
 (show zN.go (z9 Z) Z zM zaB xa xd = ziP Z (zM.lp (z9 Z) 0 Z (fun _ _ _ => none) (endX zaB zN) 0 zap) xd.1.1 by kernel_rfl).trans (by rw [zx6]; rfl)
abbrev zqD (Z:Nat):LE:=⟨zN,zcH Z⟩
theorem zmO (Z:Nat):EntryOK Tryz.prog 141 (zqD Z).te:=okF (T:=z9 Z) (fn:=Tryz.f141) (le:=zqD Z) (frz:=[]) (ann:=zqC) (cuts:=[]) (rv:=zaB) (TabOK.of (entCons (zx Z) (entCons (zmM Z) entNil)) (methNil)) mixed (by kernel_rfl) (by kernel_rfl) (by kernel_rfl) (fun _ => rfl) (fun _ => rfl) (fun xa xd y h => ⟨Z,(zx7 Z xa xd).trans h⟩)
def zeY (Z:Nat):Tab:=Tab.of [(41,(zb1 Z).te)] []
def zqE:List Norm:=[⟨[3,1],[],[],[]⟩]
noncomputable def ziQ:C:=irOf Tryz.prog Tryz.f142 [] zqE []
def zeZ:List (Nat × Option (Nat × Bool)):=[(2,none)]
abbrev zx8:Sx:=.agg (.dat (Kd.list I6) .nil) .nil
abbrev zx9:Sx:=.grp (.dat Kd.bool .nil) .nil
abbrev zaW:LF:=.pure zx8 zx9 true
abbrev zcI:=(Int) × (List Int)
def zqF (v:zcI):Env × Heap:=([(3,SV.int .i64 v.1),(1,SV.ptr 0 0)],[Blk.cells [SV.es I6 v.2] 0 1])
def ze0 (Z:Nat) (g0:zcI → Option ((Bool × Unit) × Unit)) (v:zcI):Option ((Bool × Unit) × Unit) :=
 cond (decide (v.1 < (zz (List.length v.2))))
 (tst (decide (0 ≤ v.1)) <|
 tst (decide (v.1 < (zz (List.length v.2)))) <|
 Option.bind (zf Z ((List.getD v.2 (Int.toNat v.1) 0,()),((0:Int),()),((63:Int),()),())) fun y_2 =>
 cond (!y_2.1.1)
 (some (((false,()),())))
 (cond (decide (v.1 > (0:Int)))
 (tst (decide (0 ≤ w64 (v.1 - (1:Int)))) <|
 tst (decide (w64 (v.1 - (1:Int)) < (zz (List.length v.2)))) <|
 tst (decide (0 ≤ v.1)) <|
 tst (decide (v.1 < (zz (List.length v.2)))) <|
 cond (decide (List.getD v.2 (Int.toNat (w64 (v.1 - (1:Int)))) 0 ≥ List.getD v.2 (Int.toNat v.1) 0))
 (some (((false,()),())))
 (g0 (w64 (v.1 + (1:Int)),v.2)))
 (g0 (w64 (v.1 + (1:Int)),v.2))))
 (some (((decide ((zz (List.length v.2)) ≤ (6:Int)),()),())))
def ziR (Z:Nat) (g0:zcI → Option ((Bool × Unit) × Unit)):zcI → Option ((Bool × Unit) × Unit):=ze0 Z g0
theorem zya (Z:Nat) (G):ziQ.lp (zeY Z) 0 Z G (endX zeZ zaW) 0 zqF = iter (ziR Z) Z:=C.lp_iter fun g v => by kernel_rfl
def zqG (Z:Nat) (X0:zcI → Option ((Bool × Unit) × Unit)) (x0:List Int):Option ((Bool × Unit) × Unit) :=
 X0 ((0:Int),x0)
def ze1 (Z:Nat) (z:(((List Int) × Unit) × Unit)):Option ((Bool × Unit) × Unit):=zqG Z (iter (ziR Z) Z) z.1.1
theorem zyb (Z:Nat) (xa:zaW.rt.T) (xd:zaW.D.T):zaW.go (zeY Z) Z ziQ zeZ xa xd = ze1 Z (zaW.xb (xa,xd)) :=
 (show zaW.go (zeY Z) Z ziQ zeZ xa xd = zqG Z (ziQ.lp (zeY Z) 0 Z (fun _ _ _ => none) (endX zeZ zaW) 0 zqF) xd.1.1 by kernel_rfl).trans (by rw [zya]; rfl)
abbrev zqH (Z:Nat):LE:=⟨zaW,ze1 Z⟩
theorem zqI (Z:Nat):EntryOK Tryz.prog 142 (zqH Z).te:=okF (T:=zeY Z) (fn:=Tryz.f142) (le:=zqH Z) (frz:=[]) (ann:=zqE) (cuts:=[]) (rv:=zeZ) (TabOK.of (entCons (zx Z) entNil) (methNil)) mixed (by kernel_rfl) (by kernel_rfl) (by kernel_rfl) (fun _ => rfl) (fun _ => rfl) (fun xa xd y h => ⟨Z,(zyb Z xa xd).trans h⟩)
def ze2 (Z:Nat):Tab:=Tab.of [] []
def zqJ:List Norm:=[⟨[4,0,3],[],[],[]⟩]
noncomputable def ziS:C:=irOf Tryz.prog Tryz.f174 [] zqJ []
def ze3:List (Nat × Option (Nat × Bool)):=[(2,none)]
abbrev zyc:Sx:=.grp (.dat (Kd.list KP) .nil) .nil
abbrev zyd:Sx:=.grp (.dat I6 .nil) .nil
abbrev zaX:LF:=.pure zyc zyd true
abbrev zcJ:=(Int) × LP × (Int)
def zqK (v:zcJ):Env × Heap:=([(4,SV.int .i64 v.1),(0,SV.es KP v.2.1),(3,SV.int .i64 v.2.2)],[])
def ze4 (Z:Nat) (g0:zcJ → Option ((Int × Unit) × Unit)) (v:zcJ):Option ((Int × Unit) × Unit) :=
 cond (decide (v.1 < (zz (List.length v.2.1))))
 (tst (decide (0 ≤ v.1)) <|
 tst (decide (v.1 < (zz (List.length v.2.1)))) <|
 g0 (w64 (v.1 + (1:Int)),v.2.1,w64 (v.2.2 + (List.getD v.2.1 (Int.toNat v.1) (0,(0,()))).2.1)))
 (some (((v.2.2,()),())))
def ziT (Z:Nat) (g0:zcJ → Option ((Int × Unit) × Unit)):zcJ → Option ((Int × Unit) × Unit):=ze4 Z g0
theorem zye (Z:Nat) (G):ziS.lp (ze2 Z) 0 Z G (endX ze3 zaX) 0 zqK = iter (ziT Z) Z:=C.lp_iter fun g v => by kernel_rfl
def zqL (Z:Nat) (X0:zcJ → Option ((Int × Unit) × Unit)) (x0:LP):Option ((Int × Unit) × Unit) :=
 X0 ((0:Int),x0,(0:Int))
def ziU (Z:Nat) (z:((LP × Unit) × Unit)):Option ((Int × Unit) × Unit):=zqL Z (iter (ziT Z) Z) z.1.1
theorem zyf (Z:Nat) (xa:zaX.rt.T) (xd:zaX.D.T):zaX.go (ze2 Z) Z ziS ze3 xa xd = ziU Z (zaX.xb (xa,xd)) :=
 (show zaX.go (ze2 Z) Z ziS ze3 xa xd = zqL Z (ziS.lp (ze2 Z) 0 Z (fun _ _ _ => none) (endX ze3 zaX) 0 zqK) xd.1.1 by kernel_rfl).trans (by rw [zye]; rfl)
abbrev zmP (Z:Nat):LE:=⟨zaX,ziU Z⟩
theorem zyg (Z:Nat):EntryOK Tryz.prog 174 (zmP Z).te:=okF (T:=ze2 Z) (fn:=Tryz.f174) (le:=zmP Z) (frz:=[]) (ann:=zqJ) (cuts:=[]) (rv:=ze3) (TabOK.of (entNil) (methNil)) mixed (by kernel_rfl) (by kernel_rfl) (by kernel_rfl) (fun _ => rfl) (fun _ => rfl) (fun xa xd y h => ⟨Z,(zyf Z xa xd).trans h⟩)
def ze5 (Z:Nat):Tab:=Tab.of [(41,(zb1 Z).te),(174,(zmP Z).te)] []
def zqM:List Norm:=[⟨[3,1],[],[],[]⟩]
noncomputable def ziV:C:=irOf Tryz.prog Tryz.f143 [] zqM []
def ze6:List (Nat × Option (Nat × Bool)):=[(2,none)]
abbrev zyh:Sx:=.agg (.dat (Kd.list KP) (.dat I6 (.dat I6 .nil))) .nil
abbrev zyi:Sx:=.grp (.dat Kd.bool .nil) .nil
abbrev zaY:LF:=.pure zyh zyi true
abbrev zcK:=(Int) × LP × (Int) × (Int)
def zqN (v:zcK):Env × Heap:=([(3,SV.int .i64 v.1),(1,SV.ptr 0 0)],[Blk.cells [SV.es KP v.2.1,SV.int .i64 v.2.2.1,SV.int .i64 v.2.2.2] 0 3])
def ze7 (Z:Nat) (g0:zcK → Option ((Bool × Unit) × Unit)) (v:zcK):Option ((Bool × Unit) × Unit) :=
 cond (decide (v.1 < (zz (List.length v.2.1))))
 (tst (decide (0 ≤ v.1)) <|
 tst (decide (v.1 < (zz (List.length v.2.1)))) <|
 Option.bind (zf Z (((List.getD v.2.1 (Int.toNat v.1) (0,(0,()))).1,()),((0:Int),()),((63:Int),()),())) fun y_2 =>
 cond (!y_2.1.1)
 (some (((false,()),())))
 (tst (decide (0 ≤ v.1)) <|
 tst (decide (v.1 < (zz (List.length v.2.1)))) <|
 Option.bind (zf Z (((List.getD v.2.1 (Int.toNat v.1) (0,(0,()))).2.1,()),((1:Int),()),((2000:Int),()),())) fun y_4 =>
 cond (!y_4.1.1)
 (some (((false,()),())))
 (cond (decide (v.1 > (0:Int)))
 (tst (decide (0 ≤ w64 (v.1 - (1:Int)))) <|
 tst (decide (w64 (v.1 - (1:Int)) < (zz (List.length v.2.1)))) <|
 tst (decide (0 ≤ v.1)) <|
 tst (decide (v.1 < (zz (List.length v.2.1)))) <|
 cond (decide ((List.getD v.2.1 (Int.toNat (w64 (v.1 - (1:Int)))) (0,(0,()))).1 ≥ (List.getD v.2.1 (Int.toNat v.1) (0,(0,()))).1))
 (some (((false,()),())))
 (g0 (w64 (v.1 + (1:Int)),v.2.1,v.2.2.1,v.2.2.2)))
 (g0 (w64 (v.1 + (1:Int)),v.2.1,v.2.2.1,v.2.2.2)))))
 (cond (decide ((zz (List.length v.2.1)) ≤ (4:Int)))
 (Option.bind (zf Z ((v.2.2.2,()),((0:Int),()),((2000:Int),()),())) fun y_3 =>
 cond (y_3.1.1)
 (Option.bind (zf Z ((v.2.2.1,()),((0:Int),()),((2000:Int),()),())) fun y_5 =>
 cond (y_5.1.1)
 (Option.bind (ziU Z ((v.2.1,()),())) fun y_7 =>
 some (((decide (w64 (y_7.1.1 + w64 ((5:Int) * v.2.2.1)) ≤ v.2.2.2),()),())))
 (some (((false,()),()))))
 (some (((false,()),()))))
 (some (((false,()),()))))
def ziW (Z:Nat) (g0:zcK → Option ((Bool × Unit) × Unit)):zcK → Option ((Bool × Unit) × Unit):=ze7 Z g0
theorem zyj (Z:Nat) (G):ziV.lp (ze5 Z) 0 Z G (endX ze6 zaY) 0 zqN = iter (ziW Z) Z:=C.lp_iter fun g v => by kernel_rfl
def zqO (Z:Nat) (X0:zcK → Option ((Bool × Unit) × Unit)) (x0:LP) (x1:Int) (x2:Int):Option ((Bool × Unit) × Unit) :=
 X0 ((0:Int),x0,x1,x2)
def ze8 (Z:Nat) (z:((LP × (Int × (Int × Unit))) × Unit)):Option ((Bool × Unit) × Unit):=zqO Z (iter (ziW Z) Z) z.1.1 z.1.2.1 z.1.2.2.1
theorem zyk (Z:Nat) (xa:zaY.rt.T) (xd:zaY.D.T):zaY.go (ze5 Z) Z ziV ze6 xa xd = ze8 Z (zaY.xb (xa,xd)) :=
 (show zaY.go (ze5 Z) Z ziV ze6 xa xd = zqO Z (ziV.lp (ze5 Z) 0 Z (fun _ _ _ => none) (endX ze6 zaY) 0 zqN) xd.1.1 xd.1.2.1 xd.1.2.2.1 by kernel_rfl).trans (by rw [zyj]; rfl)
abbrev zqP (Z:Nat):LE:=⟨zaY,ze8 Z⟩
theorem zqQ (Z:Nat):EntryOK Tryz.prog 143 (zqP Z).te:=okF (T:=ze5 Z) (fn:=Tryz.f143) (le:=zqP Z) (frz:=[]) (ann:=zqM) (cuts:=[]) (rv:=ze6) (TabOK.of (entCons (zx Z) (entCons (zyg Z) entNil)) (methNil)) mixed (by kernel_rfl) (by kernel_rfl) (by kernel_rfl) (fun _ => rfl) (fun _ => rfl) (fun xa xd y h => ⟨Z,(zyk Z xa xd).trans h⟩)
def ze9 (Z:Nat):Tab:=Tab.of [(41,(zb1 Z).te)] []
def zqR:List Norm:=[⟨[4,1,3],[],[],[]⟩]
noncomputable def ziX:C:=irOf Tryz.prog Tryz.f144 [] zqR []
def zfa:List (Nat × Option (Nat × Bool)):=[(2,none)]
abbrev zyl:Sx:=.agg (.dat (Kd.list KP) (.dat I6 .nil)) .nil
abbrev zym:Sx:=.grp (.dat Kd.bool .nil) .nil
abbrev zaZ:LF:=.pure zyl zym true
abbrev zcL:=(Int) × (Int) × LP × (Int)
def zqS (v:zcL):Env × Heap:=([(4,SV.int .i64 v.1),(1,SV.ptr 0 0),(3,SV.int .i64 v.2.1)],[Blk.cells [SV.es KP v.2.2.1,SV.int .i64 v.2.2.2] 0 2])
def zfb (Z:Nat) (g0:zcL → Option ((Bool × Unit) × Unit)) (v:zcL):Option ((Bool × Unit) × Unit) :=
 cond (decide (v.1 < (zz (List.length v.2.2.1))))
 (tst (decide (0 ≤ v.1)) <|
 tst (decide (v.1 < (zz (List.length v.2.2.1)))) <|
 Option.bind (zf Z (((List.getD v.2.2.1 (Int.toNat v.1) (0,(0,()))).1,()),((1:Int),()),((127:Int),()),())) fun y_2 =>
 cond (!y_2.1.1)
 (some (((false,()),())))
 (Option.bind (zf Z (((List.getD v.2.2.1 (Int.toNat v.1) (0,(0,()))).2.1,()),((1:Int),()),((2000:Int),()),())) fun y_4 =>
 cond (!y_4.1.1)
 (some (((false,()),())))
 (cond (decide (v.1 > (0:Int)))
 (tst (decide (0 ≤ w64 (v.1 - (1:Int)))) <|
 tst (decide (w64 (v.1 - (1:Int)) < (zz (List.length v.2.2.1)))) <|
 cond (decide ((List.getD v.2.2.1 (Int.toNat (w64 (v.1 - (1:Int)))) (0,(0,()))).1 ≥ (List.getD v.2.2.1 (Int.toNat v.1) (0,(0,()))).1))
 (some (((false,()),())))
 (cond (decide ((List.getD v.2.2.1 (Int.toNat v.1) (0,(0,()))).1 < (64:Int)))
 (cond (decide ((List.getD v.2.2.1 (Int.toNat v.1) (0,(0,()))).2.1 > w64 (Int.tdiv v.2.2.2 (8:Int))))
 (some (((false,()),())))
 (g0 (w64 (v.1 + (1:Int)),w64 (v.2.1 + (List.getD v.2.2.1 (Int.toNat v.1) (0,(0,()))).2.1),v.2.2.1,v.2.2.2)))
 (g0 (w64 (v.1 + (1:Int)),w64 (v.2.1 + (List.getD v.2.2.1 (Int.toNat v.1) (0,(0,()))).2.1),v.2.2.1,v.2.2.2))))
 (cond (decide ((List.getD v.2.2.1 (Int.toNat v.1) (0,(0,()))).1 < (64:Int)))
 (cond (decide ((List.getD v.2.2.1 (Int.toNat v.1) (0,(0,()))).2.1 > w64 (Int.tdiv v.2.2.2 (8:Int))))
 (some (((false,()),())))
 (g0 (w64 (v.1 + (1:Int)),w64 (v.2.1 + (List.getD v.2.2.1 (Int.toNat v.1) (0,(0,()))).2.1),v.2.2.1,v.2.2.2)))
 (g0 (w64 (v.1 + (1:Int)),w64 (v.2.1 + (List.getD v.2.2.1 (Int.toNat v.1) (0,(0,()))).2.1),v.2.2.1,v.2.2.2))))))
 (some (((v.2.1 == v.2.2.2,()),())))
def ziY (Z:Nat) (g0:zcL → Option ((Bool × Unit) × Unit)):zcL → Option ((Bool × Unit) × Unit):=zfb Z g0
theorem zyn (Z:Nat) (G):ziX.lp (ze9 Z) 0 Z G (endX zfa zaZ) 0 zqS = iter (ziY Z) Z:=C.lp_iter fun g v => by kernel_rfl
def zmQ (Z:Nat) (X0:zcL → Option ((Bool × Unit) × Unit)) (x0:LP) (x1:Int):Option ((Bool × Unit) × Unit) :=
 Option.bind (zf Z ((x1,()),((0:Int),()),((2000:Int),()),())) fun y_1 =>
 cond (!y_1.1.1)
 (some (((false,()),())))
 (X0 ((0:Int),(0:Int),x0,x1))
def zcM (Z:Nat) (z:((LP × (Int × Unit)) × Unit)):Option ((Bool × Unit) × Unit):=zmQ Z (iter (ziY Z) Z) z.1.1 z.1.2.1
theorem zyo (Z:Nat) (xa:zaZ.rt.T) (xd:zaZ.D.T):zaZ.go (ze9 Z) Z ziX zfa xa xd = zcM Z (zaZ.xb (xa,xd)) :=
 (show zaZ.go (ze9 Z) Z ziX zfa xa xd = zmQ Z (ziX.lp (ze9 Z) 0 Z (fun _ _ _ => none) (endX zfa zaZ) 0 zqS) xd.1.1 xd.1.2.1 by kernel_rfl).trans (by rw [zyn]; rfl)
abbrev zqT (Z:Nat):LE:=⟨zaZ,zcM Z⟩
theorem zqU (Z:Nat):EntryOK Tryz.prog 144 (zqT Z).te:=okF (T:=ze9 Z) (fn:=Tryz.f144) (le:=zqT Z) (frz:=[]) (ann:=zqR) (cuts:=[]) (rv:=zfa) (TabOK.of (entCons (zx Z) entNil) (methNil)) mixed (by kernel_rfl) (by kernel_rfl) (by kernel_rfl) (fun _ => rfl) (fun _ => rfl) (fun xa xd y h => ⟨Z,(zyo Z xa xd).trans h⟩)
def zmR (Z:Nat) (x0:List (List Int)):Option ((Int × Unit) × Unit) :=
 Option.bind (zcH Z ((x0,()),())) fun y_1 =>
 cond (!y_1.1.1)
 (some ((((-1:Int),()),())))
 (tst (decide ((0:Int) < (zz (List.length x0)))) <|
 Option.bind (zao Z ((List.getD x0 (Int.toNat (0:Int)) [],()),())) fun y_3 =>
 some (((y_3.1.1,()),())))
def zmS (Z:Nat) (z:(((List (List Int)) × Unit) × Unit)):Option ((Int × Unit) × Unit):=zmR Z z.1.1
abbrev zyp (Z:Nat):LE:=⟨.pure (.agg (.dat (Kd.list (Kd.list I6)) .nil) .nil) (.grp (.dat I6 .nil) .nil) true,zmS Z⟩
theorem zyq (Z:Nat):EntryOK Tryz.prog 145 (zyp Z).te:=okS (fn:=Tryz.f145) (frz:=[]) (ann:=[]) (cuts:=[]) (rv:=[(2,none)]) Z (TabOK.of (entCons (zmO Z) (entCons (zmM Z) entNil)) (methNil)) mixed (by kernel_rfl) (by kernel_rfl) (by kernel_rfl) (fun _ => rfl) (fun _ => rfl) (fun _ _ => by kernel_rfl)
def zmT (Z:Nat) (x0:List (List Int)) (x1:List Int) (x2:LP) (x3:Int) (x4:Int) (x5:LP) (x6:Int):Option ((Bool × Unit) × Unit) :=
 Option.bind (zcH Z ((x0,()),())) fun y_1 =>
 cond (y_1.1.1)
 (Option.bind (ze1 Z ((x1,()),())) fun y_3 =>
 cond (y_3.1.1)
 (Option.bind (ze8 Z ((x2,x3,x4,()),())) fun y_5 =>
 cond (y_5.1.1)
 (Option.bind (zcM Z ((x5,x6,()),())) fun y_7 =>
 cond (y_7.1.1)
 (Option.bind (zmS Z ((x0,()),())) fun y_9 =>
 cond (y_9.1.1 == x4)
 (cond (x4 == x6)
 (some (((decide ((zz (List.length x1)) > (0:Int)) == decide (x4 > (0:Int)),()),())))
 (some (((false,()),()))))
 (some (((false,()),()))))
 (some (((false,()),()))))
 (some (((false,()),()))))
 (some (((false,()),()))))
 (some (((false,()),())))
def ziZ (Z:Nat) (z:(SumY × Unit)):Option ((Bool × Unit) × Unit):=zmT Z z.1.1 z.1.2.1 z.1.2.2.1 z.1.2.2.2.1 z.1.2.2.2.2.1 z.1.2.2.2.2.2.1 z.1.2.2.2.2.2.2.1
abbrev zyr (Z:Nat):LE:=⟨.pure (.agg (.dat (Kd.list (Kd.list I6)) (.dat (Kd.list I6) (.dat (Kd.list KP) (.dat I6 (.dat I6 (.dat (Kd.list KP) (.dat I6 .nil))))))) .nil) (.grp (.dat Kd.bool .nil) .nil) true,ziZ Z⟩
theorem zys (Z:Nat):EntryOK Tryz.prog 118 (zyr Z).te:=okS (fn:=Tryz.f118) (frz:=[]) (ann:=[]) (cuts:=[]) (rv:=[(2,none)]) Z (TabOK.of (entCons (zmO Z) (entCons (zqI Z) (entCons (zqQ Z) (entCons (zqU Z) (entCons (zyq Z) entNil))))) (methNil)) mixed (by kernel_rfl) (by kernel_rfl) (by kernel_rfl) (fun _ => rfl) (fun _ => rfl) (fun _ _ => by kernel_rfl)
end Go.Proofs.YtljojacnjjgceaaGreat.Den
namespace Go.Proofs.YtljojacnjjgceaaGreat.Den
open Go Go.RowKit
def zyt (Z:Nat) :Option (((List (List Int)) × Unit) × Unit) :=
 some ((([List.replicate (Int.toNat (8:Int)) 0,List.replicate (Int.toNat (8:Int)) 0,List.replicate (Int.toNat (8:Int)) 0],()),()))
def zqV (Z:Nat) (z:Unit):Option (((List (List Int)) × Unit) × Unit):=zyt Z
abbrev zyu (Z:Nat):LE:=⟨.pure .nil (.agg (.dat (Kd.list (Kd.list I6)) .nil) .nil) false,zqV Z⟩
theorem zyv (Z:Nat):EntryOK Tryz.prog 117 (zyu Z).te:=okS (fn:=Tryz.f117) (frz:=[]) (ann:=[⟨[2,1,0],[],[],[]⟩]) (cuts:=[]) (rv:=[(0,some (1,true))]) (Z + 6) (TabOK.of (entNil) (methNil)) mixed (by kernel_rfl) (by kernel_rfl) (by kernel_rfl) (fun _ => rfl) (fun _ => rfl) (fun _ _ => by kernel_rfl)
def zyw (Z:Nat) :Option (SumY × Unit) :=
 Option.bind (zqV Z ()) fun y_1 =>
 some (((y_1.1.1,[],[],(0:Int),(0:Int),[],(0:Int),()),()))
def zmU (Z:Nat) (z:Unit):Option (SumY × Unit):=zyw Z
abbrev zqW (Z:Nat):LE:=⟨.pure .nil (.agg (.dat (Kd.list (Kd.list I6)) (.dat (Kd.list I6) (.dat (Kd.list KP) (.dat I6 (.dat I6 (.dat (Kd.list KP) (.dat I6 .nil))))))) .nil) false,zmU Z⟩
theorem zyx (Z:Nat):EntryOK Tryz.prog 80 (zqW Z).te:=okS (fn:=Tryz.f80) (frz:=[]) (ann:=[]) (cuts:=[]) (rv:=[(0,some (7,true))]) Z (TabOK.of (entCons (zyv Z) entNil) (methNil)) mixed (by kernel_rfl) (by kernel_rfl) (by kernel_rfl) (fun _ => rfl) (fun _ => rfl) (fun _ _ => by kernel_rfl)
def zqX (Z:Nat):Tab:=Tab.of [] []
def zqY:List Norm:=[⟨[4,1,3,2],[],[],[]⟩]
noncomputable def zyy:C:=irOf Tryz.prog Tryz.f140 [21] zqY []
def zqZ:List (Nat × Option (Nat × Bool)):=[(2,some (1,true))]
abbrev zyz:Sx:=.agg (.dat (Kd.list (Kd.list I6)) .nil) .nil
abbrev zyA:Sx:=.agg (.osl 1 (.own 0 I6 (.own 0 I6 (.own 0 I6 .nil))) .nil) .nil
abbrev zmV:LF:=.via zyz zyA true (((List (List Int)) × Unit) × Unit) (fun (p:((List Int × (List Int × (List Int × Unit))) × Unit) × Unit) => (([p.1.1.1,p.1.1.2.1,p.1.1.2.2.1],()),())) (fun (y:((List (List Int)) × Unit) × Unit) => (((y.1.1.getD 0 [],y.1.1.getD 1 [],y.1.1.getD 2 [],()),()),()))
def zfc (Z:Nat) (x0:List Int) (x1:List Int) (x2:List Int):Option (((List (List Int)) × Unit) × Unit) :=
 tst (decide (0 + List.length x0 < LIM)) <|
 tst (decide (0 + List.length x1 < LIM)) <|
 tst (decide (0 + List.length x2 < LIM)) <|
 some ((([[] ++ x0,[] ++ x1,[] ++ x2],()),()))
def zmW (Z:Nat) (z:(((List (List Int)) × Unit) × Unit)):Option (((List (List Int)) × Unit) × Unit):=lit3 z.1.1 fun x0 x1 x2 => zfc Z x0 x1 x2
theorem zyB (Z:Nat) (xa:zmV.rt.T) (x0:List Int) (x1:List Int) (x2:List Int):zmV.go (zqX Z) (Z + 6) zyy zqZ xa (([x0,x1,x2],()),()) = zfc Z x0 x1 x2:=by kernel_rfl
abbrev zq0 (Z:Nat):LE:=⟨zmV,zmW Z⟩
theorem zyC (Z:Nat):EntryOK Tryz.prog 140 (zq0 Z).te:=okF (T:=zqX Z) (fn:=Tryz.f140) (le:=zq0 Z) (frz:=[21]) (ann:=zqY) (cuts:=[]) (rv:=zqZ) (TabOK.of (entNil) (methNil)) mixed (by kernel_rfl) (by kernel_rfl) (by kernel_rfl) (fun _ => rfl) (fun _ => rfl) (fun xa xd y h => by
  obtain ⟨⟨l0,⟨⟩⟩,⟨⟩⟩:=xd
  obtain ⟨x0,x1,x2,rfl,h⟩:=zp2 (show lit3 l0 (fun x0 x1 x2 => zfc Z x0 x1 x2) = some y from h)
  exact ⟨(Z + 6),(zyB Z xa x0 x1 x2).trans h⟩)
def zmX (Z:Nat) (x0:Int) (x1:Int):Option ((Int × Unit) × Unit) :=
 tst (decide (0 ≤ x0)) <|
 tst (decide (x0 < (zz 3))) <|
 tst (decide (Int.toNat x0 < 3)) <|
 tst (decide (0 ≤ x0)) <|
 tst (decide (x0 < (zz 3))) <|
 tst (decide (Int.toNat x0 < 3)) <|
 tst (!decide (List.getD [(8:Int),(16:Int),(4:Int)] (Int.toNat x0) 0 = 0)) <|
 some (((Int.tmod (w64 (w64 (w64 (x1 * List.getD [(3:Int),(5:Int),(1:Int)] (Int.toNat x0) 0) + w64 (Int.tdiv x1 (List.getD [(8:Int),(16:Int),(4:Int)] (Int.toNat x0) 0))) + x0)) (8:Int),()),()))
def za0 (Z:Nat) (z:((Int × Unit) × ((Int × Unit) × Unit))):Option ((Int × Unit) × Unit):=zmX Z z.1.1 z.2.1.1
abbrev zyD (Z:Nat):LE:=⟨.pure (.grp (.dat I6 .nil) (.grp (.dat I6 .nil) .nil)) (.grp (.dat I6 .nil) .nil) true,za0 Z⟩
theorem zyE (Z:Nat):EntryOK Tryz.prog 223 (zyD Z).te:=okS (fn:=Tryz.f223) (frz:=[]) (ann:=[]) (cuts:=[]) (rv:=[(4,none)]) Z (TabOK.of (entNil) (methNil)) mixed (by kernel_rfl) (by kernel_rfl) (by kernel_rfl) (fun _ => rfl) (fun _ => rfl) (fun _ _ => by kernel_rfl)
def zmY (Z:Nat) (x0:List (List Int)) (x1:Int) (x2:Int):Option (((List (List Int)) × Unit) × ((Bool × Unit) × Unit)) :=
 Option.bind (zcH Z ((x0,()),())) fun y_1 =>
 cond (!y_1.1.1)
 (some ((([],()),(false,()),())))
 (Option.bind (zf Z ((x1,()),((0:Int),()),((63:Int),()),())) fun y_3 =>
 cond (!y_3.1.1)
 (some ((([],()),(false,()),())))
 (tst (decide ((0:Int) < (zz (List.length x0)))) <|
 Option.bind (zao Z ((List.getD x0 (Int.toNat (0:Int)) [],()),())) fun y_5 =>
 Option.bind (zf Z ((x2,()),((0:Int),()),(w64 ((2000:Int) - y_5.1.1),()),())) fun y_6 =>
 cond (!y_6.1.1)
 (some ((([],()),(false,()),())))
 (Option.bind (zmW Z ((x0,()),())) fun y_8 =>
 Option.bind (za0 Z (((0:Int),()),(x1,()),())) fun y_9 =>
 Option.bind (za0 Z (((0:Int),()),(x1,()),())) fun y_10 =>
 tst (decide (0 ≤ y_10.1.1)) <|
 tst (decide (y_10.1.1 < (zz (List.length (List.getD y_8.1.1 0 []))))) <|
 tst (decide (Int.toNat y_10.1.1 < List.length (List.getD y_8.1.1 0 []))) <|
 tst (decide (0 ≤ y_9.1.1)) <|
 tst (decide (y_9.1.1 < (zz (List.length (List.getD y_8.1.1 0 []))))) <|
 tst (decide (Int.toNat y_9.1.1 < List.length (List.getD y_8.1.1 0 []))) <|
 let z1_3:=List.set (List.getD y_8.1.1 0 []) (Int.toNat y_9.1.1) (w64 (List.getD (List.getD y_8.1.1 0 []) (Int.toNat y_10.1.1) 0 + x2));
 Option.bind (za0 Z (((1:Int),()),(x1,()),())) fun y_11 =>
 Option.bind (za0 Z (((1:Int),()),(x1,()),())) fun y_12 =>
 tst (decide (0 ≤ y_12.1.1)) <|
 tst (decide (y_12.1.1 < (zz (List.length (List.getD y_8.1.1 1 []))))) <|
 tst (decide (Int.toNat y_12.1.1 < List.length (List.getD y_8.1.1 1 []))) <|
 tst (decide (0 ≤ y_11.1.1)) <|
 tst (decide (y_11.1.1 < (zz (List.length (List.getD y_8.1.1 1 []))))) <|
 tst (decide (Int.toNat y_11.1.1 < List.length (List.getD y_8.1.1 1 []))) <|
 let z2_4:=List.set (List.getD y_8.1.1 1 []) (Int.toNat y_11.1.1) (w64 (List.getD (List.getD y_8.1.1 1 []) (Int.toNat y_12.1.1) 0 + x2));
 Option.bind (za0 Z (((2:Int),()),(x1,()),())) fun y_13 =>
 Option.bind (za0 Z (((2:Int),()),(x1,()),())) fun y_14 =>
 tst (decide (0 ≤ y_14.1.1)) <|
 tst (decide (y_14.1.1 < (zz (List.length (List.getD y_8.1.1 2 []))))) <|
 tst (decide (Int.toNat y_14.1.1 < List.length (List.getD y_8.1.1 2 []))) <|
 tst (decide (0 ≤ y_13.1.1)) <|
 tst (decide (y_13.1.1 < (zz (List.length (List.getD y_8.1.1 2 []))))) <|
 tst (decide (Int.toNat y_13.1.1 < List.length (List.getD y_8.1.1 2 []))) <|
 let z3_5:=List.set (List.getD y_8.1.1 2 []) (Int.toNat y_13.1.1) (w64 (List.getD (List.getD y_8.1.1 2 []) (Int.toNat y_14.1.1) 0 + x2));
 some ((([z1_3,z2_4,z3_5],()),(true,()),())))))
def zmZ (Z:Nat) (z:(((List (List Int)) × Unit) × ((Int × Unit) × ((Int × Unit) × Unit)))):Option (((List (List Int)) × Unit) × ((Bool × Unit) × Unit)):=zmY Z z.1.1 z.2.1.1 z.2.2.1.1
abbrev zyF (Z:Nat):LE:=⟨.pure (.agg (.dat (Kd.list (Kd.list I6)) .nil) (.grp (.dat I6 .nil) (.grp (.dat I6 .nil) .nil))) (.agg (.dat (Kd.list (Kd.list I6)) .nil) (.grp (.dat Kd.bool .nil) .nil)) false,zmZ Z⟩
theorem zyG (Z:Nat):EntryOK Tryz.prog 201 (zyF Z).te:=okS (fn:=Tryz.f201) (frz:=[]) (ann:=[⟨[9,8,1,2,6],[],[],[]⟩]) (cuts:=[]) (rv:=[(6,some (1,true)),(7,none)]) (Z + 6) (TabOK.of (entCons (zx Z) (entCons (zyC Z) (entCons (zmO Z) (entCons (zmM Z) (entCons (zyE Z) entNil))))) (methNil)) mixed (by kernel_rfl) (by kernel_rfl) (by kernel_rfl) (fun _ => rfl) (fun _ => rfl) (fun _ _ => by kernel_rfl)
abbrev zb2:=Option (((List Int) × Unit) × Unit)
def zfd (Z:Nat):Tab:=Tab.of [] []
def zq1:List Norm:=[{ live:=[7,0,6,1,5],fix:=[(5,none,I6,true)] }]
noncomputable def zi0:C:=irOf Tryz.prog Tryz.f147 [] zq1 []
def zfe:List (Nat × Option (Nat × Bool)):=[(4,none)]
abbrev zyH:Sx:=.grp (.dat (Kd.list I6) .nil) (.grp (.dat I6 .nil) .nil)
abbrev zyI:Sx:=.grp (.dat (Kd.list I6) .nil) .nil
abbrev za1:LF:=.pure zyH zyI false
abbrev zcN:=(Int) × (List Int) × (Bool) × (Int) × (List Int)
def zq2 (v:zcN):Env × Heap:=([(7,SV.int .i64 v.1),(0,SV.es I6 v.2.1),(6,SV.bool v.2.2.1),(1,SV.int .i64 v.2.2.2.1),(5,SV.own 0)],[Blk.arr I6 v.2.2.2.2 0])
def zff (Z:Nat) (g0:zcN → zb2) (v:zcN):zb2 :=
 cond (decide (v.1 < (zz (List.length v.2.1))))
 (cond (!v.2.2.1)
 (tst (decide (0 ≤ v.1)) <|
 tst (decide (v.1 < (zz (List.length v.2.1)))) <|
 cond (decide (List.getD v.2.1 (Int.toNat v.1) 0 ≥ v.2.2.2.1))
 (tst (decide (List.length v.2.2.2.2 + 1 < LIM)) <|
 tst (decide (0 ≤ v.1)) <|
 tst (decide (v.1 < (zz (List.length v.2.1)))) <|
 cond (List.getD v.2.1 (Int.toNat v.1) 0 != v.2.2.2.1)
 (tst (decide (0 ≤ v.1)) <|
 tst (decide (v.1 < (zz (List.length v.2.1)))) <|
 tst (decide (List.length (v.2.2.2.2 ++ [v.2.2.2.1]) + 1 < LIM)) <|
 g0 (w64 (v.1 + (1:Int)),v.2.1,true,v.2.2.2.1,v.2.2.2.2 ++ [v.2.2.2.1] ++ [List.getD v.2.1 (Int.toNat v.1) 0]))
 (g0 (w64 (v.1 + (1:Int)),v.2.1,true,v.2.2.2.1,v.2.2.2.2 ++ [v.2.2.2.1])))
 (tst (decide (0 ≤ v.1)) <|
 tst (decide (v.1 < (zz (List.length v.2.1)))) <|
 cond (List.getD v.2.1 (Int.toNat v.1) 0 != v.2.2.2.1)
 (tst (decide (0 ≤ v.1)) <|
 tst (decide (v.1 < (zz (List.length v.2.1)))) <|
 tst (decide (List.length v.2.2.2.2 + 1 < LIM)) <|
 g0 (w64 (v.1 + (1:Int)),v.2.1,v.2.2.1,v.2.2.2.1,v.2.2.2.2 ++ [List.getD v.2.1 (Int.toNat v.1) 0]))
 (g0 (w64 (v.1 + (1:Int)),v.2.1,v.2.2.1,v.2.2.2.1,v.2.2.2.2))))
 (tst (decide (0 ≤ v.1)) <|
 tst (decide (v.1 < (zz (List.length v.2.1)))) <|
 cond (List.getD v.2.1 (Int.toNat v.1) 0 != v.2.2.2.1)
 (tst (decide (0 ≤ v.1)) <|
 tst (decide (v.1 < (zz (List.length v.2.1)))) <|
 tst (decide (List.length v.2.2.2.2 + 1 < LIM)) <|
 g0 (w64 (v.1 + (1:Int)),v.2.1,v.2.2.1,v.2.2.2.1,v.2.2.2.2 ++ [List.getD v.2.1 (Int.toNat v.1) 0]))
 (g0 (w64 (v.1 + (1:Int)),v.2.1,v.2.2.1,v.2.2.2.1,v.2.2.2.2))))
 (cond (!v.2.2.1)
 (tst (decide (List.length v.2.2.2.2 + 1 < LIM)) <|
 tst (decide (0 ≤ if (6:Int) < (zz (List.length (v.2.2.2.2 ++ [v.2.2.2.1]))) then (6:Int) else (zz (List.length (v.2.2.2.2 ++ [v.2.2.2.1]))))) <|
 tst (decide ((if (6:Int) < (zz (List.length (v.2.2.2.2 ++ [v.2.2.2.1]))) then (6:Int) else (zz (List.length (v.2.2.2.2 ++ [v.2.2.2.1])))) ≤ (zz (List.length (v.2.2.2.2 ++ [v.2.2.2.1]))))) <|
 some (((List.take (Int.toNat (if (6:Int) < (zz (List.length (v.2.2.2.2 ++ [v.2.2.2.1]))) then (6:Int) else (zz (List.length (v.2.2.2.2 ++ [v.2.2.2.1])))) - 0) (List.drop 0 (v.2.2.2.2 ++ [v.2.2.2.1])),()),())))
 (tst (decide (0 ≤ if (6:Int) < (zz (List.length v.2.2.2.2)) then (6:Int) else (zz (List.length v.2.2.2.2)))) <|
 tst (decide ((if (6:Int) < (zz (List.length v.2.2.2.2)) then (6:Int) else (zz (List.length v.2.2.2.2))) ≤ (zz (List.length v.2.2.2.2)))) <|
 some (((List.take (Int.toNat (if (6:Int) < (zz (List.length v.2.2.2.2)) then (6:Int) else (zz (List.length v.2.2.2.2))) - 0) (List.drop 0 v.2.2.2.2),()),()))))
def zfg (Z:Nat) (g0:zcN → zb2):zcN → zb2:=zff Z g0
theorem zyJ (Z:Nat) (G):zi0.lp (zfd Z) 0 Z G (endX zfe za1) 0 zq2 = iter (zfg Z) Z:=C.lp_iter fun g v => by kernel_rfl
def zq3 (Z:Nat) (X0:zcN → zb2) (x0:List Int) (x1:Int):zb2 :=
 X0 ((0:Int),x0,false,x1,[])
def zi1 (Z:Nat) (z:(((List Int) × Unit) × ((Int × Unit) × Unit))):zb2:=zq3 Z (iter (zfg Z) Z) z.1.1 z.2.1.1
theorem zyK (Z:Nat) (xa:za1.rt.T) (xd:za1.D.T):za1.go (zfd Z) Z zi0 zfe xa xd = zi1 Z (za1.xb (xa,xd)) :=
 (show za1.go (zfd Z) Z zi0 zfe xa xd = zq3 Z (zi0.lp (zfd Z) 0 Z (fun _ _ _ => none) (endX zfe za1) 0 zq2) xd.1.1 xd.2.1.1 by kernel_rfl).trans (by rw [zyJ]; rfl)
abbrev zq4 (Z:Nat):LE:=⟨za1,zi1 Z⟩
theorem zyL (Z:Nat):EntryOK Tryz.prog 147 (zq4 Z).te:=okF (T:=zfd Z) (fn:=Tryz.f147) (le:=zq4 Z) (frz:=[]) (ann:=zq1) (cuts:=[]) (rv:=zfe) (TabOK.of (entNil) (methNil)) mixed (by kernel_rfl) (by kernel_rfl) (by kernel_rfl) (fun _ => rfl) (fun _ => rfl) (fun xa xd y h => ⟨Z,(zyK Z xa xd).trans h⟩)
def zm0 (Z:Nat) (x0:Int):Option ((Int × Unit) × Unit) :=
 Option.bind (zf Z ((x0,()),((0:Int),()),((63:Int),()),())) fun y_1 =>
 cond (!y_1.1.1)
 (some ((((-1:Int),()),())))
 (some (((Int.tmod (w64 (w64 (x0 * (37:Int)) + (11:Int))) (64:Int),()),())))
def zm1 (Z:Nat) (z:((Int × Unit) × Unit)):Option ((Int × Unit) × Unit):=zm0 Z z.1.1
abbrev zyM (Z:Nat):LE:=⟨.pure (.grp (.dat I6 .nil) .nil) (.grp (.dat I6 .nil) .nil) true,zm1 Z⟩
theorem zyN (Z:Nat):EntryOK Tryz.prog 224 (zyM Z).te:=okS (fn:=Tryz.f224) (frz:=[]) (ann:=[]) (cuts:=[]) (rv:=[(2,none)]) Z (TabOK.of (entCons (zx Z) entNil) (methNil)) mixed (by kernel_rfl) (by kernel_rfl) (by kernel_rfl) (fun _ => rfl) (fun _ => rfl) (fun _ _ => by kernel_rfl)
def zm2 (Z:Nat) (x0:List Int) (x1:Int):Option (((List Int) × Unit) × ((Bool × Unit) × Unit)) :=
 Option.bind (ze1 Z ((x0,()),())) fun y_1 =>
 cond (!y_1.1.1)
 (some ((([],()),(false,()),())))
 (Option.bind (zf Z ((x1,()),((0:Int),()),((63:Int),()),())) fun y_3 =>
 cond (!y_3.1.1)
 (some ((([],()),(false,()),())))
 (Option.bind (zm1 Z ((x1,()),())) fun y_5 =>
 Option.bind (zi1 Z ((x0,()),(y_5.1.1,()),())) fun y_6 =>
 some (((y_6.1.1,()),(true,()),()))))
def zm3 (Z:Nat) (z:(((List Int) × Unit) × ((Int × Unit) × Unit))):Option (((List Int) × Unit) × ((Bool × Unit) × Unit)):=zm2 Z z.1.1 z.2.1.1
abbrev zyO (Z:Nat):LE:=⟨.pure (.agg (.dat (Kd.list I6) .nil) (.grp (.dat I6 .nil) .nil)) (.agg (.dat (Kd.list I6) .nil) (.grp (.dat Kd.bool .nil) .nil)) false,zm3 Z⟩
theorem zyP (Z:Nat):EntryOK Tryz.prog 202 (zyO Z).te:=okS (fn:=Tryz.f202) (frz:=[]) (ann:=[]) (cuts:=[]) (rv:=[(4,some (1,true)),(5,none)]) Z (TabOK.of (entCons (zx Z) (entCons (zqI Z) (entCons (zyL Z) (entCons (zyN Z) entNil)))) (methNil)) mixed (by kernel_rfl) (by kernel_rfl) (by kernel_rfl) (fun _ => rfl) (fun _ => rfl) (fun _ _ => by kernel_rfl)
abbrev zb3:=Option ((LP × Unit) × Unit)
def zfh (Z:Nat):Tab:=Tab.of [] []
def zq5:List Norm:=[{ live:=[7,0,6,3,5],fix:=[(5,none,KP,true)] }]
noncomputable def zi2:C:=irOf Tryz.prog Tryz.f148 [] zq5 []
def zfi:List (Nat × Option (Nat × Bool)):=[(4,none)]
abbrev zyQ:Sx:=.grp (.dat (Kd.list KP) .nil) (.agg (.dat I6 (.dat I6 .nil)) .nil)
abbrev zyR:Sx:=.grp (.own 0 KP .nil) .nil
abbrev za2:LF:=.pure zyQ zyR true
abbrev zcO:=(Int) × LP × (Bool) × (Int) × (Int) × LP
def zq6 (v:zcO):Env × Heap:=([(7,SV.int .i64 v.1),(0,SV.es KP v.2.1),(6,SV.bool v.2.2.1),(3,SV.ptr 0 0),(5,SV.own 1)],[Blk.cells [SV.int .i64 v.2.2.2.1,SV.int .i64 v.2.2.2.2.1] 0 2,Blk.arr KP v.2.2.2.2.2 0])
def zfj (Z:Nat) (g0:zcO → zb3) (v:zcO):zb3 :=
 cond (decide (v.1 < (zz (List.length v.2.1))))
 (cond (!v.2.2.1)
 (tst (decide (0 ≤ v.1)) <|
 tst (decide (v.1 < (zz (List.length v.2.1)))) <|
 cond (decide ((List.getD v.2.1 (Int.toNat v.1) (0,(0,()))).1 ≥ v.2.2.2.1))
 (tst (decide (0 ≤ v.1)) <|
 tst (decide (v.1 < (zz (List.length v.2.1)))) <|
 cond ((List.getD v.2.1 (Int.toNat v.1) (0,(0,()))).1 == v.2.2.2.1)
 (tst (decide (0 ≤ v.1)) <|
 tst (decide (v.1 < (zz (List.length v.2.1)))) <|
 tst (decide (List.length v.2.2.2.2.2 + 1 < LIM)) <|
 g0 (w64 (v.1 + (1:Int)),v.2.1,true,v.2.2.2.1,v.2.2.2.2.1,v.2.2.2.2.2 ++ [(v.2.2.2.1,w64 (v.2.2.2.2.1 + (List.getD v.2.1 (Int.toNat v.1) (0,(0,()))).2.1),())]))
 (tst (decide (List.length v.2.2.2.2.2 + 1 < LIM)) <|
 tst (decide (0 ≤ v.1)) <|
 tst (decide (v.1 < (zz (List.length v.2.1)))) <|
 tst (decide (List.length (v.2.2.2.2.2 ++ [(v.2.2.2.1,v.2.2.2.2.1,())]) + 1 < LIM)) <|
 g0 (w64 (v.1 + (1:Int)),v.2.1,true,v.2.2.2.1,v.2.2.2.2.1,v.2.2.2.2.2 ++ [(v.2.2.2.1,v.2.2.2.2.1,())] ++ [((List.getD v.2.1 (Int.toNat v.1) (0,(0,()))).1,(List.getD v.2.1 (Int.toNat v.1) (0,(0,()))).2.1,())])))
 (tst (decide (0 ≤ v.1)) <|
 tst (decide (v.1 < (zz (List.length v.2.1)))) <|
 tst (decide (List.length v.2.2.2.2.2 + 1 < LIM)) <|
 g0 (w64 (v.1 + (1:Int)),v.2.1,v.2.2.1,v.2.2.2.1,v.2.2.2.2.1,v.2.2.2.2.2 ++ [((List.getD v.2.1 (Int.toNat v.1) (0,(0,()))).1,(List.getD v.2.1 (Int.toNat v.1) (0,(0,()))).2.1,())])))
 (tst (decide (0 ≤ v.1)) <|
 tst (decide (v.1 < (zz (List.length v.2.1)))) <|
 tst (decide (List.length v.2.2.2.2.2 + 1 < LIM)) <|
 g0 (w64 (v.1 + (1:Int)),v.2.1,v.2.2.1,v.2.2.2.1,v.2.2.2.2.1,v.2.2.2.2.2 ++ [((List.getD v.2.1 (Int.toNat v.1) (0,(0,()))).1,(List.getD v.2.1 (Int.toNat v.1) (0,(0,()))).2.1,())])))
 (cond (!v.2.2.1)
 (tst (decide (List.length v.2.2.2.2.2 + 1 < LIM)) <|
 some (((v.2.2.2.2.2 ++ [(v.2.2.2.1,v.2.2.2.2.1,())],()),())))
 (some (((v.2.2.2.2.2,()),()))))
def zfk (Z:Nat) (g0:zcO → zb3):zcO → zb3:=zfj Z g0
theorem zyS (Z:Nat) (G):zi2.lp (zfh Z) 0 Z G (endX zfi za2) 0 zq6 = iter (zfk Z) Z:=C.lp_iter fun g v => by kernel_rfl
def zq7 (Z:Nat) (X0:zcO → zb3) (x0:LP) (x1:Int) (x2:Int):zb3 :=
 X0 ((0:Int),x0,false,x1,x2,[])
def zi3 (Z:Nat) (z:((LP × Unit) × ((Int × (Int × Unit)) × Unit))):zb3:=zq7 Z (iter (zfk Z) Z) z.1.1 z.2.1.1 z.2.1.2.1
theorem zyT (Z:Nat) (xa:za2.rt.T) (xd:za2.D.T):za2.go (zfh Z) Z zi2 zfi xa xd = zi3 Z (za2.xb (xa,xd)) :=
 (show za2.go (zfh Z) Z zi2 zfi xa xd = zq7 Z (zi2.lp (zfh Z) 0 Z (fun _ _ _ => none) (endX zfi za2) 0 zq6) xd.1.1 xd.2.1.1 xd.2.1.2.1 by kernel_rfl).trans (by rw [zyS]; rfl)
abbrev zq8 (Z:Nat):LE:=⟨za2,zi3 Z⟩
theorem zyU (Z:Nat):EntryOK Tryz.prog 148 (zq8 Z).te:=okF (T:=zfh Z) (fn:=Tryz.f148) (le:=zq8 Z) (frz:=[]) (ann:=zq5) (cuts:=[]) (rv:=zfi) (TabOK.of (entNil) (methNil)) mixed (by kernel_rfl) (by kernel_rfl) (by kernel_rfl) (fun _ => rfl) (fun _ => rfl) (fun xa xd y h => ⟨Z,(zyT Z xa xd).trans h⟩)
def zaa (Z:Nat):Tab:=Tab.of [] []
def zq9:List Norm:=[⟨[4,0,3],[],[],[]⟩,⟨[6,0,4,5,3],[],[],[]⟩]
noncomputable def zO:C:=irOf Tryz.prog Tryz.f175 [] zq9 []
def zaC:List (Nat × Option (Nat × Bool)):=[(2,none)]
abbrev zyV:Sx:=.grp (.dat (Kd.list KP) .nil) .nil
abbrev zyW:Sx:=.grp (.dat I6 .nil) .nil
abbrev zP:LF:=.pure zyV zyW true
abbrev za3:=(Int) × LP × (Int)
abbrev zcP:=(Int) × LP × (Int) × (Int) × (Int)
def zaq (v:za3):Env × Heap:=([(4,SV.int .i64 v.1),(0,SV.es KP v.2.1),(3,SV.int .i64 v.2.2)],[])
def zcQ (v:zcP):Env × Heap:=([(6,SV.int .i64 v.1),(0,SV.es KP v.2.1),(4,SV.int .i64 v.2.2.1),(5,SV.int .i64 v.2.2.2.1),(3,SV.int .i64 v.2.2.2.2)],[])
def zcR (Z:Nat) (g0:za3 → Option ((Int × Unit) × Unit)) (g1:zcP → Option ((Int × Unit) × Unit)) (v:zcP):Option ((Int × Unit) × Unit) :=
 cond (decide (v.1 < (zz (List.length v.2.1))))
 (tst (decide (0 ≤ v.1)) <|
 tst (decide (v.1 < (zz (List.length v.2.1)))) <|
 tst (decide (0 ≤ v.2.2.1)) <|
 tst (decide (v.2.2.1 < (zz (List.length v.2.1)))) <|
 cond (decide ((List.getD v.2.1 (Int.toNat v.1) (0,(0,()))).2.1 ≥ (List.getD v.2.1 (Int.toNat v.2.2.1) (0,(0,()))).2.1))
 (g1 (w64 (v.1 + (1:Int)),v.2.1,v.2.2.1,w64 (v.2.2.2.1 + (1:Int)),v.2.2.2.2))
 (g1 (w64 (v.1 + (1:Int)),v.2.1,v.2.2.1,v.2.2.2.1,v.2.2.2.2)))
 (cond (decide (v.2.2.2.1 > (4:Int)))
 (tst (decide (0 ≤ v.2.2.1)) <|
 tst (decide (v.2.2.1 < (zz (List.length v.2.1)))) <|
 g0 (w64 (v.2.2.1 + (1:Int)),v.2.1,if (List.getD v.2.1 (Int.toNat v.2.2.1) (0,(0,()))).2.1 > v.2.2.2.2 then (List.getD v.2.1 (Int.toNat v.2.2.1) (0,(0,()))).2.1 else v.2.2.2.2))
 (g0 (w64 (v.2.2.1 + (1:Int)),v.2.1,v.2.2.2.2)))
def zm4 (Z:Nat) (g0:za3 → Option ((Int × Unit) × Unit)) (g1:zcP → Option ((Int × Unit) × Unit)):zcP → Option ((Int × Unit) × Unit):=zcR Z g0 g1
theorem zyX (Z:Nat) (G):zO.lp (zaa Z) 0 Z G (endX zaC zP) 1 zcQ = iter (zm4 Z (fun v => G 0 (zaq v).1 (zaq v).2)) Z:=C.lp_iter fun g v =>
 (show run (zaa Z) 0 Z (zO.bdAt 1) (zcQ v).1 (zcQ v).2 (loopK 0 (zO.nmAt 1) g (zO.contAt (zaa Z) 0 Z G 0 1 (endX zaC zP))) = zcR Z (fun v => G 0 (zaq v).1 (zaq v).2) (fun v => g (zcQ v).1 (zcQ v).2) v by kernel_rfl)
def zcS (Z:Nat) (X1:zcP → Option ((Int × Unit) × Unit)) (g0:za3 → Option ((Int × Unit) × Unit)) (v:za3):Option ((Int × Unit) × Unit) :=
 cond (decide (v.1 < (zz (List.length v.2.1))))
 (X1 ((0:Int),v.2.1,v.1,(0:Int),v.2.2))
 (some (((v.2.2,()),())))
def zi4 (Z:Nat) (g0:za3 → Option ((Int × Unit) × Unit)):za3 → Option ((Int × Unit) × Unit):=zcS Z (iter (zm4 Z g0) Z) g0
theorem zyY (Z:Nat) (G):zO.lp (zaa Z) 0 Z G (endX zaC zP) 0 zaq = iter (zi4 Z) Z:=C.lp_iter fun g v =>
 (show run (zaa Z) 0 Z (zO.bdAt 0) (zaq v).1 (zaq v).2 (loopK 0 (zO.nmAt 0) g (zO.contAt (zaa Z) 0 Z G 0 0 (endX zaC zP))) = zcS Z (zO.lp (zaa Z) 0 Z (fun m => bif Nat.beq m 0 then g else G m) (endX zaC zP) 1 zcQ) (fun v => g (zaq v).1 (zaq v).2) v by kernel_rfl).trans (by rw [zyX]; rfl)
def zra (Z:Nat) (X0:za3 → Option ((Int × Unit) × Unit)) (x0:LP):Option ((Int × Unit) × Unit) :=
 X0 ((0:Int),x0,(0:Int))
def zi5 (Z:Nat) (z:((LP × Unit) × Unit)):Option ((Int × Unit) × Unit):=zra Z (iter (zi4 Z) Z) z.1.1
theorem zyZ (Z:Nat) (xa:zP.rt.T) (xd:zP.D.T):zP.go (zaa Z) Z zO zaC xa xd = zi5 Z (zP.xb (xa,xd)) :=
 (show zP.go (zaa Z) Z zO zaC xa xd = zra Z (zO.lp (zaa Z) 0 Z (fun _ _ _ => none) (endX zaC zP) 0 zaq) xd.1.1 by kernel_rfl).trans (by rw [zyY]; rfl)
abbrev zrb (Z:Nat):LE:=⟨zP,zi5 Z⟩
theorem zy0 (Z:Nat):EntryOK Tryz.prog 175 (zrb Z).te:=okF (T:=zaa Z) (fn:=Tryz.f175) (le:=zrb Z) (frz:=[]) (ann:=zq9) (cuts:=[]) (rv:=zaC) (TabOK.of (entNil) (methNil)) mixed (by kernel_rfl) (by kernel_rfl) (by kernel_rfl) (fun _ => rfl) (fun _ => rfl) (fun xa xd y h => ⟨Z,(zyZ Z xa xd).trans h⟩)
abbrev zb4:=Option ((LP × Unit) × Unit)
def zfl (Z:Nat):Tab:=Tab.of [] []
def zrc:List Norm:=[{ live:=[6,0,1,5],fix:=[(5,none,KP,true)] }]
noncomputable def zi6:C:=irOf Tryz.prog Tryz.f176 [] zrc []
def zfm:List (Nat × Option (Nat × Bool)):=[(4,none)]
abbrev zy1:Sx:=.grp (.dat (Kd.list KP) .nil) (.grp (.dat I6 .nil) .nil)
abbrev zy2:Sx:=.grp (.own 0 KP .nil) .nil
abbrev za4:LF:=.pure zy1 zy2 true
abbrev zcT:=(Int) × LP × (Int) × LP
def zrd (v:zcT):Env × Heap:=([(6,SV.int .i64 v.1),(0,SV.es KP v.2.1),(1,SV.int .i64 v.2.2.1),(5,SV.own 0)],[Blk.arr KP v.2.2.2 0])
def zfn (Z:Nat) (g0:zcT → zb4) (v:zcT):zb4 :=
 cond (decide (v.1 < (zz (List.length v.2.1))))
 (tst (decide (0 ≤ v.1)) <|
 tst (decide (v.1 < (zz (List.length v.2.1)))) <|
 cond (decide ((List.getD v.2.1 (Int.toNat v.1) (0,(0,()))).2.1 > v.2.2.1))
 (tst (decide (0 ≤ v.1)) <|
 tst (decide (v.1 < (zz (List.length v.2.1)))) <|
 tst (decide (0 ≤ v.1)) <|
 tst (decide (v.1 < (zz (List.length v.2.1)))) <|
 tst (decide (List.length v.2.2.2 + 1 < LIM)) <|
 g0 (w64 (v.1 + (1:Int)),v.2.1,v.2.2.1,v.2.2.2 ++ [((List.getD v.2.1 (Int.toNat v.1) (0,(0,()))).1,w64 ((List.getD v.2.1 (Int.toNat v.1) (0,(0,()))).2.1 - v.2.2.1),())]))
 (g0 (w64 (v.1 + (1:Int)),v.2.1,v.2.2.1,v.2.2.2)))
 (some (((v.2.2.2,()),())))
def zfo (Z:Nat) (g0:zcT → zb4):zcT → zb4:=zfn Z g0
theorem zy3 (Z:Nat) (G):zi6.lp (zfl Z) 0 Z G (endX zfm za4) 0 zrd = iter (zfo Z) Z:=C.lp_iter fun g v => by kernel_rfl
def zre (Z:Nat) (X0:zcT → zb4) (x0:LP) (x1:Int):zb4 :=
 X0 ((0:Int),x0,x1,[])
def zi7 (Z:Nat) (z:((LP × Unit) × ((Int × Unit) × Unit))):zb4:=zre Z (iter (zfo Z) Z) z.1.1 z.2.1.1
theorem zy4 (Z:Nat) (xa:za4.rt.T) (xd:za4.D.T):za4.go (zfl Z) Z zi6 zfm xa xd = zi7 Z (za4.xb (xa,xd)) :=
 (show za4.go (zfl Z) Z zi6 zfm xa xd = zre Z (zi6.lp (zfl Z) 0 Z (fun _ _ _ => none) (endX zfm za4) 0 zrd) xd.1.1 xd.2.1.1 by kernel_rfl).trans (by rw [zy3]; rfl)
abbrev zrf (Z:Nat):LE:=⟨za4,zi7 Z⟩
theorem zy5 (Z:Nat):EntryOK Tryz.prog 176 (zrf Z).te:=okF (T:=zfl Z) (fn:=Tryz.f176) (le:=zrf Z) (frz:=[]) (ann:=zrc) (cuts:=[]) (rv:=zfm) (TabOK.of (entNil) (methNil)) mixed (by kernel_rfl) (by kernel_rfl) (by kernel_rfl) (fun _ => rfl) (fun _ => rfl) (fun xa xd y h => ⟨Z,(zy4 Z xa xd).trans h⟩)
def zm5 (Z:Nat) (x0:LP) (x1:Int) (x2:Int):Option ((LP × (Int × (Int × Unit))) × Unit) :=
 Option.bind (zi5 Z ((x0,()),())) fun y_1 =>
 Option.bind (zi7 Z ((x0,()),(y_1.1.1,()),())) fun y_2 =>
 some (((y_2.1.1,w64 (x1 + y_1.1.1),x2,()),()))
def zm6 (Z:Nat) (z:((LP × (Int × (Int × Unit))) × Unit)):Option ((LP × (Int × (Int × Unit))) × Unit):=zm5 Z z.1.1 z.1.2.1 z.1.2.2.1
abbrev zy6 (Z:Nat):LE:=⟨.pure (.agg (.dat (Kd.list KP) (.dat I6 (.dat I6 .nil))) .nil) (.agg (.own 0 KP (.dat I6 (.dat I6 .nil))) .nil) true,zm6 Z⟩
theorem zy7 (Z:Nat):EntryOK Tryz.prog 149 (zy6 Z).te:=okS (fn:=Tryz.f149) (frz:=[]) (ann:=[]) (cuts:=[]) (rv:=[(2,some (3,true))]) Z (TabOK.of (entCons (zy0 Z) (entCons (zy5 Z) entNil)) (methNil)) mixed (by kernel_rfl) (by kernel_rfl) (by kernel_rfl) (fun _ => rfl) (fun _ => rfl) (fun _ _ => by kernel_rfl)
def zm7 (Z:Nat) (x0:LP) (x1:Int) (x2:Int) (x3:Int):Option ((LP × (Int × (Int × Unit))) × ((Bool × Unit) × Unit)) :=
 Option.bind (ze8 Z ((x0,x1,x2,()),())) fun y_1 =>
 cond (!y_1.1.1)
 (some ((([],(0:Int),(0:Int),()),(false,()),())))
 (Option.bind (zf Z ((x3,()),((0:Int),()),((63:Int),()),())) fun y_3 =>
 cond (!y_3.1.1)
 (some ((([],(0:Int),(0:Int),()),(false,()),())))
 (cond (decide (x2 ≥ (2000:Int)))
 (some ((([],(0:Int),(0:Int),()),(false,()),())))
 (Option.bind (zi3 Z ((x0,()),(x3,(1:Int),()),())) fun y_6 =>
 Option.bind (zm6 Z ((y_6.1.1,x1,w64 (x2 + (1:Int)),()),())) fun y_7 =>
 some (((y_7.1.1,y_7.1.2.1,y_7.1.2.2.1,()),(true,()),())))))
def zm8 (Z:Nat) (z:((LP × (Int × (Int × Unit))) × ((Int × Unit) × Unit))):Option ((LP × (Int × (Int × Unit))) × ((Bool × Unit) × Unit)):=zm7 Z z.1.1 z.1.2.1 z.1.2.2.1 z.2.1.1
abbrev zy8 (Z:Nat):LE:=⟨.pure (.agg (.dat (Kd.list KP) (.dat I6 (.dat I6 .nil))) (.grp (.dat I6 .nil) .nil)) (.agg (.own 0 KP (.dat I6 (.dat I6 .nil))) (.grp (.dat Kd.bool .nil) .nil)) true,zm8 Z⟩
theorem zy9 (Z:Nat):EntryOK Tryz.prog 203 (zy8 Z).te:=okS (fn:=Tryz.f203) (frz:=[]) (ann:=[]) (cuts:=[]) (rv:=[(4,some (3,true)),(5,none)]) Z (TabOK.of (entCons (zx Z) (entCons (zqQ Z) (entCons (zyU Z) (entCons (zy7 Z) entNil)))) (methNil)) mixed (by kernel_rfl) (by kernel_rfl) (by kernel_rfl) (fun _ => rfl) (fun _ => rfl) (fun _ _ => by kernel_rfl)
abbrev zb5:=Option (((List Int) × Unit) × Unit)
def zfp (Z:Nat):Tab:=Tab.of [] []
def zrg:List Norm:=[⟨[4,0,3],[],[],[]⟩]
noncomputable def zi8:C:=irOf Tryz.prog Tryz.f150 [] zrg []
def zfq:List (Nat × Option (Nat × Bool)):=[(2,none)]
abbrev zza:Sx:=.grp (.dat (Kd.list KP) .nil) .nil
abbrev zzb:Sx:=.grp (.own 0 I6 .nil) .nil
abbrev za5:LF:=.pure zza zzb true
abbrev zcU:=(Int) × LP × (List Int)
def zrh (v:zcU):Env × Heap:=([(4,SV.int .i64 v.1),(0,SV.es KP v.2.1),(3,SV.own 0)],[Blk.arr I6 v.2.2 0])
def zfr (Z:Nat) (g0:zcU → zb5) (v:zcU):zb5 :=
 cond (decide (v.1 < (zz (List.length v.2.1))))
 (tst (decide (0 ≤ v.1)) <|
 tst (decide (v.1 < (zz (List.length v.2.1)))) <|
 tst (decide (0 ≤ v.1)) <|
 tst (decide (v.1 < (zz (List.length v.2.1)))) <|
 tst (decide (0 ≤ (List.getD v.2.1 (Int.toNat v.1) (0,(0,()))).1)) <|
 tst (decide ((List.getD v.2.1 (Int.toNat v.1) (0,(0,()))).1 < (zz (List.length v.2.2)))) <|
 tst (decide (Int.toNat (List.getD v.2.1 (Int.toNat v.1) (0,(0,()))).1 < List.length v.2.2)) <|
 tst (decide (0 ≤ v.1)) <|
 tst (decide (v.1 < (zz (List.length v.2.1)))) <|
 tst (decide (0 ≤ (List.getD v.2.1 (Int.toNat v.1) (0,(0,()))).1)) <|
 tst (decide ((List.getD v.2.1 (Int.toNat v.1) (0,(0,()))).1 < (zz (List.length v.2.2)))) <|
 tst (decide (Int.toNat (List.getD v.2.1 (Int.toNat v.1) (0,(0,()))).1 < List.length v.2.2)) <|
 g0 (w64 (v.1 + (1:Int)),v.2.1,List.set v.2.2 (Int.toNat (List.getD v.2.1 (Int.toNat v.1) (0,(0,()))).1) (w64 (List.getD v.2.2 (Int.toNat (List.getD v.2.1 (Int.toNat v.1) (0,(0,()))).1) 0 + (List.getD v.2.1 (Int.toNat v.1) (0,(0,()))).2.1))))
 (some (((v.2.2,()),())))
def zi9 (Z:Nat) (g0:zcU → zb5):zcU → zb5:=zfr Z g0
theorem zzc (Z:Nat) (G):zi8.lp (zfp Z) 0 Z G (endX zfq za5) 0 zrh = iter (zi9 Z) Z:=C.lp_iter fun g v => by kernel_rfl
def zm9 (Z:Nat) (X0:zcU → zb5) (x0:LP):zb5 :=
 X0 ((0:Int),x0,List.replicate (Int.toNat (128:Int)) 0)
def zfs (Z:Nat) (z:((LP × Unit) × Unit)):zb5:=zm9 Z (iter (zi9 Z) Z) z.1.1
theorem zzd (Z:Nat) (xa:za5.rt.T) (xd:za5.D.T):za5.go (zfp Z) Z zi8 zfq xa xd = zfs Z (za5.xb (xa,xd)) :=
 (show za5.go (zfp Z) Z zi8 zfq xa xd = zm9 Z (zi8.lp (zfp Z) 0 Z (fun _ _ _ => none) (endX zfq za5) 0 zrh) xd.1.1 by kernel_rfl).trans (by rw [zzc]; rfl)
abbrev zri (Z:Nat):LE:=⟨za5,zfs Z⟩
theorem zze (Z:Nat):EntryOK Tryz.prog 150 (zri Z).te:=okF (T:=zfp Z) (fn:=Tryz.f150) (le:=zri Z) (frz:=[]) (ann:=zrg) (cuts:=[]) (rv:=zfq) (TabOK.of (entNil) (methNil)) mixed (by kernel_rfl) (by kernel_rfl) (by kernel_rfl) (fun _ => rfl) (fun _ => rfl) (fun xa xd y h => ⟨Z,(zzd Z xa xd).trans h⟩)
abbrev zb6:=Option ((LP × Unit) × Unit)
def zft (Z:Nat):Tab:=Tab.of [] []
def zrj:List Norm:=[{ live:=[4,0,3],fix:=[(3,none,KP,true)] }]
noncomputable def zja:C:=irOf Tryz.prog Tryz.f151 [] zrj []
def zfu:List (Nat × Option (Nat × Bool)):=[(2,none)]
abbrev zzf:Sx:=.grp (.dat (Kd.list I6) .nil) .nil
abbrev zzg:Sx:=.grp (.own 0 KP .nil) .nil
abbrev za6:LF:=.pure zzf zzg true
abbrev zcV:=(Int) × (List Int) × LP
def zrk (v:zcV):Env × Heap:=([(4,SV.int .i64 v.1),(0,SV.es I6 v.2.1),(3,SV.own 0)],[Blk.arr KP v.2.2 0])
def zfv (Z:Nat) (g0:zcV → zb6) (v:zcV):zb6 :=
 cond (decide (v.1 < (zz (List.length v.2.1))))
 (tst (decide (0 ≤ v.1)) <|
 tst (decide (v.1 < (zz (List.length v.2.1)))) <|
 cond (decide (List.getD v.2.1 (Int.toNat v.1) 0 > (0:Int)))
 (tst (decide (0 ≤ v.1)) <|
 tst (decide (v.1 < (zz (List.length v.2.1)))) <|
 tst (decide (List.length v.2.2 + 1 < LIM)) <|
 g0 (w64 (v.1 + (1:Int)),v.2.1,v.2.2 ++ [(v.1,List.getD v.2.1 (Int.toNat v.1) 0,())]))
 (g0 (w64 (v.1 + (1:Int)),v.2.1,v.2.2)))
 (some (((v.2.2,()),())))
def zjb (Z:Nat) (g0:zcV → zb6):zcV → zb6:=zfv Z g0
theorem zzh (Z:Nat) (G):zja.lp (zft Z) 0 Z G (endX zfu za6) 0 zrk = iter (zjb Z) Z:=C.lp_iter fun g v => by kernel_rfl
def zna (Z:Nat) (X0:zcV → zb6) (x0:List Int):zb6 :=
 X0 ((1:Int),x0,[])
def zfw (Z:Nat) (z:(((List Int) × Unit) × Unit)):zb6:=zna Z (iter (zjb Z) Z) z.1.1
theorem zzi (Z:Nat) (xa:za6.rt.T) (xd:za6.D.T):za6.go (zft Z) Z zja zfu xa xd = zfw Z (za6.xb (xa,xd)) :=
 (show za6.go (zft Z) Z zja zfu xa xd = zna Z (zja.lp (zft Z) 0 Z (fun _ _ _ => none) (endX zfu za6) 0 zrk) xd.1.1 by kernel_rfl).trans (by rw [zzh]; rfl)
abbrev zrl (Z:Nat):LE:=⟨za6,zfw Z⟩
theorem zzj (Z:Nat):EntryOK Tryz.prog 151 (zrl Z).te:=okF (T:=zft Z) (fn:=Tryz.f151) (le:=zrl Z) (frz:=[]) (ann:=zrj) (cuts:=[]) (rv:=zfu) (TabOK.of (entNil) (methNil)) mixed (by kernel_rfl) (by kernel_rfl) (by kernel_rfl) (fun _ => rfl) (fun _ => rfl) (fun xa xd y h => ⟨Z,(zzi Z xa xd).trans h⟩)
def zfx (Z:Nat):Tab:=Tab.of [] []
def zrm:List Norm:=[⟨[5,0,1],[],[],[]⟩]
noncomputable def zjc:C:=irOf Tryz.prog Tryz.f152 [] zrm []
def zfy:List (Nat × Option (Nat × Bool)):=[(4,none)]
abbrev zzk:Sx:=.grp (.dat I6 .nil) .nil
abbrev zzl:Sx:=.nil
abbrev za7:LF:=.slc I6 zzk zzl true
abbrev zcW:=(Int) × (Int) × (List Int)
def zrn (v:zcW):Env × Heap:=([(5,SV.int .i64 v.1),(0,SV.own 0),(1,SV.int .i64 v.2.1)],[Blk.arr I6 v.2.2 0])
def zfz (Z:Nat) (g0:zcW → Option ((List Int) × Unit)) (v:zcW):Option ((List Int) × Unit) :=
 cond (decide (v.1 ≥ (2:Int)))
 (tst (decide (0 ≤ v.1)) <|
 tst (decide (v.1 < (zz (List.length v.2.2)))) <|
 tst (decide (Int.toNat v.1 < List.length v.2.2)) <|
 tst (decide (0 ≤ w64 (v.1 + (1:Int)))) <|
 tst (decide (w64 (v.1 + (1:Int)) < (zz (List.length v.2.2)))) <|
 tst (decide (Int.toNat (w64 (v.1 + (1:Int))) < List.length v.2.2)) <|
 cond (decide (w64 (List.getD v.2.2 (Int.toNat v.1) 0 + List.getD v.2.2 (Int.toNat (w64 (v.1 + (1:Int)))) 0) > (0:Int)))
 (tst (decide (0 ≤ w64 (Int.tdiv v.1 (2:Int)))) <|
 tst (decide (w64 (Int.tdiv v.1 (2:Int)) < (zz (List.length v.2.2)))) <|
 tst (decide (Int.toNat (w64 (Int.tdiv v.1 (2:Int))) < List.length v.2.2)) <|
 cond (decide (w64 (w64 (List.getD v.2.2 (Int.toNat v.1) 0 + List.getD v.2.2 (Int.toNat (w64 (v.1 + (1:Int)))) 0) + List.getD v.2.2 (Int.toNat (w64 (Int.tdiv v.1 (2:Int)))) 0) ≤ w64 (Int.tdiv v.2.1 (8:Int))))
 (tst (decide (0 ≤ w64 (Int.tdiv v.1 (2:Int)))) <|
 tst (decide (w64 (Int.tdiv v.1 (2:Int)) < (zz (List.length v.2.2)))) <|
 tst (decide (Int.toNat (w64 (Int.tdiv v.1 (2:Int))) < List.length v.2.2)) <|
 tst (decide (0 ≤ w64 (Int.tdiv v.1 (2:Int)))) <|
 tst (decide (w64 (Int.tdiv v.1 (2:Int)) < (zz (List.length v.2.2)))) <|
 tst (decide (Int.toNat (w64 (Int.tdiv v.1 (2:Int))) < List.length v.2.2)) <|
 tst (decide (0 ≤ v.1)) <|
 tst (decide (v.1 < (zz (List.length (List.set v.2.2 (Int.toNat (w64 (Int.tdiv v.1 (2:Int)))) (w64 (List.getD v.2.2 (Int.toNat (w64 (Int.tdiv v.1 (2:Int)))) 0 + w64 (List.getD v.2.2 (Int.toNat v.1) 0 + List.getD v.2.2 (Int.toNat (w64 (v.1 + (1:Int)))) 0)))))))) <|
 tst (decide (Int.toNat v.1 < List.length (List.set v.2.2 (Int.toNat (w64 (Int.tdiv v.1 (2:Int)))) (w64 (List.getD v.2.2 (Int.toNat (w64 (Int.tdiv v.1 (2:Int)))) 0 + w64 (List.getD v.2.2 (Int.toNat v.1) 0 + List.getD v.2.2 (Int.toNat (w64 (v.1 + (1:Int)))) 0)))))) <|
 tst (decide (0 ≤ w64 (v.1 + (1:Int)))) <|
 tst (decide (w64 (v.1 + (1:Int)) < (zz (List.length (List.set (List.set v.2.2 (Int.toNat (w64 (Int.tdiv v.1 (2:Int)))) (w64 (List.getD v.2.2 (Int.toNat (w64 (Int.tdiv v.1 (2:Int)))) 0 + w64 (List.getD v.2.2 (Int.toNat v.1) 0 + List.getD v.2.2 (Int.toNat (w64 (v.1 + (1:Int)))) 0)))) (Int.toNat v.1) (0:Int)))))) <|
 tst (decide (Int.toNat (w64 (v.1 + (1:Int))) < List.length (List.set (List.set v.2.2 (Int.toNat (w64 (Int.tdiv v.1 (2:Int)))) (w64 (List.getD v.2.2 (Int.toNat (w64 (Int.tdiv v.1 (2:Int)))) 0 + w64 (List.getD v.2.2 (Int.toNat v.1) 0 + List.getD v.2.2 (Int.toNat (w64 (v.1 + (1:Int)))) 0)))) (Int.toNat v.1) (0:Int)))) <|
 g0 (w64 (v.1 - (2:Int)),v.2.1,List.set (List.set (List.set v.2.2 (Int.toNat (w64 (Int.tdiv v.1 (2:Int)))) (w64 (List.getD v.2.2 (Int.toNat (w64 (Int.tdiv v.1 (2:Int)))) 0 + w64 (List.getD v.2.2 (Int.toNat v.1) 0 + List.getD v.2.2 (Int.toNat (w64 (v.1 + (1:Int)))) 0)))) (Int.toNat v.1) (0:Int)) (Int.toNat (w64 (v.1 + (1:Int)))) (0:Int)))
 (g0 (w64 (v.1 - (2:Int)),v.2.1,v.2.2)))
 (g0 (w64 (v.1 - (2:Int)),v.2.1,v.2.2)))
 (some ((v.2.2,())))
def zjd (Z:Nat) (g0:zcW → Option ((List Int) × Unit)):zcW → Option ((List Int) × Unit):=zfz Z g0
theorem zzm (Z:Nat) (G):zjc.lp (zfx Z) 1 Z G (endX zfy za7) 0 zrn = iter (zjd Z) Z:=C.lp_iter fun g v => by kernel_rfl
def znb (Z:Nat) (X0:zcW → Option ((List Int) × Unit)) (d0:List Int) (x0:Int):Option ((List Int) × Unit) :=
 X0 (w64 ((zz (List.length d0)) - (2:Int)),x0,d0)
def zfA (Z:Nat) (z:((List Int) × (Unit × ((Int × Unit) × Unit)))):Option ((List Int) × Unit):=znb Z (iter (zjd Z) Z) z.1 z.2.2.1.1
theorem zzn (Z:Nat) (xa:za7.rt.T) (xd:za7.D.T):za7.go (zfx Z) Z zjc zfy xa xd = zfA Z (za7.xb (xa,xd)) :=
 (show za7.go (zfx Z) Z zjc zfy xa xd = znb Z (zjc.lp (zfx Z) 1 Z (fun _ _ _ => none) (endX zfy za7) 0 zrn) xa xd.1.1 by kernel_rfl).trans (by rw [zzm]; rfl)
abbrev zro (Z:Nat):LE:=⟨za7,zfA Z⟩
theorem zzo (Z:Nat):EntryOK Tryz.prog 152 (zro Z).te:=okF (T:=zfx Z) (fn:=Tryz.f152) (le:=zro Z) (frz:=[]) (ann:=zrm) (cuts:=[]) (rv:=zfy) (TabOK.of (entNil) (methNil)) mixed (by kernel_rfl) (by kernel_rfl) (by kernel_rfl) (fun _ => rfl) (fun _ => rfl) (fun xa xd y h => ⟨Z,(zzn Z xa xd).trans h⟩)
def zrp (Z:Nat) (x0:LP) (x1:Int) (x2:Int):Option ((LP × (Int × Unit)) × ((Bool × Unit) × Unit)) :=
 Option.bind (zcM Z ((x0,x1,()),())) fun y_1 =>
 cond (!y_1.1.1)
 (some ((([],(0:Int),()),(false,()),())))
 (Option.bind (zf Z ((x2,()),((0:Int),()),((63:Int),()),())) fun y_3 =>
 cond (!y_3.1.1)
 (some ((([],(0:Int),()),(false,()),())))
 (cond (decide (x1 ≥ (2000:Int)))
 (some ((([],(0:Int),()),(false,()),())))
 (Option.bind (zfs Z ((x0,()),())) fun y_6 =>
 tst (decide (0 ≤ w64 ((64:Int) + x2))) <|
 tst (decide (w64 ((64:Int) + x2) < (zz (List.length y_6.1.1)))) <|
 tst (decide (Int.toNat (w64 ((64:Int) + x2)) < List.length y_6.1.1)) <|
 tst (decide (0 ≤ w64 ((64:Int) + x2))) <|
 tst (decide (w64 ((64:Int) + x2) < (zz (List.length y_6.1.1)))) <|
 tst (decide (Int.toNat (w64 ((64:Int) + x2)) < List.length y_6.1.1)) <|
 Option.bind (zfA Z (List.set y_6.1.1 (Int.toNat (w64 ((64:Int) + x2))) (w64 (List.getD y_6.1.1 (Int.toNat (w64 ((64:Int) + x2))) 0 + (1:Int))),(),(w64 (x1 + (1:Int)),()),())) fun y_7 =>
 Option.bind (zfw Z ((y_7.1,()),())) fun y_8 =>
 some (((y_8.1.1,w64 (x1 + (1:Int)),()),(true,()),())))))
def zfB (Z:Nat) (z:((LP × (Int × Unit)) × ((Int × Unit) × Unit))):Option ((LP × (Int × Unit)) × ((Bool × Unit) × Unit)):=zrp Z z.1.1 z.1.2.1 z.2.1.1
abbrev zzp (Z:Nat):LE:=⟨.pure (.agg (.dat (Kd.list KP) (.dat I6 .nil)) (.grp (.dat I6 .nil) .nil)) (.agg (.own 0 KP (.dat I6 .nil)) (.grp (.dat Kd.bool .nil) .nil)) true,zfB Z⟩
theorem zzq (Z:Nat):EntryOK Tryz.prog 204 (zzp Z).te:=okS (fn:=Tryz.f204) (frz:=[41]) (ann:=[]) (cuts:=[]) (rv:=[(4,some (2,true)),(5,none)]) Z (TabOK.of (entCons (zx Z) (entCons (zqU Z) (entCons (zze Z) (entCons (zzj Z) (entCons (zzo Z) entNil))))) (methNil)) mixed (by kernel_rfl) (by kernel_rfl) (by kernel_rfl) (fun _ => rfl) (fun _ => rfl) (fun _ _ => by kernel_rfl)
def znc (Z:Nat) (x0:List (List Int)) (x1:List Int) (x2:LP) (x3:Int) (x4:Int) (x5:LP) (x6:Int) (x7:Int):Option (SumY × ((Bool × Unit) × Unit)) :=
 Option.bind (ziZ Z ((x0,x1,x2,x3,x4,x5,x6,()),())) fun y_1 =>
 cond (!y_1.1.1)
 (some ((([],[],[],(0:Int),(0:Int),[],(0:Int),()),(false,()),())))
 (Option.bind (zf Z ((x7,()),((0:Int),()),((63:Int),()),())) fun y_3 =>
 cond (!y_3.1.1)
 (some ((([],[],[],(0:Int),(0:Int),[],(0:Int),()),(false,()),())))
 (cond (decide (x4 ≥ (2000:Int)))
 (some ((([],[],[],(0:Int),(0:Int),[],(0:Int),()),(false,()),())))
 (Option.bind (zmZ Z ((x0,()),(x7,()),((1:Int),()),())) fun y_6 =>
 Option.bind (zm3 Z ((x1,()),(x7,()),())) fun y_7 =>
 Option.bind (zm8 Z ((x2,x3,x4,()),(x7,()),())) fun y_8 =>
 Option.bind (zfB Z ((x5,x6,()),(x7,()),())) fun y_9 =>
 some (((y_6.1.1,y_7.1.1,y_8.1.1,y_8.1.2.1,y_8.1.2.2.1,y_9.1.1,y_9.1.2.1,()),(true,()),())))))
def zcX (Z:Nat) (z:(SumY × ((Int × Unit) × Unit))):Option (SumY × ((Bool × Unit) × Unit)):=znc Z z.1.1 z.1.2.1 z.1.2.2.1 z.1.2.2.2.1 z.1.2.2.2.2.1 z.1.2.2.2.2.2.1 z.1.2.2.2.2.2.2.1 z.2.1.1
abbrev zrq (Z:Nat):LE:=⟨.pure (.agg (.dat (Kd.list (Kd.list I6)) (.dat (Kd.list I6) (.dat (Kd.list KP) (.dat I6 (.dat I6 (.dat (Kd.list KP) (.dat I6 .nil))))))) (.grp (.dat I6 .nil) .nil)) (.agg (.dat (Kd.list (Kd.list I6)) (.dat (Kd.list I6) (.dat (Kd.list KP) (.dat I6 (.dat I6 (.dat (Kd.list KP) (.dat I6 .nil))))))) (.grp (.dat Kd.bool .nil) .nil)) false,zcX Z⟩
theorem zzr (Z:Nat):EntryOK Tryz.prog 187 (zrq Z).te:=okS (fn:=Tryz.f187) (frz:=[]) (ann:=[]) (cuts:=[]) (rv:=[(4,some (7,true)),(5,none)]) Z (TabOK.of (entCons (zx Z) (entCons (zys Z) (entCons (zyG Z) (entCons (zyP Z) (entCons (zy9 Z) (entCons (zzq Z) entNil)))))) (methNil)) mixed (by kernel_rfl) (by kernel_rfl) (by kernel_rfl) (fun _ => rfl) (fun _ => rfl) (fun _ _ => by kernel_rfl)
abbrev zb7:=Option (SumY × ((Bool × Unit) × Unit))
def zfC (Z:Nat):Tab:=Tab.of [(80,(zqW Z).te),(187,(zrq Z).te)] []
def zrr:List Norm:=[⟨[5,0,4,2],[],[],[]⟩]
noncomputable def zje:C:=irOf Tryz.prog Tryz.f164 [] zrr []
def zfD:List (Nat × Option (Nat × Bool)):=[(2,some (7,true)),(3,none)]
abbrev zzs:Sx:=.grp (.dat (Kd.list I6) .nil) .nil
abbrev zzt:Sx:=.agg (.dat (Kd.list (Kd.list I6)) (.dat (Kd.list I6) (.dat (Kd.list KP) (.dat I6 (.dat I6 (.dat (Kd.list KP) (.dat I6 .nil))))))) (.grp (.dat Kd.bool .nil) .nil)
abbrev za8:LF:=.pure zzs zzt false
abbrev zcY:=(Int) × (List Int) × (List (List Int)) × (List Int) × LP × (Int) × (Int) × LP × (Int) × (Int) × (Int) × (Int)
def zrs (v:zcY):Env × Heap:=([(5,SV.int .i64 v.1),(0,SV.es I6 v.2.1),(4,SV.ptr 0 0),(2,SV.ptr 1 0)],[Blk.cells [SV.es (Kd.list I6) v.2.2.1,SV.es I6 v.2.2.2.1,SV.es KP v.2.2.2.2.1,SV.int .i64 v.2.2.2.2.2.1,SV.int .i64 v.2.2.2.2.2.2.1,SV.es KP v.2.2.2.2.2.2.2.1,SV.int .i64 v.2.2.2.2.2.2.2.2.1] 0 7,Blk.cells [SV.nils,SV.nils,SV.nils,SV.int .i64 v.2.2.2.2.2.2.2.2.2.1,SV.int .i64 v.2.2.2.2.2.2.2.2.2.2.1,SV.nils,SV.int .i64 v.2.2.2.2.2.2.2.2.2.2.2] 0 7])
def zfE (Z:Nat) (g0:zcY → zb7) (v:zcY):zb7 :=
 cond (decide (v.1 < (zz (List.length v.2.1))))
 (tst (decide (0 ≤ v.1)) <|
 tst (decide (v.1 < (zz (List.length v.2.1)))) <|
 Option.bind (zcX Z ((v.2.2.1,v.2.2.2.1,v.2.2.2.2.1,v.2.2.2.2.2.1,v.2.2.2.2.2.2.1,v.2.2.2.2.2.2.2.1,v.2.2.2.2.2.2.2.2.1,()),(List.getD v.2.1 (Int.toNat v.1) 0,()),())) fun y_2 =>
 cond (!y_2.2.1.1)
 (some ((([],[],[],(0:Int),(0:Int),[],(0:Int),()),(false,()),())))
 (g0 (w64 (v.1 + (1:Int)),v.2.1,y_2.1.1,y_2.1.2.1,y_2.1.2.2.1,y_2.1.2.2.2.1,y_2.1.2.2.2.2.1,y_2.1.2.2.2.2.2.1,y_2.1.2.2.2.2.2.2.1,v.2.2.2.2.2.2.2.2.2.1,v.2.2.2.2.2.2.2.2.2.2.1,v.2.2.2.2.2.2.2.2.2.2.2)))
 (some (((v.2.2.1,v.2.2.2.1,v.2.2.2.2.1,v.2.2.2.2.2.1,v.2.2.2.2.2.2.1,v.2.2.2.2.2.2.2.1,v.2.2.2.2.2.2.2.2.1,()),(true,()),())))
def zjf (Z:Nat) (g0:zcY → zb7):zcY → zb7:=zfE Z g0
theorem zzu (Z:Nat) (G):zje.lp (zfC Z) 0 Z G (endX zfD za8) 0 zrs = iter (zjf Z) Z:=C.lp_iter fun g v => by kernel_rfl
def zjg (Z:Nat) (X0:zcY → zb7) (x0:List Int):zb7 :=
 Option.bind (zmU Z ()) fun y_1 =>
 X0 ((0:Int),x0,y_1.1.1,y_1.1.2.1,y_1.1.2.2.1,y_1.1.2.2.2.1,y_1.1.2.2.2.2.1,y_1.1.2.2.2.2.2.1,y_1.1.2.2.2.2.2.2.1,(0:Int),(0:Int),(0:Int))
def zjh (Z:Nat) (z:(((List Int) × Unit) × Unit)):zb7:=zjg Z (iter (zjf Z) Z) z.1.1
theorem zzv (Z:Nat) (xa:za8.rt.T) (xd:za8.D.T):za8.go (zfC Z) Z zje zfD xa xd = zjh Z (za8.xb (xa,xd)) :=
 (show za8.go (zfC Z) Z zje zfD xa xd = zjg Z (zje.lp (zfC Z) 0 Z (fun _ _ _ => none) (endX zfD za8) 0 zrs) xd.1.1 by kernel_rfl).trans (by rw [zzu]; rfl)
abbrev zrt (Z:Nat):LE:=⟨za8,zjh Z⟩
theorem zzw (Z:Nat):EntryOK Tryz.prog 164 (zrt Z).te:=okF (T:=zfC Z) (fn:=Tryz.f164) (le:=zrt Z) (frz:=[]) (ann:=zrr) (cuts:=[]) (rv:=zfD) (TabOK.of (entCons (zyx Z) (entCons (zzr Z) entNil)) (methNil)) mixed (by kernel_rfl) (by kernel_rfl) (by kernel_rfl) (fun _ => rfl) (fun _ => rfl) (fun xa xd y h => ⟨Z,(zzv Z xa xd).trans h⟩)
end Go.Proofs.YtljojacnjjgceaaGreat.Den
namespace Go.Proofs.YtljojacnjjgceaaGreat.Den
open Go Go.RowKit
abbrev zb8:=Option ((Int × (Int × (Int × SumY))) × ((Bool × Unit) × Unit))
def zfF (Z:Nat):Tab:=Tab.of [] []
def zru:List Norm:=[⟨[6,2,1,4],[],[],[]⟩]
noncomputable def zji:C:=irOf Tryz.prog Tryz.f103 [] zru []
def zfG:List (Nat × Option (Nat × Bool)):=[(4,some (10,true)),(5,none)]
abbrev zzx:Sx:=.agg (.dat I6 (.dat (Kd.list KE) (.dat I6 (.dat I6 (.dat I6 .nil))))) (.grp (.dat I6 .nil) .nil)
abbrev zzy:Sx:=.agg (.dat I6 (.dat I6 (.dat I6 (.dat (Kd.list (Kd.list I6)) (.dat (Kd.list I6) (.dat (Kd.list KP) (.dat I6 (.dat I6 (.dat (Kd.list KP) (.dat I6 .nil)))))))))) (.grp (.dat Kd.bool .nil) .nil)
abbrev za9:LF:=.pure zzx zzy false
abbrev zcZ:=(Int) × (Int) × (Int) × (List EY) × (Int) × (Int) × (Int) × (Int) × (Int) × (Int) × (Int) × (Int) × (Int)
def zrv (v:zcZ):Env × Heap:=([(6,SV.int .i64 v.1),(2,SV.ptr 0 0),(1,SV.int .i64 v.2.1),(4,SV.ptr 1 0)],[Blk.cells [SV.int .i64 v.2.2.1,SV.es KE v.2.2.2.1,SV.int .i64 v.2.2.2.2.1,SV.int .i64 v.2.2.2.2.2.1,SV.int .i64 v.2.2.2.2.2.2.1] 0 5,Blk.cells [SV.int .i64 v.2.2.2.2.2.2.2.1,SV.int .i64 v.2.2.2.2.2.2.2.2.1,SV.int .i64 v.2.2.2.2.2.2.2.2.2.1,SV.nils,SV.nils,SV.nils,SV.int .i64 v.2.2.2.2.2.2.2.2.2.2.1,SV.int .i64 v.2.2.2.2.2.2.2.2.2.2.2.1,SV.nils,SV.int .i64 v.2.2.2.2.2.2.2.2.2.2.2.2] 0 10])
def zfH (Z:Nat) (g0:zcZ → zb8) (v:zcZ):zb8 :=
 cond (decide (v.1 < (zz (List.length v.2.2.2.1))))
 (tst (decide (0 ≤ v.1)) <|
 tst (decide (v.1 < (zz (List.length v.2.2.2.1)))) <|
 cond ((List.getD v.2.2.2.1 (Int.toNat v.1) (0,(0,(0,((([],()),(([],()),(([],(0,(0,()))),(([],(0,())),())))),()))))).1 == v.2.1)
 (tst (decide (0 ≤ v.1)) <|
 tst (decide (v.1 < (zz (List.length v.2.2.2.1)))) <|
 some ((((List.getD v.2.2.2.1 (Int.toNat v.1) (0,(0,(0,((([],()),(([],()),(([],(0,(0,()))),(([],(0,())),())))),()))))).1,(List.getD v.2.2.2.1 (Int.toNat v.1) (0,(0,(0,((([],()),(([],()),(([],(0,(0,()))),(([],(0,())),())))),()))))).2.1,(List.getD v.2.2.2.1 (Int.toNat v.1) (0,(0,(0,((([],()),(([],()),(([],(0,(0,()))),(([],(0,())),())))),()))))).2.2.1,(List.getD v.2.2.2.1 (Int.toNat v.1) (0,(0,(0,((([],()),(([],()),(([],(0,(0,()))),(([],(0,())),())))),()))))).2.2.2.1.1.1,(List.getD v.2.2.2.1 (Int.toNat v.1) (0,(0,(0,((([],()),(([],()),(([],(0,(0,()))),(([],(0,())),())))),()))))).2.2.2.1.2.1.1,(List.getD v.2.2.2.1 (Int.toNat v.1) (0,(0,(0,((([],()),(([],()),(([],(0,(0,()))),(([],(0,())),())))),()))))).2.2.2.1.2.2.1.1,(List.getD v.2.2.2.1 (Int.toNat v.1) (0,(0,(0,((([],()),(([],()),(([],(0,(0,()))),(([],(0,())),())))),()))))).2.2.2.1.2.2.1.2.1,(List.getD v.2.2.2.1 (Int.toNat v.1) (0,(0,(0,((([],()),(([],()),(([],(0,(0,()))),(([],(0,())),())))),()))))).2.2.2.1.2.2.1.2.2.1,(List.getD v.2.2.2.1 (Int.toNat v.1) (0,(0,(0,((([],()),(([],()),(([],(0,(0,()))),(([],(0,())),())))),()))))).2.2.2.1.2.2.2.1.1,(List.getD v.2.2.2.1 (Int.toNat v.1) (0,(0,(0,((([],()),(([],()),(([],(0,(0,()))),(([],(0,())),())))),()))))).2.2.2.1.2.2.2.1.2.1,()),(true,()),())))
 (g0 (w64 (v.1 + (1:Int)),v.2.1,v.2.2.1,v.2.2.2.1,v.2.2.2.2.1,v.2.2.2.2.2.1,v.2.2.2.2.2.2.1,v.2.2.2.2.2.2.2.1,v.2.2.2.2.2.2.2.2.1,v.2.2.2.2.2.2.2.2.2.1,v.2.2.2.2.2.2.2.2.2.2.1,v.2.2.2.2.2.2.2.2.2.2.2.1,v.2.2.2.2.2.2.2.2.2.2.2.2)))
 (some ((((0:Int),(0:Int),(0:Int),[],[],[],(0:Int),(0:Int),[],(0:Int),()),(false,()),())))
def zjj (Z:Nat) (g0:zcZ → zb8):zcZ → zb8:=zfH Z g0
theorem zzz (Z:Nat) (G):zji.lp (zfF Z) 0 Z G (endX zfG za9) 0 zrv = iter (zjj Z) Z:=C.lp_iter fun g v => by kernel_rfl
def zrw (Z:Nat) (X0:zcZ → zb8) (x0:Int) (x1:List EY) (x2:Int) (x3:Int) (x4:Int) (x5:Int):zb8 :=
 X0 ((0:Int),x5,x0,x1,x2,x3,x4,(0:Int),(0:Int),(0:Int),(0:Int),(0:Int),(0:Int))
def zjk (Z:Nat) (z:(NY × ((Int × Unit) × Unit))):zb8:=zrw Z (iter (zjj Z) Z) z.1.1 z.1.2.1 z.1.2.2.1 z.1.2.2.2.1 z.1.2.2.2.2.1 z.2.1.1
theorem zzA (Z:Nat) (xa:za9.rt.T) (xd:za9.D.T):za9.go (zfF Z) Z zji zfG xa xd = zjk Z (za9.xb (xa,xd)) :=
 (show za9.go (zfF Z) Z zji zfG xa xd = zrw Z (zji.lp (zfF Z) 0 Z (fun _ _ _ => none) (endX zfG za9) 0 zrv) xd.1.1 xd.1.2.1 xd.1.2.2.1 xd.1.2.2.2.1 xd.1.2.2.2.2.1 xd.2.1.1 by kernel_rfl).trans (by rw [zzz]; rfl)
abbrev zrx (Z:Nat):LE:=⟨za9,zjk Z⟩
theorem zzB (Z:Nat):EntryOK Tryz.prog 103 (zrx Z).te:=okF (T:=zfF Z) (fn:=Tryz.f103) (le:=zrx Z) (frz:=[]) (ann:=zru) (cuts:=[]) (rv:=zfG) (TabOK.of (entNil) (methNil)) mixed (by kernel_rfl) (by kernel_rfl) (by kernel_rfl) (fun _ => rfl) (fun _ => rfl) (fun xa xd y h => ⟨Z,(zzA Z xa xd).trans h⟩)
def zzC (Z:Nat) (x0:Int) (x1:Int):Option ((Int × Unit) × Unit) :=
 some (((w64 (w64 (x0 * (5:Int)) + x1),()),()))
def zfI (Z:Nat) (z:((Int × Unit) × ((Int × Unit) × Unit))):Option ((Int × Unit) × Unit):=zzC Z z.1.1 z.2.1.1
abbrev zry (Z:Nat):LE:=⟨.pure (.grp (.dat I6 .nil) (.grp (.dat I6 .nil) .nil)) (.grp (.dat I6 .nil) .nil) true,zfI Z⟩
theorem zzD (Z:Nat):EntryOK Tryz.prog 42 (zry Z).te:=okS (fn:=Tryz.f42) (frz:=[]) (ann:=[]) (cuts:=[]) (rv:=[(4,none)]) Z (TabOK.of (entNil) (methNil)) mixed (by kernel_rfl) (by kernel_rfl) (by kernel_rfl) (fun _ => rfl) (fun _ => rfl) (fun _ _ => by kernel_rfl)
end Go.Proofs.YtljojacnjjgceaaGreat.Den
namespace Go.Proofs.YtljojacnjjgceaaGreat.Den
open Go Go.RowKit
def zab (Z:Nat):Tab:=Tab.of [(41,(zb1 Z).te)] []
def zrz:List Norm:=[⟨[5,2,1],[],[],[]⟩,⟨[6,2,1,5],[],[],[]⟩]
noncomputable def zQ:C:=irOf Tryz.prog Tryz.f64 [] zrz []
def zaD:List (Nat × Option (Nat × Bool)):=[(4,none)]
abbrev zzE:Sx:=.agg (.dat (Kd.list KN) (.dat (Kd.list Kd.bool) (.dat (Kd.list KW) (.dat (Kd.list (Kd.list (Kd.list I6))) .nil)))) (.grp (.dat I6 .nil) .nil)
abbrev zzF:Sx:=.grp (.dat Kd.bool .nil) .nil
abbrev zR:LF:=.pure zzE zzF true
abbrev zba:=(Int) × (Int) × (List NY) × (List Bool) × (List WY) × (List (List (List Int)))
abbrev zc0:=(Int) × (Int) × (Int) × (List NY) × (List Bool) × (List WY) × (List (List (List Int)))
def zar (v:zba):Env × Heap:=([(5,SV.int .i64 v.1),(2,SV.ptr 0 0),(1,SV.int .i64 v.2.1)],[Blk.cells [SV.es KN v.2.2.1,SV.es Kd.bool v.2.2.2.1,SV.es KW v.2.2.2.2.1,SV.es (Kd.list (Kd.list I6)) v.2.2.2.2.2] 0 4])
def zc1 (v:zc0):Env × Heap:=([(6,SV.int .i64 v.1),(2,SV.ptr 0 0),(1,SV.int .i64 v.2.1),(5,SV.int .i64 v.2.2.1)],[Blk.cells [SV.es KN v.2.2.2.1,SV.es Kd.bool v.2.2.2.2.1,SV.es KW v.2.2.2.2.2.1,SV.es (Kd.list (Kd.list I6)) v.2.2.2.2.2.2] 0 4])
def zc2 (Z:Nat) (g0:zba → Option ((Bool × Unit) × Unit)) (g1:zc0 → Option ((Bool × Unit) × Unit)) (v:zc0):Option ((Bool × Unit) × Unit) :=
 tst (decide (0 ≤ v.2.1)) <|
 tst (decide (v.2.1 < (zz (List.length v.2.2.2.2.2.2)))) <|
 tst (decide (0 ≤ v.2.2.1)) <|
 tst (decide (v.2.2.1 < (zz (List.length (List.getD v.2.2.2.2.2.2 (Int.toNat v.2.1) []))))) <|
 cond (decide (v.1 < (zz (List.length (List.getD (List.getD v.2.2.2.2.2.2 (Int.toNat v.2.1) []) (Int.toNat v.2.2.1) [])))))
 (tst (decide (0 ≤ v.2.1)) <|
 tst (decide (v.2.1 < (zz (List.length v.2.2.2.2.2.2)))) <|
 tst (decide (0 ≤ v.2.2.1)) <|
 tst (decide (v.2.2.1 < (zz (List.length (List.getD v.2.2.2.2.2.2 (Int.toNat v.2.1) []))))) <|
 tst (decide (0 ≤ v.1)) <|
 tst (decide (v.1 < (zz (List.length (List.getD (List.getD v.2.2.2.2.2.2 (Int.toNat v.2.1) []) (Int.toNat v.2.2.1) []))))) <|
 Option.bind (zf Z ((List.getD (List.getD (List.getD v.2.2.2.2.2.2 (Int.toNat v.2.1) []) (Int.toNat v.2.2.1) []) (Int.toNat v.1) 0,()),((0:Int),()),((63:Int),()),())) fun y_2 =>
 cond (!y_2.1.1)
 (some (((false,()),())))
 (g1 (w64 (v.1 + (1:Int)),v.2.1,v.2.2.1,v.2.2.2.1,v.2.2.2.2.1,v.2.2.2.2.2.1,v.2.2.2.2.2.2)))
 (tst (decide (0 ≤ v.2.1)) <|
 tst (decide (v.2.1 < (zz (List.length v.2.2.2.2.2.2)))) <|
 tst (decide (0 ≤ v.2.2.1)) <|
 tst (decide (v.2.2.1 < (zz (List.length (List.getD v.2.2.2.2.2.2 (Int.toNat v.2.1) []))))) <|
 cond (decide ((zz (List.length (List.getD (List.getD v.2.2.2.2.2.2 (Int.toNat v.2.1) []) (Int.toNat v.2.2.1) []))) > (100:Int)))
 (some (((false,()),())))
 (g0 (w64 (v.2.2.1 + (1:Int)),v.2.1,v.2.2.2.1,v.2.2.2.2.1,v.2.2.2.2.2.1,v.2.2.2.2.2.2)))
def znd (Z:Nat) (g0:zba → Option ((Bool × Unit) × Unit)) (g1:zc0 → Option ((Bool × Unit) × Unit)):zc0 → Option ((Bool × Unit) × Unit):=zc2 Z g0 g1
theorem zzG (Z:Nat) (G):zQ.lp (zab Z) 0 Z G (endX zaD zR) 1 zc1 = iter (znd Z (fun v => G 0 (zar v).1 (zar v).2)) Z:=C.lp_iter fun g v =>
 (show run (zab Z) 0 Z (zQ.bdAt 1) (zc1 v).1 (zc1 v).2 (loopK 0 (zQ.nmAt 1) g (zQ.contAt (zab Z) 0 Z G 0 1 (endX zaD zR))) = zc2 Z (fun v => G 0 (zar v).1 (zar v).2) (fun v => g (zc1 v).1 (zc1 v).2) v by kernel_rfl)
def zc3 (Z:Nat) (X1:zc0 → Option ((Bool × Unit) × Unit)) (g0:zba → Option ((Bool × Unit) × Unit)) (v:zba):Option ((Bool × Unit) × Unit) :=
 tst (decide (0 ≤ v.2.1)) <|
 tst (decide (v.2.1 < (zz (List.length v.2.2.2.2.2)))) <|
 cond (decide (v.1 < (zz (List.length (List.getD v.2.2.2.2.2 (Int.toNat v.2.1) [])))))
 (X1 ((0:Int),v.2.1,v.1,v.2.2.1,v.2.2.2.1,v.2.2.2.2.1,v.2.2.2.2.2))
 (some (((true,()),())))
def zjl (Z:Nat) (g0:zba → Option ((Bool × Unit) × Unit)):zba → Option ((Bool × Unit) × Unit):=zc3 Z (iter (znd Z g0) Z) g0
theorem zzH (Z:Nat) (G):zQ.lp (zab Z) 0 Z G (endX zaD zR) 0 zar = iter (zjl Z) Z:=C.lp_iter fun g v =>
 (show run (zab Z) 0 Z (zQ.bdAt 0) (zar v).1 (zar v).2 (loopK 0 (zQ.nmAt 0) g (zQ.contAt (zab Z) 0 Z G 0 0 (endX zaD zR))) = zc3 Z (zQ.lp (zab Z) 0 Z (fun m => bif Nat.beq m 0 then g else G m) (endX zaD zR) 1 zc1) (fun v => g (zar v).1 (zar v).2) v by kernel_rfl).trans (by rw [zzG]; rfl)
def zjm (Z:Nat) (X0:zba → Option ((Bool × Unit) × Unit)) (x0:List NY) (x1:List Bool) (x2:List WY) (x3:List (List (List Int))) (x4:Int):Option ((Bool × Unit) × Unit) :=
 tst (decide (0 ≤ x4)) <|
 tst (decide (x4 < (zz (List.length x3)))) <|
 tst (decide (0 ≤ x4)) <|
 tst (decide (x4 < (zz (List.length x0)))) <|
 cond ((zz (List.length (List.getD x3 (Int.toNat x4) []))) != w64 ((List.getD x0 (Int.toNat x4) (0,([],(0,(0,(0,())))))).1 + (1:Int)))
 (some (((false,()),())))
 (tst (decide (0 ≤ x4)) <|
 tst (decide (x4 < (zz (List.length x3)))) <|
 tst (decide ((0:Int) < (zz (List.length (List.getD x3 (Int.toNat x4) []))))) <|
 cond ((zz (List.length (List.getD (List.getD x3 (Int.toNat x4) []) (Int.toNat (0:Int)) []))) != (0:Int))
 (some (((false,()),())))
 (X0 ((0:Int),x4,x0,x1,x2,x3)))
def zjn (Z:Nat) (z:(((List NY) × ((List Bool) × ((List WY) × ((List (List (List Int))) × Unit)))) × ((Int × Unit) × Unit))):Option ((Bool × Unit) × Unit):=zjm Z (iter (zjl Z) Z) z.1.1 z.1.2.1 z.1.2.2.1 z.1.2.2.2.1 z.2.1.1
theorem zzI (Z:Nat) (xa:zR.rt.T) (xd:zR.D.T):zR.go (zab Z) Z zQ zaD xa xd = zjn Z (zR.xb (xa,xd)) :=
 (show zR.go (zab Z) Z zQ zaD xa xd = zjm Z (zQ.lp (zab Z) 0 Z (fun _ _ _ => none) (endX zaD zR) 0 zar) xd.1.1 xd.1.2.1 xd.1.2.2.1 xd.1.2.2.2.1 xd.2.1.1 by kernel_rfl).trans (by rw [zzH]; rfl)
abbrev zne (Z:Nat):LE:=⟨zR,zjn Z⟩
theorem zzJ (Z:Nat):EntryOK Tryz.prog 64 (zne Z).te:=okF (T:=zab Z) (fn:=Tryz.f64) (le:=zne Z) (frz:=[]) (ann:=zrz) (cuts:=[]) (rv:=zaD) (TabOK.of (entCons (zx Z) entNil) (methNil)) mixed (by kernel_rfl) (by kernel_rfl) (by kernel_rfl) (fun _ => rfl) (fun _ => rfl) (fun xa xd y h => ⟨Z,(zzI Z xa xd).trans h⟩)
def zfJ (Z:Nat):Tab:=Tab.of [] []
def zrA:List Norm:=[⟨[5,0,1],[],[],[]⟩]
noncomputable def zjo:C:=irOf Tryz.prog Tryz.f188 [] zrA []
def zfK:List (Nat × Option (Nat × Bool)):=[(4,none)]
abbrev zzK:Sx:=.grp (.dat (Kd.list I6) .nil) (.grp (.dat (Kd.list I6) .nil) .nil)
abbrev zzL:Sx:=.grp (.dat Kd.bool .nil) .nil
abbrev zbb:LF:=.pure zzK zzL true
abbrev zc4:=(Int) × (List Int) × (List Int)
def zrB (v:zc4):Env × Heap:=([(5,SV.int .i64 v.1),(0,SV.es I6 v.2.1),(1,SV.es I6 v.2.2)],[])
def zfL (Z:Nat) (g0:zc4 → Option ((Bool × Unit) × Unit)) (v:zc4):Option ((Bool × Unit) × Unit) :=
 cond (decide (v.1 < (zz (List.length v.2.1))))
 (tst (decide (0 ≤ v.1)) <|
 tst (decide (v.1 < (zz (List.length v.2.1)))) <|
 tst (decide (0 ≤ v.1)) <|
 tst (decide (v.1 < (zz (List.length v.2.2)))) <|
 cond (List.getD v.2.1 (Int.toNat v.1) 0 != List.getD v.2.2 (Int.toNat v.1) 0)
 (some (((false,()),())))
 (g0 (w64 (v.1 + (1:Int)),v.2.1,v.2.2)))
 (some (((true,()),())))
def zjp (Z:Nat) (g0:zc4 → Option ((Bool × Unit) × Unit)):zc4 → Option ((Bool × Unit) × Unit):=zfL Z g0
theorem zzM (Z:Nat) (G):zjo.lp (zfJ Z) 0 Z G (endX zfK zbb) 0 zrB = iter (zjp Z) Z:=C.lp_iter fun g v => by kernel_rfl
def zjq (Z:Nat) (X0:zc4 → Option ((Bool × Unit) × Unit)) (x0:List Int) (x1:List Int):Option ((Bool × Unit) × Unit) :=
 cond ((zz (List.length x0)) != (zz (List.length x1)))
 (some (((false,()),())))
 (X0 ((0:Int),x0,x1))
def zfM (Z:Nat) (z:(((List Int) × Unit) × (((List Int) × Unit) × Unit))):Option ((Bool × Unit) × Unit):=zjq Z (iter (zjp Z) Z) z.1.1 z.2.1.1
theorem zzN (Z:Nat) (xa:zbb.rt.T) (xd:zbb.D.T):zbb.go (zfJ Z) Z zjo zfK xa xd = zfM Z (zbb.xb (xa,xd)) :=
 (show zbb.go (zfJ Z) Z zjo zfK xa xd = zjq Z (zjo.lp (zfJ Z) 0 Z (fun _ _ _ => none) (endX zfK zbb) 0 zrB) xd.1.1 xd.2.1.1 by kernel_rfl).trans (by rw [zzM]; rfl)
abbrev znf (Z:Nat):LE:=⟨zbb,zfM Z⟩
theorem zzO (Z:Nat):EntryOK Tryz.prog 188 (znf Z).te:=okF (T:=zfJ Z) (fn:=Tryz.f188) (le:=znf Z) (frz:=[]) (ann:=zrA) (cuts:=[]) (rv:=zfK) (TabOK.of (entNil) (methNil)) mixed (by kernel_rfl) (by kernel_rfl) (by kernel_rfl) (fun _ => rfl) (fun _ => rfl) (fun xa xd y h => ⟨Z,(zzN Z xa xd).trans h⟩)
def zJ (Z:Nat):Tab:=Tab.of [(188,(znf Z).te)] []
def zrC:List Norm:=[⟨[5,2,3],[],[],[]⟩,⟨[6,2,3],[],[],[]⟩,⟨[7,2,3],[],[],[]⟩]
noncomputable def zE:C:=irOf Tryz.prog Tryz.f165 [] zrC []
def zac:List (Nat × Option (Nat × Bool)):=[(4,none)]
abbrev zzP:Sx:=.agg (.dat (Kd.list (Kd.list I6)) (.dat (Kd.list I6) (.dat (Kd.list KP) (.dat I6 (.dat I6 (.dat (Kd.list KP) (.dat I6 .nil))))))) (.agg (.dat (Kd.list (Kd.list I6)) (.dat (Kd.list I6) (.dat (Kd.list KP) (.dat I6 (.dat I6 (.dat (Kd.list KP) (.dat I6 .nil))))))) .nil)
abbrev zzQ:Sx:=.grp (.dat Kd.bool .nil) .nil
abbrev zF:LF:=.pure zzP zzQ true
abbrev zc5:=(Int) × (List (List Int)) × (List Int) × LP × (Int) × (Int) × LP × (Int) × (List (List Int)) × (List Int) × LP × (Int) × (Int) × LP × (Int)
abbrev zc6:=(Int) × (List (List Int)) × (List Int) × LP × (Int) × (Int) × LP × (Int) × (List (List Int)) × (List Int) × LP × (Int) × (Int) × LP × (Int)
abbrev zc7:=(Int) × (List (List Int)) × (List Int) × LP × (Int) × (Int) × LP × (Int) × (List (List Int)) × (List Int) × LP × (Int) × (Int) × LP × (Int)
def zc8 (v:zc5):Env × Heap:=([(5,SV.int .i64 v.1),(2,SV.ptr 0 0),(3,SV.ptr 1 0)],[Blk.cells [SV.es (Kd.list I6) v.2.1,SV.es I6 v.2.2.1,SV.es KP v.2.2.2.1,SV.int .i64 v.2.2.2.2.1,SV.int .i64 v.2.2.2.2.2.1,SV.es KP v.2.2.2.2.2.2.1,SV.int .i64 v.2.2.2.2.2.2.2.1] 0 7,Blk.cells [SV.es (Kd.list I6) v.2.2.2.2.2.2.2.2.1,SV.es I6 v.2.2.2.2.2.2.2.2.2.1,SV.es KP v.2.2.2.2.2.2.2.2.2.2.1,SV.int .i64 v.2.2.2.2.2.2.2.2.2.2.2.1,SV.int .i64 v.2.2.2.2.2.2.2.2.2.2.2.2.1,SV.es KP v.2.2.2.2.2.2.2.2.2.2.2.2.2.1,SV.int .i64 v.2.2.2.2.2.2.2.2.2.2.2.2.2.2] 0 7])
def zc9 (v:zc6):Env × Heap:=([(6,SV.int .i64 v.1),(2,SV.ptr 0 0),(3,SV.ptr 1 0)],[Blk.cells [SV.es (Kd.list I6) v.2.1,SV.es I6 v.2.2.1,SV.es KP v.2.2.2.1,SV.int .i64 v.2.2.2.2.1,SV.int .i64 v.2.2.2.2.2.1,SV.es KP v.2.2.2.2.2.2.1,SV.int .i64 v.2.2.2.2.2.2.2.1] 0 7,Blk.cells [SV.es (Kd.list I6) v.2.2.2.2.2.2.2.2.1,SV.es I6 v.2.2.2.2.2.2.2.2.2.1,SV.es KP v.2.2.2.2.2.2.2.2.2.2.1,SV.int .i64 v.2.2.2.2.2.2.2.2.2.2.2.1,SV.int .i64 v.2.2.2.2.2.2.2.2.2.2.2.2.1,SV.es KP v.2.2.2.2.2.2.2.2.2.2.2.2.2.1,SV.int .i64 v.2.2.2.2.2.2.2.2.2.2.2.2.2.2] 0 7])
def zrD (v:zc7):Env × Heap:=([(7,SV.int .i64 v.1),(2,SV.ptr 0 0),(3,SV.ptr 1 0)],[Blk.cells [SV.es (Kd.list I6) v.2.1,SV.es I6 v.2.2.1,SV.es KP v.2.2.2.1,SV.int .i64 v.2.2.2.2.1,SV.int .i64 v.2.2.2.2.2.1,SV.es KP v.2.2.2.2.2.2.1,SV.int .i64 v.2.2.2.2.2.2.2.1] 0 7,Blk.cells [SV.es (Kd.list I6) v.2.2.2.2.2.2.2.2.1,SV.es I6 v.2.2.2.2.2.2.2.2.2.1,SV.es KP v.2.2.2.2.2.2.2.2.2.2.1,SV.int .i64 v.2.2.2.2.2.2.2.2.2.2.2.1,SV.int .i64 v.2.2.2.2.2.2.2.2.2.2.2.2.1,SV.es KP v.2.2.2.2.2.2.2.2.2.2.2.2.2.1,SV.int .i64 v.2.2.2.2.2.2.2.2.2.2.2.2.2.2] 0 7])
def zfN (Z:Nat) (g2:zc7 → Option ((Bool × Unit) × Unit)) (v:zc7):Option ((Bool × Unit) × Unit) :=
 cond (decide (v.1 < (zz (List.length v.2.2.2.2.2.2.1))))
 (tst (decide (0 ≤ v.1)) <|
 tst (decide (v.1 < (zz (List.length v.2.2.2.2.2.2.1)))) <|
 tst (decide (0 ≤ v.1)) <|
 tst (decide (v.1 < (zz (List.length v.2.2.2.2.2.2.2.2.2.2.2.2.2.1)))) <|
 cond (!((List.getD v.2.2.2.2.2.2.1 (Int.toNat v.1) (0,(0,()))).1 == (List.getD v.2.2.2.2.2.2.2.2.2.2.2.2.2.1 (Int.toNat v.1) (0,(0,()))).1 && ((List.getD v.2.2.2.2.2.2.1 (Int.toNat v.1) (0,(0,()))).2.1 == (List.getD v.2.2.2.2.2.2.2.2.2.2.2.2.2.1 (Int.toNat v.1) (0,(0,()))).2.1 && true)))
 (some (((false,()),())))
 (g2 (w64 (v.1 + (1:Int)),v.2.1,v.2.2.1,v.2.2.2.1,v.2.2.2.2.1,v.2.2.2.2.2.1,v.2.2.2.2.2.2.1,v.2.2.2.2.2.2.2.1,v.2.2.2.2.2.2.2.2.1,v.2.2.2.2.2.2.2.2.2.1,v.2.2.2.2.2.2.2.2.2.2.1,v.2.2.2.2.2.2.2.2.2.2.2.1,v.2.2.2.2.2.2.2.2.2.2.2.2.1,v.2.2.2.2.2.2.2.2.2.2.2.2.2.1,v.2.2.2.2.2.2.2.2.2.2.2.2.2.2)))
 (some (((true,()),())))
def zjr (Z:Nat) (g2:zc7 → Option ((Bool × Unit) × Unit)):zc7 → Option ((Bool × Unit) × Unit):=zfN Z g2
theorem zzR (Z:Nat) (G):zE.lp (zJ Z) 0 Z G (endX zac zF) 2 zrD = iter (zjr Z) Z:=C.lp_iter fun g v => by kernel_rfl
def zda (Z:Nat) (X2:zc7 → Option ((Bool × Unit) × Unit)) (g1:zc6 → Option ((Bool × Unit) × Unit)) (v:zc6):Option ((Bool × Unit) × Unit) :=
 cond (decide (v.1 < (zz (List.length v.2.2.2.1))))
 (tst (decide (0 ≤ v.1)) <|
 tst (decide (v.1 < (zz (List.length v.2.2.2.1)))) <|
 tst (decide (0 ≤ v.1)) <|
 tst (decide (v.1 < (zz (List.length v.2.2.2.2.2.2.2.2.2.2.1)))) <|
 cond (!((List.getD v.2.2.2.1 (Int.toNat v.1) (0,(0,()))).1 == (List.getD v.2.2.2.2.2.2.2.2.2.2.1 (Int.toNat v.1) (0,(0,()))).1 && ((List.getD v.2.2.2.1 (Int.toNat v.1) (0,(0,()))).2.1 == (List.getD v.2.2.2.2.2.2.2.2.2.2.1 (Int.toNat v.1) (0,(0,()))).2.1 && true)))
 (some (((false,()),())))
 (g1 (w64 (v.1 + (1:Int)),v.2.1,v.2.2.1,v.2.2.2.1,v.2.2.2.2.1,v.2.2.2.2.2.1,v.2.2.2.2.2.2.1,v.2.2.2.2.2.2.2.1,v.2.2.2.2.2.2.2.2.1,v.2.2.2.2.2.2.2.2.2.1,v.2.2.2.2.2.2.2.2.2.2.1,v.2.2.2.2.2.2.2.2.2.2.2.1,v.2.2.2.2.2.2.2.2.2.2.2.2.1,v.2.2.2.2.2.2.2.2.2.2.2.2.2.1,v.2.2.2.2.2.2.2.2.2.2.2.2.2.2)))
 (X2 ((0:Int),v.2.1,v.2.2.1,v.2.2.2.1,v.2.2.2.2.1,v.2.2.2.2.2.1,v.2.2.2.2.2.2.1,v.2.2.2.2.2.2.2.1,v.2.2.2.2.2.2.2.2.1,v.2.2.2.2.2.2.2.2.2.1,v.2.2.2.2.2.2.2.2.2.2.1,v.2.2.2.2.2.2.2.2.2.2.2.1,v.2.2.2.2.2.2.2.2.2.2.2.2.1,v.2.2.2.2.2.2.2.2.2.2.2.2.2.1,v.2.2.2.2.2.2.2.2.2.2.2.2.2.2))
def zjs (Z:Nat) (g1:zc6 → Option ((Bool × Unit) × Unit)):zc6 → Option ((Bool × Unit) × Unit):=zda Z (iter (zjr Z) Z) g1
theorem zzS (Z:Nat) (G):zE.lp (zJ Z) 0 Z G (endX zac zF) 1 zc9 = iter (zjs Z) Z:=C.lp_iter fun g v =>
 (show run (zJ Z) 0 Z (zE.bdAt 1) (zc9 v).1 (zc9 v).2 (loopK 0 (zE.nmAt 1) g (zE.contAt (zJ Z) 0 Z G 0 1 (endX zac zF))) = zda Z (zE.lp (zJ Z) 0 Z (fun m => bif Nat.beq m 1 then g else G m) (endX zac zF) 2 zrD) (fun v => g (zc9 v).1 (zc9 v).2) v by kernel_rfl).trans (by rw [zzR]; rfl)
def zdb (Z:Nat) (X1:zc6 → Option ((Bool × Unit) × Unit)) (g0:zc5 → Option ((Bool × Unit) × Unit)) (v:zc5):Option ((Bool × Unit) × Unit) :=
 cond (decide (v.1 < (zz (List.length v.2.1))))
 (tst (decide (0 ≤ v.1)) <|
 tst (decide (v.1 < (zz (List.length v.2.1)))) <|
 tst (decide (0 ≤ v.1)) <|
 tst (decide (v.1 < (zz (List.length v.2.2.2.2.2.2.2.2.1)))) <|
 Option.bind (zfM Z ((List.getD v.2.1 (Int.toNat v.1) [],()),(List.getD v.2.2.2.2.2.2.2.2.1 (Int.toNat v.1) [],()),())) fun y_2 =>
 cond (!y_2.1.1)
 (some (((false,()),())))
 (g0 (w64 (v.1 + (1:Int)),v.2.1,v.2.2.1,v.2.2.2.1,v.2.2.2.2.1,v.2.2.2.2.2.1,v.2.2.2.2.2.2.1,v.2.2.2.2.2.2.2.1,v.2.2.2.2.2.2.2.2.1,v.2.2.2.2.2.2.2.2.2.1,v.2.2.2.2.2.2.2.2.2.2.1,v.2.2.2.2.2.2.2.2.2.2.2.1,v.2.2.2.2.2.2.2.2.2.2.2.2.1,v.2.2.2.2.2.2.2.2.2.2.2.2.2.1,v.2.2.2.2.2.2.2.2.2.2.2.2.2.2)))
 (X1 ((0:Int),v.2.1,v.2.2.1,v.2.2.2.1,v.2.2.2.2.1,v.2.2.2.2.2.1,v.2.2.2.2.2.2.1,v.2.2.2.2.2.2.2.1,v.2.2.2.2.2.2.2.2.1,v.2.2.2.2.2.2.2.2.2.1,v.2.2.2.2.2.2.2.2.2.2.1,v.2.2.2.2.2.2.2.2.2.2.2.1,v.2.2.2.2.2.2.2.2.2.2.2.2.1,v.2.2.2.2.2.2.2.2.2.2.2.2.2.1,v.2.2.2.2.2.2.2.2.2.2.2.2.2.2))
def zjt (Z:Nat) (g0:zc5 → Option ((Bool × Unit) × Unit)):zc5 → Option ((Bool × Unit) × Unit):=zdb Z (iter (zjs Z) Z) g0
theorem zzT (Z:Nat) (G):zE.lp (zJ Z) 0 Z G (endX zac zF) 0 zc8 = iter (zjt Z) Z:=C.lp_iter fun g v =>
 (show run (zJ Z) 0 Z (zE.bdAt 0) (zc8 v).1 (zc8 v).2 (loopK 0 (zE.nmAt 0) g (zE.contAt (zJ Z) 0 Z G 0 0 (endX zac zF))) = zdb Z (zE.lp (zJ Z) 0 Z (fun m => bif Nat.beq m 0 then g else G m) (endX zac zF) 1 zc9) (fun v => g (zc8 v).1 (zc8 v).2) v by kernel_rfl).trans (by rw [zzS]; rfl)
def zju (Z:Nat) (X0:zc5 → Option ((Bool × Unit) × Unit)) (x0:List (List Int)) (x1:List Int) (x2:LP) (x3:Int) (x4:Int) (x5:LP) (x6:Int) (x7:List (List Int)) (x8:List Int) (x9:LP) (x10:Int) (x11:Int) (x12:LP) (x13:Int):Option ((Bool × Unit) × Unit) :=
 cond ((zz (List.length x0)) != (zz (List.length x7)))
 (some (((false,()),())))
 (Option.bind (zfM Z ((x1,()),(x8,()),())) fun y_2 =>
 cond (!y_2.1.1)
 (some (((false,()),())))
 (cond (x3 != x10)
 (some (((false,()),())))
 (cond (x4 != x11)
 (some (((false,()),())))
 (cond (x6 != x13)
 (some (((false,()),())))
 (cond ((zz (List.length x2)) != (zz (List.length x9)))
 (some (((false,()),())))
 (cond ((zz (List.length x5)) != (zz (List.length x12)))
 (some (((false,()),())))
 (X0 ((0:Int),x0,x1,x2,x3,x4,x5,x6,x7,x8,x9,x10,x11,x12,x13))))))))
def zjv (Z:Nat) (z:(SumY × (SumY × Unit))):Option ((Bool × Unit) × Unit):=zju Z (iter (zjt Z) Z) z.1.1 z.1.2.1 z.1.2.2.1 z.1.2.2.2.1 z.1.2.2.2.2.1 z.1.2.2.2.2.2.1 z.1.2.2.2.2.2.2.1 z.2.1.1 z.2.1.2.1 z.2.1.2.2.1 z.2.1.2.2.2.1 z.2.1.2.2.2.2.1 z.2.1.2.2.2.2.2.1 z.2.1.2.2.2.2.2.2.1
theorem zzU (Z:Nat) (xa:zF.rt.T) (xd:zF.D.T):zF.go (zJ Z) Z zE zac xa xd = zjv Z (zF.xb (xa,xd)) :=
 (show zF.go (zJ Z) Z zE zac xa xd = zju Z (zE.lp (zJ Z) 0 Z (fun _ _ _ => none) (endX zac zF) 0 zc8) xd.1.1 xd.1.2.1 xd.1.2.2.1 xd.1.2.2.2.1 xd.1.2.2.2.2.1 xd.1.2.2.2.2.2.1 xd.1.2.2.2.2.2.2.1 xd.2.1.1 xd.2.1.2.1 xd.2.1.2.2.1 xd.2.1.2.2.2.1 xd.2.1.2.2.2.2.1 xd.2.1.2.2.2.2.2.1 xd.2.1.2.2.2.2.2.2.1 by kernel_rfl).trans (by rw [zzT]; rfl)
abbrev zrE (Z:Nat):LE:=⟨zF,zjv Z⟩
theorem zzV (Z:Nat):EntryOK Tryz.prog 165 (zrE Z).te:=okF (T:=zJ Z) (fn:=Tryz.f165) (le:=zrE Z) (frz:=[]) (ann:=zrC) (cuts:=[]) (rv:=zac) (TabOK.of (entCons (zzO Z) entNil) (methNil)) mixed (by kernel_rfl) (by kernel_rfl) (by kernel_rfl) (fun _ => rfl) (fun _ => rfl) (fun xa xd y h => ⟨Z,(zzU Z xa xd).trans h⟩)
def zng (Z:Nat) (x0:List NY) (x1:List Bool) (x2:List WY) (x3:List (List (List Int))) (x4:Int) (x5:Int) (x6:Int) (x7:List (List Int)) (x8:List Int) (x9:LP) (x10:Int) (x11:Int) (x12:LP) (x13:Int):Option ((Bool × Unit) × Unit) :=
 Option.bind (zf Z ((x4,()),((0:Int),()),(w64 ((zz (List.length x0)) - (1:Int)),()),())) fun y_1 =>
 cond (!y_1.1.1)
 (some (((false,()),())))
 (tst (decide (0 ≤ x4)) <|
 tst (decide (x4 < (zz (List.length x0)))) <|
 Option.bind (zf Z ((x5,()),((1:Int),()),((List.getD x0 (Int.toNat x4) (0,([],(0,(0,(0,())))))).1,()),())) fun y_3 =>
 cond (!y_3.1.1)
 (some (((false,()),())))
 (tst (decide (0 ≤ x4)) <|
 tst (decide (x4 < (zz (List.length x3)))) <|
 tst (decide (0 ≤ x5)) <|
 tst (decide (x5 < (zz (List.length (List.getD x3 (Int.toNat x4) []))))) <|
 Option.bind (zf Z ((x6,()),((0:Int),()),((zz (List.length (List.getD (List.getD x3 (Int.toNat x4) []) (Int.toNat x5) []))),()),())) fun y_5 =>
 cond (!y_5.1.1)
 (some (((false,()),())))
 (tst (decide (0 ≤ x4)) <|
 tst (decide (x4 < (zz (List.length x3)))) <|
 tst (decide (0 ≤ x5)) <|
 tst (decide (x5 < (zz (List.length (List.getD x3 (Int.toNat x4) []))))) <|
 tst (decide (0 ≤ x6)) <|
 tst (decide (x6 ≤ (zz (List.length (List.getD (List.getD x3 (Int.toNat x4) []) (Int.toNat x5) []))))) <|
 Option.bind (zjh Z ((List.drop 0 (List.take (Int.toNat x6) (List.getD (List.getD x3 (Int.toNat x4) []) (Int.toNat x5) [])),()),())) fun y_7 =>
 cond (y_7.2.1.1)
 (Option.bind (zjv Z ((y_7.1.1,y_7.1.2.1,y_7.1.2.2.1,y_7.1.2.2.2.1,y_7.1.2.2.2.2.1,y_7.1.2.2.2.2.2.1,y_7.1.2.2.2.2.2.2.1,()),(x7,x8,x9,x10,x11,x12,x13,()),())) fun y_9 =>
 some (((y_9.1.1,()),())))
 (some (((false,()),()))))))
def znh (Z:Nat) (z:(((List NY) × ((List Bool) × ((List WY) × ((List (List (List Int))) × Unit)))) × ((Int × (Int × (Int × SumY))) × Unit))):Option ((Bool × Unit) × Unit):=zng Z z.1.1 z.1.2.1 z.1.2.2.1 z.1.2.2.2.1 z.2.1.1 z.2.1.2.1 z.2.1.2.2.1 z.2.1.2.2.2.1 z.2.1.2.2.2.2.1 z.2.1.2.2.2.2.2.1 z.2.1.2.2.2.2.2.2.1 z.2.1.2.2.2.2.2.2.2.1 z.2.1.2.2.2.2.2.2.2.2.1 z.2.1.2.2.2.2.2.2.2.2.2.1
abbrev zrF (Z:Nat):LE:=⟨.pure (.agg (.dat (Kd.list KN) (.dat (Kd.list Kd.bool) (.dat (Kd.list KW) (.dat (Kd.list (Kd.list (Kd.list I6))) .nil)))) (.agg (.dat I6 (.dat I6 (.dat I6 (.dat (Kd.list (Kd.list I6)) (.dat (Kd.list I6) (.dat (Kd.list KP) (.dat I6 (.dat I6 (.dat (Kd.list KP) (.dat I6 .nil)))))))))) .nil)) (.grp (.dat Kd.bool .nil) .nil) true,znh Z⟩
theorem zzW (Z:Nat):EntryOK Tryz.prog 132 (zrF Z).te:=okS (fn:=Tryz.f132) (frz:=[]) (ann:=[]) (cuts:=[]) (rv:=[(4,none)]) Z (TabOK.of (entCons (zx Z) (entCons (zzw Z) (entCons (zzV Z) entNil))) (methNil)) mixed (by kernel_rfl) (by kernel_rfl) (by kernel_rfl) (fun _ => rfl) (fun _ => rfl) (fun _ _ => by kernel_rfl)
def zfO (Z:Nat):Tab:=Tab.of [(132,(zrF Z).te)] []
def zrG:List Norm:=[⟨[5,1,2],[],[],[]⟩]
noncomputable def zjw:C:=irOf Tryz.prog Tryz.f104 [] zrG []
def zfP:List (Nat × Option (Nat × Bool)):=[(4,none)]
abbrev zzX:Sx:=.agg (.dat (Kd.list KN) (.dat (Kd.list Kd.bool) (.dat (Kd.list KW) (.dat (Kd.list (Kd.list (Kd.list I6))) .nil)))) (.grp (.dat (Kd.list KE) .nil) .nil)
abbrev zzY:Sx:=.grp (.dat Kd.bool .nil) .nil
abbrev zbc:LF:=.pure zzX zzY true
abbrev zdc:=(Int) × (List EY) × (List NY) × (List Bool) × (List WY) × (List (List (List Int)))
def zrH (v:zdc):Env × Heap:=([(5,SV.int .i64 v.1),(1,SV.es KE v.2.1),(2,SV.ptr 0 0)],[Blk.cells [SV.es KN v.2.2.1,SV.es Kd.bool v.2.2.2.1,SV.es KW v.2.2.2.2.1,SV.es (Kd.list (Kd.list I6)) v.2.2.2.2.2] 0 4])
def zfQ (Z:Nat) (g0:zdc → Option ((Bool × Unit) × Unit)) (v:zdc):Option ((Bool × Unit) × Unit) :=
 cond (decide (v.1 < (zz (List.length v.2.1))))
 (tst (decide (0 ≤ v.1)) <|
 tst (decide (v.1 < (zz (List.length v.2.1)))) <|
 Option.bind (znh Z ((v.2.2.1,v.2.2.2.1,v.2.2.2.2.1,v.2.2.2.2.2,()),((List.getD v.2.1 (Int.toNat v.1) (0,(0,(0,((([],()),(([],()),(([],(0,(0,()))),(([],(0,())),())))),()))))).1,(List.getD v.2.1 (Int.toNat v.1) (0,(0,(0,((([],()),(([],()),(([],(0,(0,()))),(([],(0,())),())))),()))))).2.1,(List.getD v.2.1 (Int.toNat v.1) (0,(0,(0,((([],()),(([],()),(([],(0,(0,()))),(([],(0,())),())))),()))))).2.2.1,(List.getD v.2.1 (Int.toNat v.1) (0,(0,(0,((([],()),(([],()),(([],(0,(0,()))),(([],(0,())),())))),()))))).2.2.2.1.1.1,(List.getD v.2.1 (Int.toNat v.1) (0,(0,(0,((([],()),(([],()),(([],(0,(0,()))),(([],(0,())),())))),()))))).2.2.2.1.2.1.1,(List.getD v.2.1 (Int.toNat v.1) (0,(0,(0,((([],()),(([],()),(([],(0,(0,()))),(([],(0,())),())))),()))))).2.2.2.1.2.2.1.1,(List.getD v.2.1 (Int.toNat v.1) (0,(0,(0,((([],()),(([],()),(([],(0,(0,()))),(([],(0,())),())))),()))))).2.2.2.1.2.2.1.2.1,(List.getD v.2.1 (Int.toNat v.1) (0,(0,(0,((([],()),(([],()),(([],(0,(0,()))),(([],(0,())),())))),()))))).2.2.2.1.2.2.1.2.2.1,(List.getD v.2.1 (Int.toNat v.1) (0,(0,(0,((([],()),(([],()),(([],(0,(0,()))),(([],(0,())),())))),()))))).2.2.2.1.2.2.2.1.1,(List.getD v.2.1 (Int.toNat v.1) (0,(0,(0,((([],()),(([],()),(([],(0,(0,()))),(([],(0,())),())))),()))))).2.2.2.1.2.2.2.1.2.1,()),())) fun y_2 =>
 cond (!y_2.1.1)
 (some (((false,()),())))
 (cond (decide (v.1 > (0:Int)))
 (tst (decide (0 ≤ w64 (v.1 - (1:Int)))) <|
 tst (decide (w64 (v.1 - (1:Int)) < (zz (List.length v.2.1)))) <|
 tst (decide (0 ≤ v.1)) <|
 tst (decide (v.1 < (zz (List.length v.2.1)))) <|
 cond (decide ((List.getD v.2.1 (Int.toNat (w64 (v.1 - (1:Int)))) (0,(0,(0,((([],()),(([],()),(([],(0,(0,()))),(([],(0,())),())))),()))))).1 ≥ (List.getD v.2.1 (Int.toNat v.1) (0,(0,(0,((([],()),(([],()),(([],(0,(0,()))),(([],(0,())),())))),()))))).1))
 (some (((false,()),())))
 (g0 (w64 (v.1 + (1:Int)),v.2.1,v.2.2.1,v.2.2.2.1,v.2.2.2.2.1,v.2.2.2.2.2)))
 (g0 (w64 (v.1 + (1:Int)),v.2.1,v.2.2.1,v.2.2.2.1,v.2.2.2.2.1,v.2.2.2.2.2))))
 (some (((true,()),())))
def zjx (Z:Nat) (g0:zdc → Option ((Bool × Unit) × Unit)):zdc → Option ((Bool × Unit) × Unit):=zfQ Z g0
theorem zzZ (Z:Nat) (G):zjw.lp (zfO Z) 0 Z G (endX zfP zbc) 0 zrH = iter (zjx Z) Z:=C.lp_iter fun g v => by kernel_rfl
def zrI (Z:Nat) (X0:zdc → Option ((Bool × Unit) × Unit)) (x0:List NY) (x1:List Bool) (x2:List WY) (x3:List (List (List Int))) (x4:List EY):Option ((Bool × Unit) × Unit) :=
 X0 ((0:Int),x4,x0,x1,x2,x3)
def zfR (Z:Nat) (z:(((List NY) × ((List Bool) × ((List WY) × ((List (List (List Int))) × Unit)))) × (((List EY) × Unit) × Unit))):Option ((Bool × Unit) × Unit):=zrI Z (iter (zjx Z) Z) z.1.1 z.1.2.1 z.1.2.2.1 z.1.2.2.2.1 z.2.1.1
theorem zz0 (Z:Nat) (xa:zbc.rt.T) (xd:zbc.D.T):zbc.go (zfO Z) Z zjw zfP xa xd = zfR Z (zbc.xb (xa,xd)) :=
 (show zbc.go (zfO Z) Z zjw zfP xa xd = zrI Z (zjw.lp (zfO Z) 0 Z (fun _ _ _ => none) (endX zfP zbc) 0 zrH) xd.1.1 xd.1.2.1 xd.1.2.2.1 xd.1.2.2.2.1 xd.2.1.1 by kernel_rfl).trans (by rw [zzZ]; rfl)
abbrev zrJ (Z:Nat):LE:=⟨zbc,zfR Z⟩
theorem zrK (Z:Nat):EntryOK Tryz.prog 104 (zrJ Z).te:=okF (T:=zfO Z) (fn:=Tryz.f104) (le:=zrJ Z) (frz:=[]) (ann:=zrG) (cuts:=[]) (rv:=zfP) (TabOK.of (entCons (zzW Z) entNil) (methNil)) mixed (by kernel_rfl) (by kernel_rfl) (by kernel_rfl) (fun _ => rfl) (fun _ => rfl) (fun xa xd y h => ⟨Z,(zz0 Z xa xd).trans h⟩)
def zni (Z:Nat) (x0:List NY) (x1:List Bool) (x2:List WY) (x3:List (List (List Int))) (x4:Int):Option ((Bool × Unit) × Unit) :=
 tst (decide (0 ≤ x4)) <|
 tst (decide (x4 < (zz (List.length x0)))) <|
 Option.bind (zjk Z (((List.getD x0 (Int.toNat x4) (0,([],(0,(0,(0,())))))).1,(List.getD x0 (Int.toNat x4) (0,([],(0,(0,(0,())))))).2.1,(List.getD x0 (Int.toNat x4) (0,([],(0,(0,(0,())))))).2.2.1,(List.getD x0 (Int.toNat x4) (0,([],(0,(0,(0,())))))).2.2.2.1,(List.getD x0 (Int.toNat x4) (0,([],(0,(0,(0,())))))).2.2.2.2.1,()),(x4,()),())) fun y_1 =>
 cond (!y_1.2.1.1)
 (some (((false,()),())))
 (Option.bind (zfR Z ((x0,x1,x2,x3,()),((List.getD x0 (Int.toNat x4) (0,([],(0,(0,(0,())))))).2.1,()),())) fun y_3 =>
 cond (!y_3.1.1)
 (some (((false,()),())))
 (cond (y_1.1.2.1 != (List.getD x0 (Int.toNat x4) (0,([],(0,(0,(0,())))))).1)
 (some (((false,()),())))
 (tst (decide (0 ≤ x4)) <|
 tst (decide (x4 < (zz (List.length x3)))) <|
 tst (decide (0 ≤ (List.getD x0 (Int.toNat x4) (0,([],(0,(0,(0,())))))).1)) <|
 tst (decide ((List.getD x0 (Int.toNat x4) (0,([],(0,(0,(0,())))))).1 < (zz (List.length (List.getD x3 (Int.toNat x4) []))))) <|
 cond (y_1.1.2.2.1 != (zz (List.length (List.getD (List.getD x3 (Int.toNat x4) []) (Int.toNat (List.getD x0 (Int.toNat x4) (0,([],(0,(0,(0,())))))).1) []))))
 (some (((false,()),())))
 (cond (x4 == (0:Int))
 (cond ((List.getD x0 (Int.toNat x4) (0,([],(0,(0,(0,())))))).2.2.2.1 == (0:Int))
 (cond ((List.getD x0 (Int.toNat x4) (0,([],(0,(0,(0,())))))).2.2.2.2.1 == (-1:Int))
 (some (((decide ((List.getD x0 (Int.toNat x4) (0,([],(0,(0,(0,())))))).2.2.1 ≥ (0:Int)),()),())))
 (some (((false,()),()))))
 (some (((false,()),()))))
 (tst (decide ((0:Int) < (zz (List.length x0)))) <|
 Option.bind (zf Z (((List.getD x0 (Int.toNat x4) (0,([],(0,(0,(0,())))))).2.2.1,()),((0:Int),()),((List.getD x0 (Int.toNat (0:Int)) (0,([],(0,(0,(0,())))))).2.2.1,()),())) fun y_8 =>
 cond (y_8.1.1)
 (Option.bind (zf Z (((List.getD x0 (Int.toNat x4) (0,([],(0,(0,(0,())))))).2.2.2.1,()),((1:Int),()),((5:Int),()),())) fun y_10 =>
 cond (y_10.1.1)
 (cond (((List.getD x0 (Int.toNat x4) (0,([],(0,(0,(0,())))))).2.2.2.2.1 == (-1:Int)) == ((List.getD x0 (Int.toNat x4) (0,([],(0,(0,(0,())))))).2.2.2.1 == (5:Int)))
 (Option.bind (zf Z (((List.getD x0 (Int.toNat x4) (0,([],(0,(0,(0,())))))).2.2.2.2.1,()),((-1:Int),()),(w64 ((zz (List.length x0)) - (1:Int)),()),())) fun y_13 =>
 cond (y_13.1.1)
 (some ((((List.getD x0 (Int.toNat x4) (0,([],(0,(0,(0,())))))).2.2.2.2.1 != x4,()),())))
 (some (((false,()),()))))
 (some (((false,()),()))))
 (some (((false,()),()))))
 (some (((false,()),()))))))))
def znj (Z:Nat) (z:(((List NY) × ((List Bool) × ((List WY) × ((List (List (List Int))) × Unit)))) × ((Int × Unit) × Unit))):Option ((Bool × Unit) × Unit):=zni Z z.1.1 z.1.2.1 z.1.2.2.1 z.1.2.2.2.1 z.2.1.1
abbrev zrL (Z:Nat):LE:=⟨.pure (.agg (.dat (Kd.list KN) (.dat (Kd.list Kd.bool) (.dat (Kd.list KW) (.dat (Kd.list (Kd.list (Kd.list I6))) .nil)))) (.grp (.dat I6 .nil) .nil)) (.grp (.dat Kd.bool .nil) .nil) true,znj Z⟩
theorem zz1 (Z:Nat):EntryOK Tryz.prog 65 (zrL Z).te:=okS (fn:=Tryz.f65) (frz:=[]) (ann:=[]) (cuts:=[]) (rv:=[(4,none)]) Z (TabOK.of (entCons (zx Z) (entCons (zzB Z) (entCons (zrK Z) entNil))) (methNil)) mixed (by kernel_rfl) (by kernel_rfl) (by kernel_rfl) (fun _ => rfl) (fun _ => rfl) (fun _ _ => by kernel_rfl)
def znk (Z:Nat) (x0:List NY) (x1:List Bool) (x2:List WY) (x3:List (List (List Int))) (x4:Int) (x5:Int) (x6:Int) (x7:Int) (x8:Int) (x9:List EY):Option ((Bool × Unit) × Unit) :=
 Option.bind (zf Z ((x5,()),((0:Int),()),(w64 ((zz (List.length x0)) - (1:Int)),()),())) fun y_1 =>
 cond (y_1.1.1)
 (Option.bind (zf Z ((x6,()),((0:Int),()),(w64 ((zz (List.length x0)) - (1:Int)),()),())) fun y_3 =>
 cond (y_3.1.1)
 (cond (x4 == (1:Int))
 (cond (x5 != x6)
 (tst (decide ((0:Int) < (zz (List.length x0)))) <|
 Option.bind (zf Z ((x7,()),((0:Int),()),((List.getD x0 (Int.toNat (0:Int)) (0,([],(0,(0,(0,())))))).2.2.1,()),())) fun y_7 =>
 cond (y_7.1.1)
 (Option.bind (zf Z ((x8,()),((0:Int),()),((4:Int),()),())) fun y_9 =>
 cond (y_9.1.1)
 (some ((((zz (List.length x9)) == (0:Int),()),())))
 (some (((false,()),()))))
 (some (((false,()),()))))
 (some (((false,()),()))))
 (cond (x4 == (2:Int))
 (cond (x5 != x6)
 (cond (x7 == (0:Int))
 (cond (x8 == (0:Int))
 (Option.bind (zfR Z ((x0,x1,x2,x3,()),(x9,()),())) fun y_10 =>
 some (((y_10.1.1,()),())))
 (some (((false,()),()))))
 (some (((false,()),()))))
 (some (((false,()),()))))
 (some (((false,()),())))))
 (cond (x4 == (1:Int))
 (some (((false,()),())))
 (cond (x4 == (2:Int))
 (some (((false,()),())))
 (some (((false,()),()))))))
 (cond (x4 == (1:Int))
 (some (((false,()),())))
 (cond (x4 == (2:Int))
 (some (((false,()),())))
 (some (((false,()),())))))
def znl (Z:Nat) (z:(((List NY) × ((List Bool) × ((List WY) × ((List (List (List Int))) × Unit)))) × (WY × Unit))):Option ((Bool × Unit) × Unit):=znk Z z.1.1 z.1.2.1 z.1.2.2.1 z.1.2.2.2.1 z.2.1.1 z.2.1.2.1 z.2.1.2.2.1 z.2.1.2.2.2.1 z.2.1.2.2.2.2.1 z.2.1.2.2.2.2.2.1
abbrev zrM (Z:Nat):LE:=⟨.pure (.agg (.dat (Kd.list KN) (.dat (Kd.list Kd.bool) (.dat (Kd.list KW) (.dat (Kd.list (Kd.list (Kd.list I6))) .nil)))) (.agg (.dat I6 (.dat I6 (.dat I6 (.dat I6 (.dat I6 (.dat (Kd.list KE) .nil)))))) .nil)) (.grp (.dat Kd.bool .nil) .nil) true,znl Z⟩
theorem zz2 (Z:Nat):EntryOK Tryz.prog 66 (zrM Z).te:=okS (fn:=Tryz.f66) (frz:=[]) (ann:=[]) (cuts:=[]) (rv:=[(4,none)]) Z (TabOK.of (entCons (zx Z) (entCons (zrK Z) entNil)) (methNil)) mixed (by kernel_rfl) (by kernel_rfl) (by kernel_rfl) (fun _ => rfl) (fun _ => rfl) (fun _ _ => by kernel_rfl)
def zp (Z:Nat):Tab:=Tab.of [(41,(zb1 Z).te),(42,(zry Z).te),(64,(zne Z).te),(65,(zrL Z).te),(66,(zrM Z).te)] []
def zrN:List Norm:=[⟨[3,1],[],[],[]⟩,⟨[4,3,1],[],[],[]⟩,⟨[5,1],[],[],[]⟩,⟨[6,1],[],[],[]⟩]
noncomputable def zl:C:=irOf Tryz.prog Tryz.f18 [] zrN []
def zG:List (Nat × Option (Nat × Bool)):=[(2,none)]
abbrev zz3:Sx:=.agg (.dat (Kd.list KN) (.dat (Kd.list Kd.bool) (.dat (Kd.list KW) (.dat (Kd.list (Kd.list (Kd.list I6))) .nil)))) .nil
abbrev zz4:Sx:=.grp (.dat Kd.bool .nil) .nil
abbrev zq:LF:=.pure zz3 zz4 true
abbrev zbd:=(Int) × (List NY) × (List Bool) × (List WY) × (List (List (List Int)))
abbrev zdd:=(Int) × (Int) × (List NY) × (List Bool) × (List WY) × (List (List (List Int)))
abbrev zde:=(Int) × (List NY) × (List Bool) × (List WY) × (List (List (List Int)))
abbrev zdf:=(Int) × (List NY) × (List Bool) × (List WY) × (List (List (List Int)))
def zas (v:zbd):Env × Heap:=([(3,SV.int .i64 v.1),(1,SV.ptr 0 0)],[Blk.cells [SV.es KN v.2.1,SV.es Kd.bool v.2.2.1,SV.es KW v.2.2.2.1,SV.es (Kd.list (Kd.list I6)) v.2.2.2.2] 0 4])
def zdg (v:zdd):Env × Heap:=([(4,SV.int .i64 v.1),(3,SV.int .i64 v.2.1),(1,SV.ptr 0 0)],[Blk.cells [SV.es KN v.2.2.1,SV.es Kd.bool v.2.2.2.1,SV.es KW v.2.2.2.2.1,SV.es (Kd.list (Kd.list I6)) v.2.2.2.2.2] 0 4])
def zdh (v:zde):Env × Heap:=([(5,SV.int .i64 v.1),(1,SV.ptr 0 0)],[Blk.cells [SV.es KN v.2.1,SV.es Kd.bool v.2.2.1,SV.es KW v.2.2.2.1,SV.es (Kd.list (Kd.list I6)) v.2.2.2.2] 0 4])
def zrO (v:zdf):Env × Heap:=([(6,SV.int .i64 v.1),(1,SV.ptr 0 0)],[Blk.cells [SV.es KN v.2.1,SV.es Kd.bool v.2.2.1,SV.es KW v.2.2.2.1,SV.es (Kd.list (Kd.list I6)) v.2.2.2.2] 0 4])
def zdi (Z:Nat) (g0:zbd → Option ((Bool × Unit) × Unit)) (g1:zdd → Option ((Bool × Unit) × Unit)) (v:zdd):Option ((Bool × Unit) × Unit) :=
 cond (decide (v.1 < v.2.1))
 (Option.bind (zfI Z ((v.2.1,()),(v.1,()),())) fun y_2 =>
 tst (decide (0 ≤ y_2.1.1)) <|
 tst (decide (y_2.1.1 < (zz (List.length v.2.2.2.1)))) <|
 Option.bind (zfI Z ((v.1,()),(v.2.1,()),())) fun y_3 =>
 tst (decide (0 ≤ y_3.1.1)) <|
 tst (decide (y_3.1.1 < (zz (List.length v.2.2.2.1)))) <|
 cond (!List.getD v.2.2.2.1 (Int.toNat y_2.1.1) false == List.getD v.2.2.2.1 (Int.toNat y_3.1.1) false)
 (some (((false,()),())))
 (g1 (w64 (v.1 + (1:Int)),v.2.1,v.2.2.1,v.2.2.2.1,v.2.2.2.2.1,v.2.2.2.2.2)))
 (g0 (w64 (v.2.1 + (1:Int)),v.2.2.1,v.2.2.2.1,v.2.2.2.2.1,v.2.2.2.2.2))
def znm (Z:Nat) (g0:zbd → Option ((Bool × Unit) × Unit)) (g1:zdd → Option ((Bool × Unit) × Unit)):zdd → Option ((Bool × Unit) × Unit):=zdi Z g0 g1
theorem zz5 (Z:Nat) (G):zl.lp (zp Z) 0 Z G (endX zG zq) 1 zdg = iter (znm Z (fun v => G 0 (zas v).1 (zas v).2)) Z:=C.lp_iter fun g v =>
 (show run (zp Z) 0 Z (zl.bdAt 1) (zdg v).1 (zdg v).2 (loopK 0 (zl.nmAt 1) g (zl.contAt (zp Z) 0 Z G 0 1 (endX zG zq))) = zdi Z (fun v => G 0 (zas v).1 (zas v).2) (fun v => g (zdg v).1 (zdg v).2) v by kernel_rfl)
def zfS (Z:Nat) (g3:zdf → Option ((Bool × Unit) × Unit)) (v:zdf):Option ((Bool × Unit) × Unit) :=
 cond (decide (v.1 < (zz (List.length v.2.2.2.1))))
 (tst (decide (0 ≤ v.1)) <|
 tst (decide (v.1 < (zz (List.length v.2.2.2.1)))) <|
 Option.bind (znl Z ((v.2.1,v.2.2.1,v.2.2.2.1,v.2.2.2.2,()),((List.getD v.2.2.2.1 (Int.toNat v.1) (0,(0,(0,(0,(0,([],()))))))).1,(List.getD v.2.2.2.1 (Int.toNat v.1) (0,(0,(0,(0,(0,([],()))))))).2.1,(List.getD v.2.2.2.1 (Int.toNat v.1) (0,(0,(0,(0,(0,([],()))))))).2.2.1,(List.getD v.2.2.2.1 (Int.toNat v.1) (0,(0,(0,(0,(0,([],()))))))).2.2.2.1,(List.getD v.2.2.2.1 (Int.toNat v.1) (0,(0,(0,(0,(0,([],()))))))).2.2.2.2.1,(List.getD v.2.2.2.1 (Int.toNat v.1) (0,(0,(0,(0,(0,([],()))))))).2.2.2.2.2.1,()),())) fun y_2 =>
 cond (!y_2.1.1)
 (some (((false,()),())))
 (g3 (w64 (v.1 + (1:Int)),v.2.1,v.2.2.1,v.2.2.2.1,v.2.2.2.2)))
 (tst (decide ((0:Int) < (zz (List.length v.2.1)))) <|
 Option.bind (zf Z (((List.getD v.2.1 (Int.toNat (0:Int)) (0,([],(0,(0,(0,())))))).2.2.1,()),((0:Int),()),((1000:Int),()),())) fun y_2 =>
 some (((y_2.1.1,()),())))
def zfT (Z:Nat) (g3:zdf → Option ((Bool × Unit) × Unit)):zdf → Option ((Bool × Unit) × Unit):=zfS Z g3
theorem zz6 (Z:Nat) (G):zl.lp (zp Z) 0 Z G (endX zG zq) 3 zrO = iter (zfT Z) Z:=C.lp_iter fun g v => by kernel_rfl
def zdj (Z:Nat) (X3:zdf → Option ((Bool × Unit) × Unit)) (g2:zde → Option ((Bool × Unit) × Unit)) (v:zde):Option ((Bool × Unit) × Unit) :=
 cond (decide (v.1 < (5:Int)))
 (Option.bind (znj Z ((v.2.1,v.2.2.1,v.2.2.2.1,v.2.2.2.2,()),(v.1,()),())) fun y_2 =>
 cond (!y_2.1.1)
 (some (((false,()),())))
 (g2 (w64 (v.1 + (1:Int)),v.2.1,v.2.2.1,v.2.2.2.1,v.2.2.2.2)))
 (X3 ((0:Int),v.2.1,v.2.2.1,v.2.2.2.1,v.2.2.2.2))
def zfU (Z:Nat) (g2:zde → Option ((Bool × Unit) × Unit)):zde → Option ((Bool × Unit) × Unit):=zdj Z (iter (zfT Z) Z) g2
theorem zz7 (Z:Nat) (G):zl.lp (zp Z) 0 Z G (endX zG zq) 2 zdh = iter (zfU Z) Z:=C.lp_iter fun g v =>
 (show run (zp Z) 0 Z (zl.bdAt 2) (zdh v).1 (zdh v).2 (loopK 0 (zl.nmAt 2) g (zl.contAt (zp Z) 0 Z G 0 2 (endX zG zq))) = zdj Z (zl.lp (zp Z) 0 Z (fun m => bif Nat.beq m 2 then g else G m) (endX zG zq) 3 zrO) (fun v => g (zdh v).1 (zdh v).2) v by kernel_rfl).trans (by rw [zz6]; rfl)
def zdk (Z:Nat) (X1:zdd → Option ((Bool × Unit) × Unit)) (X2:zde → Option ((Bool × Unit) × Unit)) (g0:zbd → Option ((Bool × Unit) × Unit)) (v:zbd):Option ((Bool × Unit) × Unit) :=
 cond (decide (v.1 < (5:Int)))
 (tst (decide (0 ≤ v.1)) <|
 tst (decide (v.1 < (zz (List.length v.2.1)))) <|
 Option.bind (zf Z (((List.getD v.2.1 (Int.toNat v.1) (0,([],(0,(0,(0,())))))).1,()),((1:Int),()),((20:Int),()),())) fun y_2 =>
 cond (!y_2.1.1)
 (some (((false,()),())))
 (Option.bind (zjn Z ((v.2.1,v.2.2.1,v.2.2.2.1,v.2.2.2.2,()),(v.1,()),())) fun y_4 =>
 cond (!y_4.1.1)
 (some (((false,()),())))
 (Option.bind (zfI Z ((v.1,()),(v.1,()),())) fun y_6 =>
 tst (decide (0 ≤ y_6.1.1)) <|
 tst (decide (y_6.1.1 < (zz (List.length v.2.2.1)))) <|
 cond (List.getD v.2.2.1 (Int.toNat y_6.1.1) false)
 (some (((false,()),())))
 (X1 ((0:Int),v.1,v.2.1,v.2.2.1,v.2.2.2.1,v.2.2.2.2)))))
 (X2 ((0:Int),v.2.1,v.2.2.1,v.2.2.2.1,v.2.2.2.2))
def zfV (Z:Nat) (g0:zbd → Option ((Bool × Unit) × Unit)):zbd → Option ((Bool × Unit) × Unit):=zdk Z (iter (znm Z g0) Z) (iter (zfU Z) Z) g0
theorem zz8 (Z:Nat) (G):zl.lp (zp Z) 0 Z G (endX zG zq) 0 zas = iter (zfV Z) Z:=C.lp_iter fun g v =>
 (show run (zp Z) 0 Z (zl.bdAt 0) (zas v).1 (zas v).2 (loopK 0 (zl.nmAt 0) g (zl.contAt (zp Z) 0 Z G 0 0 (endX zG zq))) = zdk Z (zl.lp (zp Z) 0 Z (fun m => bif Nat.beq m 0 then g else G m) (endX zG zq) 1 zdg) (zl.lp (zp Z) 0 Z (fun m => bif Nat.beq m 0 then g else G m) (endX zG zq) 2 zdh) (fun v => g (zas v).1 (zas v).2) v by kernel_rfl).trans (by rw [zz5,zz7]; rfl)
def zjy (Z:Nat) (X0:zbd → Option ((Bool × Unit) × Unit)) (x0:List NY) (x1:List Bool) (x2:List WY) (x3:List (List (List Int))):Option ((Bool × Unit) × Unit) :=
 cond ((zz (List.length x0)) != (5:Int))
 (some (((false,()),())))
 (cond ((zz (List.length x3)) != (5:Int))
 (some (((false,()),())))
 (cond ((zz (List.length x1)) != (25:Int))
 (some (((false,()),())))
 (cond (decide ((zz (List.length x2)) > (24:Int)))
 (some (((false,()),())))
 (X0 ((0:Int),x0,x1,x2,x3)))))
def zjz (Z:Nat) (z:(((List NY) × ((List Bool) × ((List WY) × ((List (List (List Int))) × Unit)))) × Unit)):Option ((Bool × Unit) × Unit):=zjy Z (iter (zfV Z) Z) z.1.1 z.1.2.1 z.1.2.2.1 z.1.2.2.2.1
theorem zz9 (Z:Nat) (xa:zq.rt.T) (xd:zq.D.T):zq.go (zp Z) Z zl zG xa xd = zjz Z (zq.xb (xa,xd)) :=
 (show zq.go (zp Z) Z zl zG xa xd = zjy Z (zl.lp (zp Z) 0 Z (fun _ _ _ => none) (endX zG zq) 0 zas) xd.1.1 xd.1.2.1 xd.1.2.2.1 xd.1.2.2.2.1 by kernel_rfl).trans (by rw [zz8]; rfl)
abbrev znn (Z:Nat):LE:=⟨zq,zjz Z⟩
theorem zAa (Z:Nat):EntryOK Tryz.prog 18 (znn Z).te:=okF (T:=zp Z) (fn:=Tryz.f18) (le:=znn Z) (frz:=[]) (ann:=zrN) (cuts:=[]) (rv:=zG) (TabOK.of (entCons (zx Z) (entCons (zzD Z) (entCons (zzJ Z) (entCons (zz1 Z) (entCons (zz2 Z) entNil))))) (methNil)) mixed (by kernel_rfl) (by kernel_rfl) (by kernel_rfl) (fun _ => rfl) (fun _ => rfl) (fun xa xd y h => ⟨Z,(zz9 Z xa xd).trans h⟩)
end Go.Proofs.YtljojacnjjgceaaGreat.Den
