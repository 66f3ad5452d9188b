/- Part 6 of the texts behind the row. -/
import Derived.Test.YtljojacnjjgceaaANR5
import Derived.Test.YtljojacnjjgceaaChecked
import Derived.KernelRfl
set_option linter.unusedVariables false
set_option linter.unusedSimpArgs false
namespace Go.Proofs.Ytljojacnjjgceaa.Den
open Go Go.RowKit
theorem mixed : Try.prog.follows .mixedOrders = true := Checked.mixed Try.checked
abbrev I6 : Kd := .int .i64
abbrev KP : Kd := .pair I6 (.pair I6 .unit)
abbrev LP := List (Int × (Int × Unit))
abbrev SumY := (List (List Int)) × ((List Int) × (LP × (Int × (Int × (LP × (Int × Unit))))))
abbrev KS : Kd := .pair (.pair (.list (.list I6)) .unit) (.pair (.pair (.list I6) .unit) (.pair (.pair (.list KP) (.pair I6 (.pair I6 .unit))) (.pair (.pair (.list KP) (.pair I6 .unit)) .unit)))
abbrev KE : Kd := .pair I6 (.pair I6 (.pair I6 (.pair KS .unit)))
abbrev KN : Kd := .pair I6 (.pair (.list KE) (.pair I6 (.pair I6 (.pair I6 .unit))))
abbrev KW : Kd := .pair I6 (.pair I6 (.pair I6 (.pair I6 (.pair I6 (.pair (.list KE) .unit)))))
abbrev SY := ((List (List Int)) × Unit) × (((List Int) × Unit) × ((LP × (Int × (Int × Unit))) × ((LP × (Int × Unit)) × Unit)))
abbrev EY := Int × (Int × (Int × (SY × Unit)))
abbrev NY := Int × ((List EY) × (Int × (Int × (Int × Unit))))
abbrev WY := Int × (Int × (Int × (Int × (Int × ((List EY) × Unit)))))
def w64 (n : Int) : Int := IntKind.wrap .i64 n
def zz (n : Nat) : Int := (n : Int)
theorem zz_eq (n : Nat) : zz n = (n : Int) := rfl
def lit3 {α R : Type} (l : List α) (k : α → α → α → Option R) : Option R := match l with | [a, b, c] => k a b c | _ => none
theorem zz5 {α R : Type} {l : List α} {k : α → α → α → Option R} {r : R} (h : lit3 l k = some r) : ∃ a b c, l = [a, b, c] ∧ k a b c = some r := by
  unfold lit3 at h
  split at h
  · exact ⟨_, _, _, rfl, h⟩
  · cases h
end Go.Proofs.Ytljojacnjjgceaa.Den
namespace Go.Proofs.Ytljojacnjjgceaa.Den
open Go Go.RowKit
def zmp (fuel : Nat) : Tab := Tab.of [] []
def zmq : List Norm := []
noncomputable def zsp : C := irOf Try.prog Try.f15 [] zmq []
def zmr : List (Nat × Option (Nat × Bool)) := [(6, none)]
abbrev zsq : Sx := .grp (.dat I6 .nil) (.grp (.dat I6 .nil) (.grp (.dat I6 .nil) .nil))
abbrev zsr : Sx := .grp (.dat Kd.bool .nil) .nil
abbrev zd9 : LF := .pure zsq zsr true
def zms (fuel : Nat) (x0 : Int) (x1 : Int) (x2 : Int) : Option ((Bool × Unit) × Unit) :=
 cond (decide (x0 ≥ x1))
 (some (((decide (x0 ≤ x2), ()), ())))
 (some (((false, ()), ())))
def zc (fuel : Nat) (z : ((Int × Unit) × ((Int × Unit) × ((Int × Unit) × Unit)))) : Option ((Bool × Unit) × Unit) := zms fuel z.1.1 z.2.1.1 z.2.2.1.1
theorem zss (fuel : Nat) (xa : zd9.rt.T) (xd : zd9.D.T) : zd9.go (zmp fuel) fuel zsp zmr xa xd = zc fuel (zd9.xb (xa, xd)) := by kernel_rfl
abbrev zm (fuel : Nat) : LE := ⟨zd9, zc fuel⟩
theorem zq (fuel : Nat) : EntryOK Try.prog 15 (zm fuel).te := okF (T := zmp fuel) (fn := Try.f15) (le := zm fuel) (frz := []) (ann := zmq) (cuts := []) (rv := zmr) (TabOK.of (entNil) (methNil)) mixed (by kernel_rfl) (by kernel_rfl) (by kernel_rfl) (fun _ => rfl) (fun _ => rfl) (fun xa xd y h => ⟨fuel, (zss fuel xa xd).trans h⟩)
def zea (fuel : Nat) : Tab := Tab.of [] []
def zmt : List Norm := [⟨[4, 0, 3], [], [], []⟩]
noncomputable def zgW : C := irOf Try.prog Try.f63 [] zmt []
def zeb : List (Nat × Option (Nat × Bool)) := [(2, none)]
abbrev zst : Sx := .grp (.dat (Kd.list I6) .nil) .nil
abbrev zsu : Sx := .grp (.dat I6 .nil) .nil
abbrev za6 : LF := .pure zst zsu true
abbrev zcg := (Int) × (List Int) × (Int)
def zmu (v : zcg) : Env × Heap := ([(4, SV.int .i64 v.1), (0, SV.es I6 v.2.1), (3, SV.int .i64 v.2.2)], [])
def zec (fuel : Nat) (g0 : zcg → Option ((Int × Unit) × Unit)) (v : zcg) : Option ((Int × Unit) × Unit) :=
 cond (decide (v.1 < (zz (List.length v.2.1))))
 (tst (decide (0 ≤ v.1)) <|
 tst (decide (v.1 < (zz (List.length v.2.1)))) <|
 g0 (w64 (v.1 + (1 : Int)), v.2.1, w64 (v.2.2 + List.getD v.2.1 (Int.toNat v.1) 0)))
 (some (((v.2.2, ()), ())))
def zgX (fuel : Nat) (g0 : zcg → Option ((Int × Unit) × Unit)) : zcg → Option ((Int × Unit) × Unit) := zec fuel g0
theorem zsv (fuel : Nat) (G) : zgW.lp (zea fuel) 0 fuel G (endX zeb za6) 0 zmu = iter (zgX fuel) fuel := C.lp_iter fun g v => by kernel_rfl
def zmv (fuel : Nat) (X0 : zcg → Option ((Int × Unit) × Unit)) (x0 : List Int) : Option ((Int × Unit) × Unit) :=
 X0 ((0 : Int), x0, (0 : Int))
def zau (fuel : Nat) (z : (((List Int) × Unit) × Unit)) : Option ((Int × Unit) × Unit) := zmv fuel (iter (zgX fuel) fuel) z.1.1
theorem zsw (fuel : Nat) (xa : za6.rt.T) (xd : za6.D.T) : za6.go (zea fuel) fuel zgW zeb xa xd = zau fuel (za6.xb (xa, xd)) :=
  (show za6.go (zea fuel) fuel zgW zeb xa xd = zmv fuel (zgW.lp (zea fuel) 0 fuel (fun _ _ _ => none) (endX zeb za6) 0 zmu) xd.1.1 by kernel_rfl).trans (by rw [zsv]; rfl)
abbrev zed (fuel : Nat) : LE := ⟨za6, zau fuel⟩
theorem zjA (fuel : Nat) : EntryOK Try.prog 63 (zed fuel).te := okF (T := zea fuel) (fn := Try.f63) (le := zed fuel) (frz := []) (ann := zmt) (cuts := []) (rv := zeb) (TabOK.of (entNil) (methNil)) mixed (by kernel_rfl) (by kernel_rfl) (by kernel_rfl) (fun _ => rfl) (fun _ => rfl) (fun xa xd y h => ⟨fuel, (zsw fuel xa xd).trans h⟩)
def zai (fuel : Nat) : Tab := Tab.of [(15, (zm fuel).te), (63, (zed fuel).te)] []
def zmw : List Norm := [⟨[3, 1], [], [], []⟩, ⟨[4, 1, 3], [], [], []⟩]
noncomputable def z5 : C := irOf Try.prog Try.f58 [] zmw []
def zaJ : List (Nat × Option (Nat × Bool)) := [(2, none)]
abbrev zsx : Sx := .agg (.dat (Kd.list (Kd.list I6)) .nil) .nil
abbrev zsy : Sx := .grp (.dat Kd.bool .nil) .nil
abbrev z6 : LF := .pure zsx zsy true
abbrev za7 := (Int) × (List (List Int))
abbrev zch := (Int) × (Int) × (List (List Int))
def zav (v : za7) : Env × Heap := ([(3, SV.int .i64 v.1), (1, SV.ptr 0 0)], [Blk.cells [SV.es (Kd.list I6) v.2] 0 1])
def zci (v : zch) : Env × Heap := ([(4, SV.int .i64 v.1), (1, SV.ptr 0 0), (3, SV.int .i64 v.2.1)], [Blk.cells [SV.es (Kd.list I6) v.2.2] 0 1])
def zcj (fuel : Nat) (g0 : za7 → Option ((Bool × Unit) × Unit)) (g1 : zch → Option ((Bool × Unit) × Unit)) (v : zch) : Option ((Bool × Unit) × Unit) :=
 cond (decide (v.1 < (8 : Int)))
 (tst (decide (0 ≤ v.2.1)) <|
 tst (decide (v.2.1 < (zz (List.length v.2.2)))) <|
 tst (decide (0 ≤ v.1)) <|
 tst (decide (v.1 < (zz (List.length (List.getD v.2.2 (Int.toNat v.2.1) []))))) <|
 Option.bind (zc fuel ((List.getD (List.getD v.2.2 (Int.toNat v.2.1) []) (Int.toNat v.1) 0, ()), ((0 : Int), ()), ((2000 : Int), ()), ())) fun y_2 =>
 cond (!y_2.1.1)
 (some (((false, ()), ())))
 (g1 (w64 (v.1 + (1 : Int)), v.2.1, v.2.2)))
 (tst (decide (0 ≤ v.2.1)) <|
 tst (decide (v.2.1 < (zz (List.length v.2.2)))) <|
 Option.bind (zau fuel ((List.getD v.2.2 (Int.toNat v.2.1) [], ()), ())) fun y_2 =>
 tst (decide ((0 : Int) < (zz (List.length v.2.2)))) <|
 Option.bind (zau fuel ((List.getD v.2.2 (Int.toNat (0 : Int)) [], ()), ())) fun y_3 =>
 cond (y_2.1.1 != y_3.1.1)
 (some (((false, ()), ())))
 (tst (decide (0 ≤ v.2.1)) <|
 tst (decide (v.2.1 < (zz (List.length v.2.2)))) <|
 Option.bind (zau fuel ((List.getD v.2.2 (Int.toNat v.2.1) [], ()), ())) fun y_5 =>
 cond (decide (y_5.1.1 > (2000 : Int)))
 (some (((false, ()), ())))
 (g0 (w64 (v.2.1 + (1 : Int)), v.2.2))))
def zjB (fuel : Nat) (g0 : za7 → Option ((Bool × Unit) × Unit)) (g1 : zch → Option ((Bool × Unit) × Unit)) : zch → Option ((Bool × Unit) × Unit) := zcj fuel g0 g1
theorem zsz (fuel : Nat) (G) : z5.lp (zai fuel) 0 fuel G (endX zaJ z6) 1 zci = iter (zjB fuel (fun v => G 0 (zav v).1 (zav v).2)) fuel := C.lp_iter fun g v =>
  (show run (zai fuel) 0 fuel (z5.bdAt 1) (zci v).1 (zci v).2 (loopK 0 (z5.nmAt 1) g (z5.contAt (zai fuel) 0 fuel G 0 1 (endX zaJ z6))) = zcj fuel (fun v => G 0 (zav v).1 (zav v).2) (fun v => g (zci v).1 (zci v).2) v by kernel_rfl)
def zck (fuel : Nat) (X1 : zch → Option ((Bool × Unit) × Unit)) (g0 : za7 → Option ((Bool × Unit) × Unit)) (v : za7) : Option ((Bool × Unit) × Unit) :=
 cond (decide (v.1 < (3 : Int)))
 (tst (decide (0 ≤ v.1)) <|
 tst (decide (v.1 < (zz (List.length v.2)))) <|
 cond ((zz (List.length (List.getD v.2 (Int.toNat v.1) []))) != (8 : Int))
 (some (((false, ()), ())))
 (X1 ((0 : Int), v.1, v.2)))
 (some (((true, ()), ())))
def zgY (fuel : Nat) (g0 : za7 → Option ((Bool × Unit) × Unit)) : za7 → Option ((Bool × Unit) × Unit) := zck fuel (iter (zjB fuel g0) fuel) g0
theorem zsA (fuel : Nat) (G) : z5.lp (zai fuel) 0 fuel G (endX zaJ z6) 0 zav = iter (zgY fuel) fuel := C.lp_iter fun g v =>
  (show run (zai fuel) 0 fuel (z5.bdAt 0) (zav v).1 (zav v).2 (loopK 0 (z5.nmAt 0) g (z5.contAt (zai fuel) 0 fuel G 0 0 (endX zaJ z6))) = zck fuel (z5.lp (zai fuel) 0 fuel (fun m => bif Nat.beq m 0 then g else G m) (endX zaJ z6) 1 zci) (fun v => g (zav v).1 (zav v).2) v by kernel_rfl).trans (by rw [zsz]; rfl)
def zgZ (fuel : Nat) (X0 : za7 → Option ((Bool × Unit) × Unit)) (x0 : List (List Int)) : Option ((Bool × Unit) × Unit) :=
 cond ((zz (List.length x0)) != (3 : Int))
 (some (((false, ()), ())))
 (X0 ((0 : Int), x0))
def zcl (fuel : Nat) (z : (((List (List Int)) × Unit) × Unit)) : Option ((Bool × Unit) × Unit) := zgZ fuel (iter (zgY fuel) fuel) z.1.1
theorem zsB (fuel : Nat) (xa : z6.rt.T) (xd : z6.D.T) : z6.go (zai fuel) fuel z5 zaJ xa xd = zcl fuel (z6.xb (xa, xd)) :=
  (show z6.go (zai fuel) fuel z5 zaJ xa xd = zgZ fuel (z5.lp (zai fuel) 0 fuel (fun _ _ _ => none) (endX zaJ z6) 0 zav) xd.1.1 by kernel_rfl).trans (by rw [zsA]; rfl)
abbrev zee (fuel : Nat) : LE := ⟨z6, zcl fuel⟩
theorem zjC (fuel : Nat) : EntryOK Try.prog 58 (zee fuel).te := okF (T := zai fuel) (fn := Try.f58) (le := zee fuel) (frz := []) (ann := zmw) (cuts := []) (rv := zaJ) (TabOK.of (entCons (zq fuel) (entCons (zjA fuel) entNil)) (methNil)) mixed (by kernel_rfl) (by kernel_rfl) (by kernel_rfl) (fun _ => rfl) (fun _ => rfl) (fun xa xd y h => ⟨fuel, (zsB fuel xa xd).trans h⟩)
def zef (fuel : Nat) : Tab := Tab.of [(15, (zm fuel).te)] []
def zmx : List Norm := [⟨[3, 1], [], [], []⟩]
noncomputable def zg0 : C := irOf Try.prog Try.f59 [] zmx []
def zeg : List (Nat × Option (Nat × Bool)) := [(2, none)]
abbrev zsC : Sx := .agg (.dat (Kd.list I6) .nil) .nil
abbrev zsD : Sx := .grp (.dat Kd.bool .nil) .nil
abbrev za8 : LF := .pure zsC zsD true
abbrev zcm := (Int) × (List Int)
def zmy (v : zcm) : Env × Heap := ([(3, SV.int .i64 v.1), (1, SV.ptr 0 0)], [Blk.cells [SV.es I6 v.2] 0 1])
def zeh (fuel : Nat) (g0 : zcm → Option ((Bool × Unit) × Unit)) (v : zcm) : Option ((Bool × Unit) × Unit) :=
 cond (decide (v.1 < (zz (List.length v.2))))
 (tst (decide (0 ≤ v.1)) <|
 tst (decide (v.1 < (zz (List.length v.2)))) <|
 Option.bind (zc fuel ((List.getD v.2 (Int.toNat v.1) 0, ()), ((0 : Int), ()), ((63 : Int), ()), ())) fun y_2 =>
 cond (!y_2.1.1)
 (some (((false, ()), ())))
 (cond (decide (v.1 > (0 : Int)))
 (tst (decide (0 ≤ w64 (v.1 - (1 : Int)))) <|
 tst (decide (w64 (v.1 - (1 : Int)) < (zz (List.length v.2)))) <|
 tst (decide (0 ≤ v.1)) <|
 tst (decide (v.1 < (zz (List.length v.2)))) <|
 cond (decide (List.getD v.2 (Int.toNat (w64 (v.1 - (1 : Int)))) 0 ≥ List.getD v.2 (Int.toNat v.1) 0))
 (some (((false, ()), ())))
 (g0 (w64 (v.1 + (1 : Int)), v.2)))
 (g0 (w64 (v.1 + (1 : Int)), v.2))))
 (some (((decide ((zz (List.length v.2)) ≤ (6 : Int)), ()), ())))
def zg1 (fuel : Nat) (g0 : zcm → Option ((Bool × Unit) × Unit)) : zcm → Option ((Bool × Unit) × Unit) := zeh fuel g0
theorem zsE (fuel : Nat) (G) : zg0.lp (zef fuel) 0 fuel G (endX zeg za8) 0 zmy = iter (zg1 fuel) fuel := C.lp_iter fun g v => by kernel_rfl
def zmz (fuel : Nat) (X0 : zcm → Option ((Bool × Unit) × Unit)) (x0 : List Int) : Option ((Bool × Unit) × Unit) :=
 X0 ((0 : Int), x0)
def zei (fuel : Nat) (z : (((List Int) × Unit) × Unit)) : Option ((Bool × Unit) × Unit) := zmz fuel (iter (zg1 fuel) fuel) z.1.1
theorem zsF (fuel : Nat) (xa : za8.rt.T) (xd : za8.D.T) : za8.go (zef fuel) fuel zg0 zeg xa xd = zei fuel (za8.xb (xa, xd)) :=
  (show za8.go (zef fuel) fuel zg0 zeg xa xd = zmz fuel (zg0.lp (zef fuel) 0 fuel (fun _ _ _ => none) (endX zeg za8) 0 zmy) xd.1.1 by kernel_rfl).trans (by rw [zsE]; rfl)
abbrev zg2 (fuel : Nat) : LE := ⟨za8, zei fuel⟩
theorem zmA (fuel : Nat) : EntryOK Try.prog 59 (zg2 fuel).te := okF (T := zef fuel) (fn := Try.f59) (le := zg2 fuel) (frz := []) (ann := zmx) (cuts := []) (rv := zeg) (TabOK.of (entCons (zq fuel) entNil) (methNil)) mixed (by kernel_rfl) (by kernel_rfl) (by kernel_rfl) (fun _ => rfl) (fun _ => rfl) (fun xa xd y h => ⟨fuel, (zsF fuel xa xd).trans h⟩)
def zej (fuel : Nat) : Tab := Tab.of [] []
def zmB : List Norm := [⟨[4, 0, 3], [], [], []⟩]
noncomputable def zg3 : C := irOf Try.prog Try.f73 [] zmB []
def zek : List (Nat × Option (Nat × Bool)) := [(2, none)]
abbrev zsG : Sx := .grp (.dat (Kd.list KP) .nil) .nil
abbrev zsH : Sx := .grp (.dat I6 .nil) .nil
abbrev za9 : LF := .pure zsG zsH true
abbrev zcn := (Int) × LP × (Int)
def zmC (v : zcn) : Env × Heap := ([(4, SV.int .i64 v.1), (0, SV.es KP v.2.1), (3, SV.int .i64 v.2.2)], [])
def zel (fuel : Nat) (g0 : zcn → Option ((Int × Unit) × Unit)) (v : zcn) : Option ((Int × Unit) × Unit) :=
 cond (decide (v.1 < (zz (List.length v.2.1))))
 (tst (decide (0 ≤ v.1)) <|
 tst (decide (v.1 < (zz (List.length v.2.1)))) <|
 g0 (w64 (v.1 + (1 : Int)), v.2.1, w64 (v.2.2 + (List.getD v.2.1 (Int.toNat v.1) (0, (0, ()))).2.1)))
 (some (((v.2.2, ()), ())))
def zg4 (fuel : Nat) (g0 : zcn → Option ((Int × Unit) × Unit)) : zcn → Option ((Int × Unit) × Unit) := zel fuel g0
theorem zsI (fuel : Nat) (G) : zg3.lp (zej fuel) 0 fuel G (endX zek za9) 0 zmC = iter (zg4 fuel) fuel := C.lp_iter fun g v => by kernel_rfl
def zmD (fuel : Nat) (X0 : zcn → Option ((Int × Unit) × Unit)) (x0 : LP) : Option ((Int × Unit) × Unit) :=
 X0 ((0 : Int), x0, (0 : Int))
def zg5 (fuel : Nat) (z : ((LP × Unit) × Unit)) : Option ((Int × Unit) × Unit) := zmD fuel (iter (zg4 fuel) fuel) z.1.1
theorem zsJ (fuel : Nat) (xa : za9.rt.T) (xd : za9.D.T) : za9.go (zej fuel) fuel zg3 zek xa xd = zg5 fuel (za9.xb (xa, xd)) :=
  (show za9.go (zej fuel) fuel zg3 zek xa xd = zmD fuel (zg3.lp (zej fuel) 0 fuel (fun _ _ _ => none) (endX zek za9) 0 zmC) xd.1.1 by kernel_rfl).trans (by rw [zsI]; rfl)
abbrev zjD (fuel : Nat) : LE := ⟨za9, zg5 fuel⟩
theorem zsK (fuel : Nat) : EntryOK Try.prog 73 (zjD fuel).te := okF (T := zej fuel) (fn := Try.f73) (le := zjD fuel) (frz := []) (ann := zmB) (cuts := []) (rv := zek) (TabOK.of (entNil) (methNil)) mixed (by kernel_rfl) (by kernel_rfl) (by kernel_rfl) (fun _ => rfl) (fun _ => rfl) (fun xa xd y h => ⟨fuel, (zsJ fuel xa xd).trans h⟩)
def zem (fuel : Nat) : Tab := Tab.of [(15, (zm fuel).te), (73, (zjD fuel).te)] []
def zmE : List Norm := [⟨[3, 1], [], [], []⟩]
noncomputable def zg6 : C := irOf Try.prog Try.f60 [] zmE []
def zen : List (Nat × Option (Nat × Bool)) := [(2, none)]
abbrev zsL : Sx := .agg (.dat (Kd.list KP) (.dat I6 (.dat I6 .nil))) .nil
abbrev zsM : Sx := .grp (.dat Kd.bool .nil) .nil
abbrev zba : LF := .pure zsL zsM true
abbrev zco := (Int) × LP × (Int) × (Int)
def zmF (v : zco) : Env × Heap := ([(3, SV.int .i64 v.1), (1, SV.ptr 0 0)], [Blk.cells [SV.es KP v.2.1, SV.int .i64 v.2.2.1, SV.int .i64 v.2.2.2] 0 3])
def zeo (fuel : Nat) (g0 : zco → Option ((Bool × Unit) × Unit)) (v : zco) : Option ((Bool × Unit) × Unit) :=
 cond (decide (v.1 < (zz (List.length v.2.1))))
 (tst (decide (0 ≤ v.1)) <|
 tst (decide (v.1 < (zz (List.length v.2.1)))) <|
 Option.bind (zc fuel (((List.getD v.2.1 (Int.toNat v.1) (0, (0, ()))).1, ()), ((0 : Int), ()), ((63 : Int), ()), ())) fun y_2 =>
 cond (!y_2.1.1)
 (some (((false, ()), ())))
 (tst (decide (0 ≤ v.1)) <|
 tst (decide (v.1 < (zz (List.length v.2.1)))) <|
 Option.bind (zc fuel (((List.getD v.2.1 (Int.toNat v.1) (0, (0, ()))).2.1, ()), ((1 : Int), ()), ((2000 : Int), ()), ())) fun y_4 =>
 cond (!y_4.1.1)
 (some (((false, ()), ())))
 (cond (decide (v.1 > (0 : Int)))
 (tst (decide (0 ≤ w64 (v.1 - (1 : Int)))) <|
 tst (decide (w64 (v.1 - (1 : Int)) < (zz (List.length v.2.1)))) <|
 tst (decide (0 ≤ v.1)) <|
 tst (decide (v.1 < (zz (List.length v.2.1)))) <|
 cond (decide ((List.getD v.2.1 (Int.toNat (w64 (v.1 - (1 : Int)))) (0, (0, ()))).1 ≥ (List.getD v.2.1 (Int.toNat v.1) (0, (0, ()))).1))
 (some (((false, ()), ())))
 (g0 (w64 (v.1 + (1 : Int)), v.2.1, v.2.2.1, v.2.2.2)))
 (g0 (w64 (v.1 + (1 : Int)), v.2.1, v.2.2.1, v.2.2.2)))))
 (cond (decide ((zz (List.length v.2.1)) ≤ (4 : Int)))
 (Option.bind (zc fuel ((v.2.2.2, ()), ((0 : Int), ()), ((2000 : Int), ()), ())) fun y_3 =>
 cond (y_3.1.1)
 (Option.bind (zc fuel ((v.2.2.1, ()), ((0 : Int), ()), ((2000 : Int), ()), ())) fun y_5 =>
 cond (y_5.1.1)
 (Option.bind (zg5 fuel ((v.2.1, ()), ())) fun y_7 =>
 some (((decide (w64 (y_7.1.1 + w64 ((5 : Int) * v.2.2.1)) ≤ v.2.2.2), ()), ())))
 (some (((false, ()), ()))))
 (some (((false, ()), ()))))
 (some (((false, ()), ()))))
def zg7 (fuel : Nat) (g0 : zco → Option ((Bool × Unit) × Unit)) : zco → Option ((Bool × Unit) × Unit) := zeo fuel g0
theorem zsN (fuel : Nat) (G) : zg6.lp (zem fuel) 0 fuel G (endX zen zba) 0 zmF = iter (zg7 fuel) fuel := C.lp_iter fun g v => by kernel_rfl
def zmG (fuel : Nat) (X0 : zco → Option ((Bool × Unit) × Unit)) (x0 : LP) (x1 : Int) (x2 : Int) : Option ((Bool × Unit) × Unit) :=
 X0 ((0 : Int), x0, x1, x2)
def zep (fuel : Nat) (z : ((LP × (Int × (Int × Unit))) × Unit)) : Option ((Bool × Unit) × Unit) := zmG fuel (iter (zg7 fuel) fuel) z.1.1 z.1.2.1 z.1.2.2.1
theorem zsO (fuel : Nat) (xa : zba.rt.T) (xd : zba.D.T) : zba.go (zem fuel) fuel zg6 zen xa xd = zep fuel (zba.xb (xa, xd)) :=
  (show zba.go (zem fuel) fuel zg6 zen xa xd = zmG fuel (zg6.lp (zem fuel) 0 fuel (fun _ _ _ => none) (endX zen zba) 0 zmF) xd.1.1 xd.1.2.1 xd.1.2.2.1 by kernel_rfl).trans (by rw [zsN]; rfl)
abbrev zg8 (fuel : Nat) : LE := ⟨zba, zep fuel⟩
theorem zmH (fuel : Nat) : EntryOK Try.prog 60 (zg8 fuel).te := okF (T := zem fuel) (fn := Try.f60) (le := zg8 fuel) (frz := []) (ann := zmE) (cuts := []) (rv := zen) (TabOK.of (entCons (zq fuel) (entCons (zsK fuel) entNil)) (methNil)) mixed (by kernel_rfl) (by kernel_rfl) (by kernel_rfl) (fun _ => rfl) (fun _ => rfl) (fun xa xd y h => ⟨fuel, (zsO fuel xa xd).trans h⟩)
def zeq (fuel : Nat) : Tab := Tab.of [(15, (zm fuel).te)] []
def zmI : List Norm := [⟨[4, 1, 3], [], [], []⟩]
noncomputable def zg9 : C := irOf Try.prog Try.f61 [] zmI []
def zer : List (Nat × Option (Nat × Bool)) := [(2, none)]
abbrev zsP : Sx := .agg (.dat (Kd.list KP) (.dat I6 .nil)) .nil
abbrev zsQ : Sx := .grp (.dat Kd.bool .nil) .nil
abbrev zbb : LF := .pure zsP zsQ true
abbrev zcp := (Int) × (Int) × LP × (Int)
def zmJ (v : zcp) : Env × Heap := ([(4, SV.int .i64 v.1), (1, SV.ptr 0 0), (3, SV.int .i64 v.2.1)], [Blk.cells [SV.es KP v.2.2.1, SV.int .i64 v.2.2.2] 0 2])
def zes (fuel : Nat) (g0 : zcp → Option ((Bool × Unit) × Unit)) (v : zcp) : Option ((Bool × Unit) × Unit) :=
 cond (decide (v.1 < (zz (List.length v.2.2.1))))
 (tst (decide (0 ≤ v.1)) <|
 tst (decide (v.1 < (zz (List.length v.2.2.1)))) <|
 Option.bind (zc fuel (((List.getD v.2.2.1 (Int.toNat v.1) (0, (0, ()))).1, ()), ((1 : Int), ()), ((127 : Int), ()), ())) fun y_2 =>
 cond (!y_2.1.1)
 (some (((false, ()), ())))
 (Option.bind (zc fuel (((List.getD v.2.2.1 (Int.toNat v.1) (0, (0, ()))).2.1, ()), ((1 : Int), ()), ((2000 : Int), ()), ())) fun y_4 =>
 cond (!y_4.1.1)
 (some (((false, ()), ())))
 (cond (decide (v.1 > (0 : Int)))
 (tst (decide (0 ≤ w64 (v.1 - (1 : Int)))) <|
 tst (decide (w64 (v.1 - (1 : Int)) < (zz (List.length v.2.2.1)))) <|
 cond (decide ((List.getD v.2.2.1 (Int.toNat (w64 (v.1 - (1 : Int)))) (0, (0, ()))).1 ≥ (List.getD v.2.2.1 (Int.toNat v.1) (0, (0, ()))).1))
 (some (((false, ()), ())))
 (cond (decide ((List.getD v.2.2.1 (Int.toNat v.1) (0, (0, ()))).1 < (64 : Int)))
 (cond (decide ((List.getD v.2.2.1 (Int.toNat v.1) (0, (0, ()))).2.1 > w64 (Int.tdiv v.2.2.2 (8 : Int))))
 (some (((false, ()), ())))
 (g0 (w64 (v.1 + (1 : Int)), w64 (v.2.1 + (List.getD v.2.2.1 (Int.toNat v.1) (0, (0, ()))).2.1), v.2.2.1, v.2.2.2)))
 (g0 (w64 (v.1 + (1 : Int)), w64 (v.2.1 + (List.getD v.2.2.1 (Int.toNat v.1) (0, (0, ()))).2.1), v.2.2.1, v.2.2.2))))
 (cond (decide ((List.getD v.2.2.1 (Int.toNat v.1) (0, (0, ()))).1 < (64 : Int)))
 (cond (decide ((List.getD v.2.2.1 (Int.toNat v.1) (0, (0, ()))).2.1 > w64 (Int.tdiv v.2.2.2 (8 : Int))))
 (some (((false, ()), ())))
 (g0 (w64 (v.1 + (1 : Int)), w64 (v.2.1 + (List.getD v.2.2.1 (Int.toNat v.1) (0, (0, ()))).2.1), v.2.2.1, v.2.2.2)))
 (g0 (w64 (v.1 + (1 : Int)), w64 (v.2.1 + (List.getD v.2.2.1 (Int.toNat v.1) (0, (0, ()))).2.1), v.2.2.1, v.2.2.2))))))
 (some (((v.2.1 == v.2.2.2, ()), ())))
def zha (fuel : Nat) (g0 : zcp → Option ((Bool × Unit) × Unit)) : zcp → Option ((Bool × Unit) × Unit) := zes fuel g0
theorem zsR (fuel : Nat) (G) : zg9.lp (zeq fuel) 0 fuel G (endX zer zbb) 0 zmJ = iter (zha fuel) fuel := C.lp_iter fun g v => by kernel_rfl
def zjE (fuel : Nat) (X0 : zcp → Option ((Bool × Unit) × Unit)) (x0 : LP) (x1 : Int) : Option ((Bool × Unit) × Unit) :=
 Option.bind (zc fuel ((x1, ()), ((0 : Int), ()), ((2000 : Int), ()), ())) fun y_1 =>
 cond (!y_1.1.1)
 (some (((false, ()), ())))
 (X0 ((0 : Int), (0 : Int), x0, x1))
def zcq (fuel : Nat) (z : ((LP × (Int × Unit)) × Unit)) : Option ((Bool × Unit) × Unit) := zjE fuel (iter (zha fuel) fuel) z.1.1 z.1.2.1
theorem zsS (fuel : Nat) (xa : zbb.rt.T) (xd : zbb.D.T) : zbb.go (zeq fuel) fuel zg9 zer xa xd = zcq fuel (zbb.xb (xa, xd)) :=
  (show zbb.go (zeq fuel) fuel zg9 zer xa xd = zjE fuel (zg9.lp (zeq fuel) 0 fuel (fun _ _ _ => none) (endX zer zbb) 0 zmJ) xd.1.1 xd.1.2.1 by kernel_rfl).trans (by rw [zsR]; rfl)
abbrev zhb (fuel : Nat) : LE := ⟨zbb, zcq fuel⟩
theorem zmK (fuel : Nat) : EntryOK Try.prog 61 (zhb fuel).te := okF (T := zeq fuel) (fn := Try.f61) (le := zhb fuel) (frz := []) (ann := zmI) (cuts := []) (rv := zer) (TabOK.of (entCons (zq fuel) entNil) (methNil)) mixed (by kernel_rfl) (by kernel_rfl) (by kernel_rfl) (fun _ => rfl) (fun _ => rfl) (fun xa xd y h => ⟨fuel, (zsS fuel xa xd).trans h⟩)
def zmL (fuel : Nat) : Tab := Tab.of [(58, (zee fuel).te), (63, (zed fuel).te)] []
def zmM : List Norm := []
noncomputable def zsT : C := irOf Try.prog Try.f62 [] zmM []
def zmN : List (Nat × Option (Nat × Bool)) := [(2, none)]
abbrev zsU : Sx := .agg (.dat (Kd.list (Kd.list I6)) .nil) .nil
abbrev zsV : Sx := .grp (.dat I6 .nil) .nil
abbrev zet : LF := .pure zsU zsV true
def zjF (fuel : Nat) (x0 : List (List Int)) : Option ((Int × Unit) × Unit) :=
 Option.bind (zcl fuel ((x0, ()), ())) fun y_1 =>
 cond (!y_1.1.1)
 (some ((((-1 : Int), ()), ())))
 (tst (decide ((0 : Int) < (zz (List.length x0)))) <|
 Option.bind (zau fuel ((List.getD x0 (Int.toNat (0 : Int)) [], ()), ())) fun y_3 =>
 some (((y_3.1.1, ()), ())))
def zhc (fuel : Nat) (z : (((List (List Int)) × Unit) × Unit)) : Option ((Int × Unit) × Unit) := zjF fuel z.1.1
theorem zsW (fuel : Nat) (xa : zet.rt.T) (xd : zet.D.T) : zet.go (zmL fuel) fuel zsT zmN xa xd = zhc fuel (zet.xb (xa, xd)) := by kernel_rfl
abbrev zjG (fuel : Nat) : LE := ⟨zet, zhc fuel⟩
theorem zsX (fuel : Nat) : EntryOK Try.prog 62 (zjG fuel).te := okF (T := zmL fuel) (fn := Try.f62) (le := zjG fuel) (frz := []) (ann := zmM) (cuts := []) (rv := zmN) (TabOK.of (entCons (zjC fuel) (entCons (zjA fuel) entNil)) (methNil)) mixed (by kernel_rfl) (by kernel_rfl) (by kernel_rfl) (fun _ => rfl) (fun _ => rfl) (fun xa xd y h => ⟨fuel, (zsW fuel xa xd).trans h⟩)
def zmO (fuel : Nat) : Tab := Tab.of [(58, (zee fuel).te), (59, (zg2 fuel).te), (60, (zg8 fuel).te), (61, (zhb fuel).te), (62, (zjG fuel).te)] []
def zmP : List Norm := []
noncomputable def zsY : C := irOf Try.prog Try.f51 [] zmP []
def zmQ : List (Nat × Option (Nat × Bool)) := [(2, none)]
abbrev zsZ : Sx := .agg (.dat (Kd.list (Kd.list I6)) (.dat (Kd.list I6) (.dat (Kd.list KP) (.dat I6 (.dat I6 (.dat (Kd.list KP) (.dat I6 .nil))))))) .nil
abbrev zs0 : Sx := .grp (.dat Kd.bool .nil) .nil
abbrev zeu : LF := .pure zsZ zs0 true
def zjH (fuel : Nat) (x0 : List (List Int)) (x1 : List Int) (x2 : LP) (x3 : Int) (x4 : Int) (x5 : LP) (x6 : Int) : Option ((Bool × Unit) × Unit) :=
 Option.bind (zcl fuel ((x0, ()), ())) fun y_1 =>
 cond (y_1.1.1)
 (Option.bind (zei fuel ((x1, ()), ())) fun y_3 =>
 cond (y_3.1.1)
 (Option.bind (zep fuel ((x2, x3, x4, ()), ())) fun y_5 =>
 cond (y_5.1.1)
 (Option.bind (zcq fuel ((x5, x6, ()), ())) fun y_7 =>
 cond (y_7.1.1)
 (Option.bind (zhc fuel ((x0, ()), ())) fun y_9 =>
 cond (y_9.1.1 == x4)
 (cond (x4 == x6)
 (some (((decide ((zz (List.length x1)) > (0 : Int)) == decide (x4 > (0 : Int)), ()), ())))
 (some (((false, ()), ()))))
 (some (((false, ()), ()))))
 (some (((false, ()), ()))))
 (some (((false, ()), ()))))
 (some (((false, ()), ()))))
 (some (((false, ()), ())))
def zev (fuel : Nat) (z : (SumY × Unit)) : Option ((Bool × Unit) × Unit) := zjH fuel z.1.1 z.1.2.1 z.1.2.2.1 z.1.2.2.2.1 z.1.2.2.2.2.1 z.1.2.2.2.2.2.1 z.1.2.2.2.2.2.2.1
theorem zs1 (fuel : Nat) (xa : zeu.rt.T) (xd : zeu.D.T) : zeu.go (zmO fuel) fuel zsY zmQ xa xd = zev fuel (zeu.xb (xa, xd)) := by kernel_rfl
abbrev zjI (fuel : Nat) : LE := ⟨zeu, zev fuel⟩
theorem zs2 (fuel : Nat) : EntryOK Try.prog 51 (zjI fuel).te := okF (T := zmO fuel) (fn := Try.f51) (le := zjI fuel) (frz := []) (ann := zmP) (cuts := []) (rv := zmQ) (TabOK.of (entCons (zjC fuel) (entCons (zmA fuel) (entCons (zmH fuel) (entCons (zmK fuel) (entCons (zsX fuel) entNil))))) (methNil)) mixed (by kernel_rfl) (by kernel_rfl) (by kernel_rfl) (fun _ => rfl) (fun _ => rfl) (fun xa xd y h => ⟨fuel, (zs1 fuel xa xd).trans h⟩)
def zmR (fuel : Nat) : Tab := Tab.of [] []
def zmS : List Norm := []
noncomputable def zs3 : C := irOf Try.prog Try.f12 [] zmS []
def zmT : List (Nat × Option (Nat × Bool)) := [(2, none)]
abbrev zs4 : Sx := .grp (.dat (Kd.list (Kd.int IntKind.u8)) .nil) .nil
abbrev zs5 : Sx := (.dat (Kd.list (Kd.int IntKind.u8)) (.dat I6 .nil))
abbrev zew : LF := .new zs4 zs5
def zjJ (fuel : Nat) (x0 : List Int) : Option ((List Int) × (Int × Unit)) :=
 cond (decide ((zz (List.length x0)) > (2000 : Int)))
 (tst (decide ((2000 : Int) ≤ (zz (List.length x0)))) <|
 some ((List.drop 0 (List.take (Int.toNat (2000 : Int)) x0), (0 : Int), ())))
 (some ((x0, (0 : Int), ())))
def zhd (fuel : Nat) (z : (((List Int) × Unit) × Unit)) : Option ((List Int) × (Int × Unit)) := zjJ fuel z.1.1
theorem zs6 (fuel : Nat) (xa : zew.rt.T) (xd : zew.D.T) : zew.go (zmR fuel) fuel zs3 zmT xa xd = zhd fuel (zew.xb (xa, xd)) := by kernel_rfl
abbrev zjK (fuel : Nat) : LE := ⟨zew, zhd fuel⟩
theorem zs7 (fuel : Nat) : EntryOK Try.prog 12 (zjK fuel).te := okF (T := zmR fuel) (fn := Try.f12) (le := zjK fuel) (frz := []) (ann := zmS) (cuts := []) (rv := zmT) (TabOK.of (entNil) (methNil)) mixed (by kernel_rfl) (by kernel_rfl) (by kernel_rfl) (fun _ => rfl) (fun _ => rfl) (fun xa xd y h => ⟨fuel, (zs6 fuel xa xd).trans h⟩)
def zmU (fuel : Nat) : Tab := Tab.of [] []
def zmV : List Norm := []
noncomputable def zs8 : C := irOf Try.prog Try.f20 [] zmV []
def zmW : List (Nat × Option (Nat × Bool)) := [(4, none)]
abbrev zs9 : Sx := .grp (.dat I6 .nil) .nil
abbrev zta : Sx := .grp (.dat I6 .nil) .nil
abbrev ztb : Rt := .cells (.dat (Kd.list (Kd.int IntKind.u8)) (.dat I6 .nil))
abbrev zex : LF := .ref ztb zs9 zta false
def zmX (fuel : Nat) (d0 : List Int) (d1 : Int) (x0 : Int) : Option (((List Int) × (Int × Unit)) × ((Int × Unit) × Unit)) :=
 cond (decide (x0 < (1 : Int)))
 (some (((d0, w64 (d1 + (1 : Int)), ()), ((0 : Int), ()), ())))
 (cond ((zz (List.length d0)) == (0 : Int))
 (some (((d0, w64 (d1 + (1 : Int)), ()), ((0 : Int), ()), ())))
 (cond (decide (w64 (w64 (d1 + (1 : Int)) - (1 : Int)) < (zz (List.length d0))))
 (tst (decide (0 ≤ w64 (w64 (d1 + (1 : Int)) - (1 : Int)))) <|
 tst (decide (w64 (w64 (d1 + (1 : Int)) - (1 : Int)) < (zz (List.length d0)))) <|
 tst (!decide (x0 = 0)) <|
 some (((d0, w64 (d1 + (1 : Int)), ()), (Int.tmod (w64 (List.getD d0 (Int.toNat (w64 (w64 (d1 + (1 : Int)) - (1 : Int)))) 0)) x0, ()), ())))
 (tst (!decide ((zz (List.length d0)) = 0)) <|
 tst (decide (0 ≤ Int.tmod (w64 (w64 (d1 + (1 : Int)) - (1 : Int))) (zz (List.length d0)))) <|
 tst (decide (Int.tmod (w64 (w64 (d1 + (1 : Int)) - (1 : Int))) (zz (List.length d0)) < (zz (List.length d0)))) <|
 tst (!decide ((zz (List.length d0)) = 0)) <|
 tst (decide (0 ≤ Int.tmod (w64 (w64 (w64 (w64 (d1 + (1 : Int)) - (1 : Int)) * (7 : Int)) + (3 : Int))) (zz (List.length d0)))) <|
 tst (decide (Int.tmod (w64 (w64 (w64 (w64 (d1 + (1 : Int)) - (1 : Int)) * (7 : Int)) + (3 : Int))) (zz (List.length d0)) < (zz (List.length d0)))) <|
 tst (!decide ((zz (List.length d0)) = 0)) <|
 tst (!decide (x0 = 0)) <|
 some (((d0, w64 (d1 + (1 : Int)), ()), (Int.tmod (w64 (zz (BitVec.toNat (BitVec.ofInt (IntKind.bits IntKind.i64) (w64 (w64 (w64 (w64 (w64 (List.getD d0 (Int.toNat (Int.tmod (w64 (w64 (d1 + (1 : Int)) - (1 : Int))) (zz (List.length d0)))) 0) * (131 : Int)) + w64 (w64 (List.getD d0 (Int.toNat (Int.tmod (w64 (w64 (w64 (w64 (d1 + (1 : Int)) - (1 : Int)) * (7 : Int)) + (3 : Int))) (zz (List.length d0)))) 0) * (1117 : Int))) + w64 (w64 (w64 (d1 + (1 : Int)) - (1 : Int)) * (29 : Int))) + w64 (w64 (Int.tdiv (w64 (w64 (d1 + (1 : Int)) - (1 : Int))) (zz (List.length d0))) * (53 : Int)))) ^^^ BitVec.ofInt (IntKind.bits IntKind.i64) (w64 (Int.tdiv (w64 (w64 (w64 (w64 (w64 (List.getD d0 (Int.toNat (Int.tmod (w64 (w64 (d1 + (1 : Int)) - (1 : Int))) (zz (List.length d0)))) 0) * (131 : Int)) + w64 (w64 (List.getD d0 (Int.toNat (Int.tmod (w64 (w64 (w64 (w64 (d1 + (1 : Int)) - (1 : Int)) * (7 : Int)) + (3 : Int))) (zz (List.length d0)))) 0) * (1117 : Int))) + w64 (w64 (w64 (d1 + (1 : Int)) - (1 : Int)) * (29 : Int))) + w64 (w64 (Int.tdiv (w64 (w64 (d1 + (1 : Int)) - (1 : Int))) (zz (List.length d0))) * (53 : Int)))) (64 : Int))))))) x0, ()), ())))))
def zb (fuel : Nat) (z : (((List Int) × (Int × Unit)) × ((Int × Unit) × Unit))) : Option (((List Int) × (Int × Unit)) × ((Int × Unit) × Unit)) := zmX fuel z.1.1 z.1.2.1 z.2.1.1
theorem ztc (fuel : Nat) (xa : zex.rt.T) (xd : zex.D.T) : zex.go (zmU fuel) fuel zs8 zmW xa xd = zb fuel (zex.xb (xa, xd)) := by kernel_rfl
abbrev zbL (fuel : Nat) : LE := ⟨zex, zb fuel⟩
theorem zey (fuel : Nat) : EntryOK Try.prog 20 (zbL fuel).te := okF (T := zmU fuel) (fn := Try.f20) (le := zbL fuel) (frz := []) (ann := zmV) (cuts := []) (rv := zmW) (TabOK.of (entNil) (methNil)) mixed (by kernel_rfl) (by kernel_rfl) (by kernel_rfl) (fun _ => rfl) (fun _ => rfl) (fun xa xd y h => ⟨fuel, (ztc fuel xa xd).trans h⟩)
end Go.Proofs.Ytljojacnjjgceaa.Den
namespace Go.Proofs.Ytljojacnjjgceaa.Den
open Go Go.RowKit
def zmY (fuel : Nat) : Tab := Tab.of [] []
def zmZ : List Norm := [⟨[2, 1, 0], [], [], []⟩]
noncomputable def ztd : C := irOf Try.prog Try.f45 [] zmZ []
def zm0 : List (Nat × Option (Nat × Bool)) := [(0, some (1, true))]
abbrev zte : Sx := .nil
abbrev ztf : Sx := .agg (.dat (Kd.list (Kd.list I6)) .nil) .nil
abbrev zez : LF := .pure zte ztf false
def ztg (fuel : Nat)  : Option (((List (List Int)) × Unit) × Unit) :=
 some ((([List.replicate (Int.toNat (8 : Int)) 0, List.replicate (Int.toNat (8 : Int)) 0, List.replicate (Int.toNat (8 : Int)) 0], ()), ()))
def zjL (fuel : Nat) (z : Unit) : Option (((List (List Int)) × Unit) × Unit) := ztg fuel
theorem zth (fuel : Nat) (xa : zez.rt.T) (xd : zez.D.T) : zez.go (zmY fuel) (fuel + 6) ztd zm0 xa xd = zjL fuel (zez.xb (xa, xd)) := by kernel_rfl
abbrev zjM (fuel : Nat) : LE := ⟨zez, zjL fuel⟩
theorem zti (fuel : Nat) : EntryOK Try.prog 45 (zjM fuel).te := okF (T := zmY fuel) (fn := Try.f45) (le := zjM fuel) (frz := []) (ann := zmZ) (cuts := []) (rv := zm0) (TabOK.of (entNil) (methNil)) mixed (by kernel_rfl) (by kernel_rfl) (by kernel_rfl) (fun _ => rfl) (fun _ => rfl) (fun xa xd y h => ⟨(fuel + 6), (zth fuel xa xd).trans h⟩)
def zm1 (fuel : Nat) : Tab := Tab.of [(45, (zjM fuel).te)] []
def zm2 : List Norm := []
noncomputable def ztj : C := irOf Try.prog Try.f38 [] zm2 []
def zm3 : List (Nat × Option (Nat × Bool)) := [(0, some (7, true))]
abbrev ztk : Sx := .nil
abbrev ztl : Sx := .agg (.dat (Kd.list (Kd.list I6)) (.dat (Kd.list I6) (.dat (Kd.list KP) (.dat I6 (.dat I6 (.dat (Kd.list KP) (.dat I6 .nil))))))) .nil
abbrev zeA : LF := .pure ztk ztl false
def ztm (fuel : Nat)  : Option (SumY × Unit) :=
 Option.bind (zjL fuel ()) fun y_1 =>
 some (((y_1.1.1, [], [], (0 : Int), (0 : Int), [], (0 : Int), ()), ()))
def zcr (fuel : Nat) (z : Unit) : Option (SumY × Unit) := ztm fuel
theorem ztn (fuel : Nat) (xa : zeA.rt.T) (xd : zeA.D.T) : zeA.go (zm1 fuel) fuel ztj zm3 xa xd = zcr fuel (zeA.xb (xa, xd)) := by kernel_rfl
abbrev zhe (fuel : Nat) : LE := ⟨zeA, zcr fuel⟩
theorem zm4 (fuel : Nat) : EntryOK Try.prog 38 (zhe fuel).te := okF (T := zm1 fuel) (fn := Try.f38) (le := zhe fuel) (frz := []) (ann := zm2) (cuts := []) (rv := zm3) (TabOK.of (entCons (zti fuel) entNil) (methNil)) mixed (by kernel_rfl) (by kernel_rfl) (by kernel_rfl) (fun _ => rfl) (fun _ => rfl) (fun xa xd y h => ⟨fuel, (ztn fuel xa xd).trans h⟩)
def zm5 (fuel : Nat) : Tab := Tab.of [] []
def zm6 : List Norm := [⟨[4, 1, 3, 2], [], [], []⟩]
noncomputable def zto : C := irOf Try.prog Try.f56 [21] zm6 []
def zm7 : List (Nat × Option (Nat × Bool)) := [(2, some (1, true))]
abbrev ztp : Sx := .agg (.dat (Kd.list (Kd.list I6)) .nil) .nil
abbrev ztq : Sx := .agg (.osl 1 (.own 0 I6 (.own 0 I6 (.own 0 I6 .nil))) .nil) .nil
abbrev zjN : LF := .via ztp ztq true (((List (List Int)) × Unit) × Unit) (fun (p : ((List Int × (List Int × (List Int × Unit))) × Unit) × Unit) => (([p.1.1.1, p.1.1.2.1, p.1.1.2.2.1], ()), ())) (fun (y : ((List (List Int)) × Unit) × Unit) => (((y.1.1.getD 0 [], y.1.1.getD 1 [], y.1.1.getD 2 [], ()), ()), ()))
def zbM (fuel : Nat) (x0 : List Int) (x1 : List Int) (x2 : List Int) : Option (((List (List Int)) × Unit) × Unit) :=
 tst (decide (0 + List.length x0 < LIM)) <|
 tst (decide (0 + List.length x1 < LIM)) <|
 tst (decide (0 + List.length x2 < LIM)) <|
 some ((([[] ++ x0, [] ++ x1, [] ++ x2], ()), ()))
def zcs (fuel : Nat) (z : (((List (List Int)) × Unit) × Unit)) : Option (((List (List Int)) × Unit) × Unit) := lit3 z.1.1 fun x0 x1 x2 => zbM fuel x0 x1 x2
theorem ztr (fuel : Nat) (xa : zjN.rt.T) (x0 : List Int) (x1 : List Int) (x2 : List Int) : zjN.go (zm5 fuel) (fuel + 6) zto zm7 xa (([x0, x1, x2], ()), ()) = zbM fuel x0 x1 x2 := by kernel_rfl
abbrev zeB (fuel : Nat) : LE := ⟨zjN, zcs fuel⟩
theorem zjO (fuel : Nat) : EntryOK Try.prog 56 (zeB fuel).te := okF (T := zm5 fuel) (fn := Try.f56) (le := zeB fuel) (frz := [21]) (ann := zm6) (cuts := []) (rv := zm7) (TabOK.of (entNil) (methNil)) mixed (by kernel_rfl) (by kernel_rfl) (by kernel_rfl) (fun _ => rfl) (fun _ => rfl) (fun xa xd y h => by
    obtain ⟨⟨l0, ⟨⟩⟩, ⟨⟩⟩ := xd
    obtain ⟨x0, x1, x2, rfl, h⟩ := zz5 (show lit3 l0 (fun x0 x1 x2 => zbM fuel x0 x1 x2) = some y from h)
    exact ⟨(fuel + 6), (ztr fuel xa x0 x1 x2).trans h⟩)
def zm8 (fuel : Nat) : Tab := Tab.of [] []
def zm9 : List Norm := []
noncomputable def zts : C := irOf Try.prog Try.f64 [] zm9 []
def zna : List (Nat × Option (Nat × Bool)) := [(4, none)]
abbrev ztt : Sx := .grp (.dat I6 .nil) (.grp (.dat I6 .nil) .nil)
abbrev ztu : Sx := .grp (.dat I6 .nil) .nil
abbrev zeC : LF := .pure ztt ztu true
def zjP (fuel : Nat) (x0 : Int) (x1 : Int) : Option ((Int × Unit) × Unit) :=
 tst (decide (0 ≤ x0)) <|
 tst (decide (x0 < (zz 3))) <|
 tst (decide (Int.toNat x0 < 3)) <|
 tst (decide (0 ≤ x0)) <|
 tst (decide (x0 < (zz 3))) <|
 tst (decide (Int.toNat x0 < 3)) <|
 tst (!decide (List.getD [(8 : Int), (16 : Int), (4 : Int)] (Int.toNat x0) 0 = 0)) <|
 some (((Int.tmod (w64 (w64 (w64 (x1 * List.getD [(3 : Int), (5 : Int), (1 : Int)] (Int.toNat x0) 0) + w64 (Int.tdiv x1 (List.getD [(8 : Int), (16 : Int), (4 : Int)] (Int.toNat x0) 0))) + x0)) (8 : Int), ()), ()))
def zaK (fuel : Nat) (z : ((Int × Unit) × ((Int × Unit) × Unit))) : Option ((Int × Unit) × Unit) := zjP fuel z.1.1 z.2.1.1
theorem ztv (fuel : Nat) (xa : zeC.rt.T) (xd : zeC.D.T) : zeC.go (zm8 fuel) fuel zts zna xa xd = zaK fuel (zeC.xb (xa, xd)) := by kernel_rfl
abbrev zjQ (fuel : Nat) : LE := ⟨zeC, zaK fuel⟩
theorem ztw (fuel : Nat) : EntryOK Try.prog 64 (zjQ fuel).te := okF (T := zm8 fuel) (fn := Try.f64) (le := zjQ fuel) (frz := []) (ann := zm9) (cuts := []) (rv := zna) (TabOK.of (entNil) (methNil)) mixed (by kernel_rfl) (by kernel_rfl) (by kernel_rfl) (fun _ => rfl) (fun _ => rfl) (fun xa xd y h => ⟨fuel, (ztv fuel xa xd).trans h⟩)
def znb (fuel : Nat) : Tab := Tab.of [(15, (zm fuel).te), (56, (zeB fuel).te), (58, (zee fuel).te), (63, (zed fuel).te), (64, (zjQ fuel).te)] []
def znc : List Norm := [⟨[9, 8, 1, 2, 6], [], [], []⟩]
noncomputable def ztx : C := irOf Try.prog Try.f52 [] znc []
def znd : List (Nat × Option (Nat × Bool)) := [(6, some (1, true)), (7, none)]
abbrev zty : Sx := .agg (.dat (Kd.list (Kd.list I6)) .nil) (.grp (.dat I6 .nil) (.grp (.dat I6 .nil) .nil))
abbrev ztz : Sx := .agg (.dat (Kd.list (Kd.list I6)) .nil) (.grp (.dat Kd.bool .nil) .nil)
abbrev zeD : LF := .pure zty ztz false
def zjR (fuel : Nat) (x0 : List (List Int)) (x1 : Int) (x2 : Int) : Option (((List (List Int)) × Unit) × ((Bool × Unit) × Unit)) :=
 Option.bind (zcl fuel ((x0, ()), ())) fun y_1 =>
 cond (!y_1.1.1)
 (some ((([], ()), (false, ()), ())))
 (Option.bind (zc fuel ((x1, ()), ((0 : Int), ()), ((63 : Int), ()), ())) fun y_3 =>
 cond (!y_3.1.1)
 (some ((([], ()), (false, ()), ())))
 (tst (decide ((0 : Int) < (zz (List.length x0)))) <|
 Option.bind (zau fuel ((List.getD x0 (Int.toNat (0 : Int)) [], ()), ())) fun y_5 =>
 Option.bind (zc fuel ((x2, ()), ((0 : Int), ()), (w64 ((2000 : Int) - y_5.1.1), ()), ())) fun y_6 =>
 cond (!y_6.1.1)
 (some ((([], ()), (false, ()), ())))
 (Option.bind (zcs fuel ((x0, ()), ())) fun y_8 =>
 Option.bind (zaK fuel (((0 : Int), ()), (x1, ()), ())) fun y_9 =>
 Option.bind (zaK fuel (((0 : Int), ()), (x1, ()), ())) fun y_10 =>
 tst (decide (0 ≤ y_10.1.1)) <|
 tst (decide (y_10.1.1 < (zz (List.length (List.getD y_8.1.1 0 []))))) <|
 tst (decide (Int.toNat y_10.1.1 < List.length (List.getD y_8.1.1 0 []))) <|
 tst (decide (0 ≤ y_9.1.1)) <|
 tst (decide (y_9.1.1 < (zz (List.length (List.getD y_8.1.1 0 []))))) <|
 tst (decide (Int.toNat y_9.1.1 < List.length (List.getD y_8.1.1 0 []))) <|
 let z1_3 := List.set (List.getD y_8.1.1 0 []) (Int.toNat y_9.1.1) (w64 (List.getD (List.getD y_8.1.1 0 []) (Int.toNat y_10.1.1) 0 + x2));
 Option.bind (zaK fuel (((1 : Int), ()), (x1, ()), ())) fun y_11 =>
 Option.bind (zaK fuel (((1 : Int), ()), (x1, ()), ())) fun y_12 =>
 tst (decide (0 ≤ y_12.1.1)) <|
 tst (decide (y_12.1.1 < (zz (List.length (List.getD y_8.1.1 1 []))))) <|
 tst (decide (Int.toNat y_12.1.1 < List.length (List.getD y_8.1.1 1 []))) <|
 tst (decide (0 ≤ y_11.1.1)) <|
 tst (decide (y_11.1.1 < (zz (List.length (List.getD y_8.1.1 1 []))))) <|
 tst (decide (Int.toNat y_11.1.1 < List.length (List.getD y_8.1.1 1 []))) <|
 let z2_4 := List.set (List.getD y_8.1.1 1 []) (Int.toNat y_11.1.1) (w64 (List.getD (List.getD y_8.1.1 1 []) (Int.toNat y_12.1.1) 0 + x2));
 Option.bind (zaK fuel (((2 : Int), ()), (x1, ()), ())) fun y_13 =>
 Option.bind (zaK fuel (((2 : Int), ()), (x1, ()), ())) fun y_14 =>
 tst (decide (0 ≤ y_14.1.1)) <|
 tst (decide (y_14.1.1 < (zz (List.length (List.getD y_8.1.1 2 []))))) <|
 tst (decide (Int.toNat y_14.1.1 < List.length (List.getD y_8.1.1 2 []))) <|
 tst (decide (0 ≤ y_13.1.1)) <|
 tst (decide (y_13.1.1 < (zz (List.length (List.getD y_8.1.1 2 []))))) <|
 tst (decide (Int.toNat y_13.1.1 < List.length (List.getD y_8.1.1 2 []))) <|
 let z3_5 := List.set (List.getD y_8.1.1 2 []) (Int.toNat y_13.1.1) (w64 (List.getD (List.getD y_8.1.1 2 []) (Int.toNat y_14.1.1) 0 + x2));
 some ((([z1_3, z2_4, z3_5], ()), (true, ()), ())))))
def zhf (fuel : Nat) (z : (((List (List Int)) × Unit) × ((Int × Unit) × ((Int × Unit) × Unit)))) : Option (((List (List Int)) × Unit) × ((Bool × Unit) × Unit)) := zjR fuel z.1.1 z.2.1.1 z.2.2.1.1
theorem ztA (fuel : Nat) (xa : zeD.rt.T) (xd : zeD.D.T) : zeD.go (znb fuel) (fuel + 6) ztx znd xa xd = zhf fuel (zeD.xb (xa, xd)) := by kernel_rfl
abbrev zjS (fuel : Nat) : LE := ⟨zeD, zhf fuel⟩
theorem ztB (fuel : Nat) : EntryOK Try.prog 52 (zjS fuel).te := okF (T := znb fuel) (fn := Try.f52) (le := zjS fuel) (frz := []) (ann := znc) (cuts := []) (rv := znd) (TabOK.of (entCons (zq fuel) (entCons (zjO fuel) (entCons (zjC fuel) (entCons (zjA fuel) (entCons (ztw fuel) entNil))))) (methNil)) mixed (by kernel_rfl) (by kernel_rfl) (by kernel_rfl) (fun _ => rfl) (fun _ => rfl) (fun xa xd y h => ⟨(fuel + 6), (ztA fuel xa xd).trans h⟩)
abbrev zbN := Option (((List Int) × Unit) × Unit)
def zeE (fuel : Nat) : Tab := Tab.of [] []
def zne : List Norm := [{ live := [7, 0, 6, 1, 5], fix := [(5, none, I6, true)] }]
noncomputable def zhg : C := irOf Try.prog Try.f65 [] zne []
def zeF : List (Nat × Option (Nat × Bool)) := [(4, none)]
abbrev ztC : Sx := .grp (.dat (Kd.list I6) .nil) (.grp (.dat I6 .nil) .nil)
abbrev ztD : Sx := .grp (.dat (Kd.list I6) .nil) .nil
abbrev zbc : LF := .pure ztC ztD false
abbrev zct := (Int) × (List Int) × (Bool) × (Int) × (List Int)
def znf (v : zct) : Env × Heap := ([(7, SV.int .i64 v.1), (0, SV.es I6 v.2.1), (6, SV.bool v.2.2.1), (1, SV.int .i64 v.2.2.2.1), (5, SV.own 0)], [Blk.arr I6 v.2.2.2.2 0])
def zeG (fuel : Nat) (g0 : zct → zbN) (v : zct) : zbN :=
 cond (decide (v.1 < (zz (List.length v.2.1))))
 (cond (!v.2.2.1)
 (tst (decide (0 ≤ v.1)) <|
 tst (decide (v.1 < (zz (List.length v.2.1)))) <|
 cond (decide (List.getD v.2.1 (Int.toNat v.1) 0 ≥ v.2.2.2.1))
 (tst (decide (List.length v.2.2.2.2 + 1 < LIM)) <|
 tst (decide (0 ≤ v.1)) <|
 tst (decide (v.1 < (zz (List.length v.2.1)))) <|
 cond (List.getD v.2.1 (Int.toNat v.1) 0 != v.2.2.2.1)
 (tst (decide (0 ≤ v.1)) <|
 tst (decide (v.1 < (zz (List.length v.2.1)))) <|
 tst (decide (List.length (v.2.2.2.2 ++ [v.2.2.2.1]) + 1 < LIM)) <|
 g0 (w64 (v.1 + (1 : Int)), v.2.1, true, v.2.2.2.1, v.2.2.2.2 ++ [v.2.2.2.1] ++ [List.getD v.2.1 (Int.toNat v.1) 0]))
 (g0 (w64 (v.1 + (1 : Int)), v.2.1, true, v.2.2.2.1, v.2.2.2.2 ++ [v.2.2.2.1])))
 (tst (decide (0 ≤ v.1)) <|
 tst (decide (v.1 < (zz (List.length v.2.1)))) <|
 cond (List.getD v.2.1 (Int.toNat v.1) 0 != v.2.2.2.1)
 (tst (decide (0 ≤ v.1)) <|
 tst (decide (v.1 < (zz (List.length v.2.1)))) <|
 tst (decide (List.length v.2.2.2.2 + 1 < LIM)) <|
 g0 (w64 (v.1 + (1 : Int)), v.2.1, v.2.2.1, v.2.2.2.1, v.2.2.2.2 ++ [List.getD v.2.1 (Int.toNat v.1) 0]))
 (g0 (w64 (v.1 + (1 : Int)), v.2.1, v.2.2.1, v.2.2.2.1, v.2.2.2.2))))
 (tst (decide (0 ≤ v.1)) <|
 tst (decide (v.1 < (zz (List.length v.2.1)))) <|
 cond (List.getD v.2.1 (Int.toNat v.1) 0 != v.2.2.2.1)
 (tst (decide (0 ≤ v.1)) <|
 tst (decide (v.1 < (zz (List.length v.2.1)))) <|
 tst (decide (List.length v.2.2.2.2 + 1 < LIM)) <|
 g0 (w64 (v.1 + (1 : Int)), v.2.1, v.2.2.1, v.2.2.2.1, v.2.2.2.2 ++ [List.getD v.2.1 (Int.toNat v.1) 0]))
 (g0 (w64 (v.1 + (1 : Int)), v.2.1, v.2.2.1, v.2.2.2.1, v.2.2.2.2))))
 (cond (!v.2.2.1)
 (tst (decide (List.length v.2.2.2.2 + 1 < LIM)) <|
 tst (decide (0 ≤ if (6 : Int) < (zz (List.length (v.2.2.2.2 ++ [v.2.2.2.1]))) then (6 : Int) else (zz (List.length (v.2.2.2.2 ++ [v.2.2.2.1]))))) <|
 tst (decide ((if (6 : Int) < (zz (List.length (v.2.2.2.2 ++ [v.2.2.2.1]))) then (6 : Int) else (zz (List.length (v.2.2.2.2 ++ [v.2.2.2.1])))) ≤ (zz (List.length (v.2.2.2.2 ++ [v.2.2.2.1]))))) <|
 some (((List.take (Int.toNat (if (6 : Int) < (zz (List.length (v.2.2.2.2 ++ [v.2.2.2.1]))) then (6 : Int) else (zz (List.length (v.2.2.2.2 ++ [v.2.2.2.1])))) - 0) (List.drop 0 (v.2.2.2.2 ++ [v.2.2.2.1])), ()), ())))
 (tst (decide (0 ≤ if (6 : Int) < (zz (List.length v.2.2.2.2)) then (6 : Int) else (zz (List.length v.2.2.2.2)))) <|
 tst (decide ((if (6 : Int) < (zz (List.length v.2.2.2.2)) then (6 : Int) else (zz (List.length v.2.2.2.2))) ≤ (zz (List.length v.2.2.2.2)))) <|
 some (((List.take (Int.toNat (if (6 : Int) < (zz (List.length v.2.2.2.2)) then (6 : Int) else (zz (List.length v.2.2.2.2))) - 0) (List.drop 0 v.2.2.2.2), ()), ()))))
def zeH (fuel : Nat) (g0 : zct → zbN) : zct → zbN := zeG fuel g0
theorem ztE (fuel : Nat) (G) : zhg.lp (zeE fuel) 0 fuel G (endX zeF zbc) 0 znf = iter (zeH fuel) fuel := C.lp_iter fun g v => by kernel_rfl
def zng (fuel : Nat) (X0 : zct → zbN) (x0 : List Int) (x1 : Int) : zbN :=
 X0 ((0 : Int), x0, false, x1, [])
def zhh (fuel : Nat) (z : (((List Int) × Unit) × ((Int × Unit) × Unit))) : zbN := zng fuel (iter (zeH fuel) fuel) z.1.1 z.2.1.1
theorem ztF (fuel : Nat) (xa : zbc.rt.T) (xd : zbc.D.T) : zbc.go (zeE fuel) fuel zhg zeF xa xd = zhh fuel (zbc.xb (xa, xd)) :=
  (show zbc.go (zeE fuel) fuel zhg zeF xa xd = zng fuel (zhg.lp (zeE fuel) 0 fuel (fun _ _ _ => none) (endX zeF zbc) 0 znf) xd.1.1 xd.2.1.1 by kernel_rfl).trans (by rw [ztE]; rfl)
abbrev zjT (fuel : Nat) : LE := ⟨zbc, zhh fuel⟩
theorem ztG (fuel : Nat) : EntryOK Try.prog 65 (zjT fuel).te := okF (T := zeE fuel) (fn := Try.f65) (le := zjT fuel) (frz := []) (ann := zne) (cuts := []) (rv := zeF) (TabOK.of (entNil) (methNil)) mixed (by kernel_rfl) (by kernel_rfl) (by kernel_rfl) (fun _ => rfl) (fun _ => rfl) (fun xa xd y h => ⟨fuel, (ztF fuel xa xd).trans h⟩)
def znh (fuel : Nat) : Tab := Tab.of [(15, (zm fuel).te)] []
def zni : List Norm := []
noncomputable def ztH : C := irOf Try.prog Try.f66 [] zni []
def znj : List (Nat × Option (Nat × Bool)) := [(2, none)]
abbrev ztI : Sx := .grp (.dat I6 .nil) .nil
abbrev ztJ : Sx := .grp (.dat I6 .nil) .nil
abbrev zeI : LF := .pure ztI ztJ true
def zjU (fuel : Nat) (x0 : Int) : Option ((Int × Unit) × Unit) :=
 Option.bind (zc fuel ((x0, ()), ((0 : Int), ()), ((63 : Int), ()), ())) fun y_1 =>
 cond (!y_1.1.1)
 (some ((((-1 : Int), ()), ())))
 (some (((Int.tmod (w64 (w64 (x0 * (37 : Int)) + (11 : Int))) (64 : Int), ()), ())))
def zhi (fuel : Nat) (z : ((Int × Unit) × Unit)) : Option ((Int × Unit) × Unit) := zjU fuel z.1.1
theorem ztK (fuel : Nat) (xa : zeI.rt.T) (xd : zeI.D.T) : zeI.go (znh fuel) fuel ztH znj xa xd = zhi fuel (zeI.xb (xa, xd)) := by kernel_rfl
abbrev zjV (fuel : Nat) : LE := ⟨zeI, zhi fuel⟩
theorem ztL (fuel : Nat) : EntryOK Try.prog 66 (zjV fuel).te := okF (T := znh fuel) (fn := Try.f66) (le := zjV fuel) (frz := []) (ann := zni) (cuts := []) (rv := znj) (TabOK.of (entCons (zq fuel) entNil) (methNil)) mixed (by kernel_rfl) (by kernel_rfl) (by kernel_rfl) (fun _ => rfl) (fun _ => rfl) (fun xa xd y h => ⟨fuel, (ztK fuel xa xd).trans h⟩)
def znk (fuel : Nat) : Tab := Tab.of [(15, (zm fuel).te), (59, (zg2 fuel).te), (65, (zjT fuel).te), (66, (zjV fuel).te)] []
def znl : List Norm := []
noncomputable def ztM : C := irOf Try.prog Try.f53 [] znl []
def znm : List (Nat × Option (Nat × Bool)) := [(4, some (1, true)), (5, none)]
abbrev ztN : Sx := .agg (.dat (Kd.list I6) .nil) (.grp (.dat I6 .nil) .nil)
abbrev ztO : Sx := .agg (.dat (Kd.list I6) .nil) (.grp (.dat Kd.bool .nil) .nil)
abbrev zeJ : LF := .pure ztN ztO false
def zjW (fuel : Nat) (x0 : List Int) (x1 : Int) : Option (((List Int) × Unit) × ((Bool × Unit) × Unit)) :=
 Option.bind (zei fuel ((x0, ()), ())) fun y_1 =>
 cond (!y_1.1.1)
 (some ((([], ()), (false, ()), ())))
 (Option.bind (zc fuel ((x1, ()), ((0 : Int), ()), ((63 : Int), ()), ())) fun y_3 =>
 cond (!y_3.1.1)
 (some ((([], ()), (false, ()), ())))
 (Option.bind (zhi fuel ((x1, ()), ())) fun y_5 =>
 Option.bind (zhh fuel ((x0, ()), (y_5.1.1, ()), ())) fun y_6 =>
 some (((y_6.1.1, ()), (true, ()), ()))))
def zhj (fuel : Nat) (z : (((List Int) × Unit) × ((Int × Unit) × Unit))) : Option (((List Int) × Unit) × ((Bool × Unit) × Unit)) := zjW fuel z.1.1 z.2.1.1
theorem ztP (fuel : Nat) (xa : zeJ.rt.T) (xd : zeJ.D.T) : zeJ.go (znk fuel) fuel ztM znm xa xd = zhj fuel (zeJ.xb (xa, xd)) := by kernel_rfl
abbrev zjX (fuel : Nat) : LE := ⟨zeJ, zhj fuel⟩
theorem ztQ (fuel : Nat) : EntryOK Try.prog 53 (zjX fuel).te := okF (T := znk fuel) (fn := Try.f53) (le := zjX fuel) (frz := []) (ann := znl) (cuts := []) (rv := znm) (TabOK.of (entCons (zq fuel) (entCons (zmA fuel) (entCons (ztG fuel) (entCons (ztL fuel) entNil)))) (methNil)) mixed (by kernel_rfl) (by kernel_rfl) (by kernel_rfl) (fun _ => rfl) (fun _ => rfl) (fun xa xd y h => ⟨fuel, (ztP fuel xa xd).trans h⟩)
def zaj (fuel : Nat) : Tab := Tab.of [] []
def znn : List Norm := [⟨[4, 0, 3], [], [], []⟩, ⟨[6, 0, 4, 5, 3], [], [], []⟩]
noncomputable def z7 : C := irOf Try.prog Try.f74 [] znn []
def zaL : List (Nat × Option (Nat × Bool)) := [(2, none)]
abbrev ztR : Sx := .grp (.dat (Kd.list KP) .nil) .nil
abbrev ztS : Sx := .grp (.dat I6 .nil) .nil
abbrev z8 : LF := .pure ztR ztS true
abbrev zbd := (Int) × LP × (Int)
abbrev zcu := (Int) × LP × (Int) × (Int) × (Int)
def zaw (v : zbd) : Env × Heap := ([(4, SV.int .i64 v.1), (0, SV.es KP v.2.1), (3, SV.int .i64 v.2.2)], [])
def zcv (v : zcu) : Env × Heap := ([(6, SV.int .i64 v.1), (0, SV.es KP v.2.1), (4, SV.int .i64 v.2.2.1), (5, SV.int .i64 v.2.2.2.1), (3, SV.int .i64 v.2.2.2.2)], [])
def zcw (fuel : Nat) (g0 : zbd → Option ((Int × Unit) × Unit)) (g1 : zcu → Option ((Int × Unit) × Unit)) (v : zcu) : Option ((Int × Unit) × Unit) :=
 cond (decide (v.1 < (zz (List.length v.2.1))))
 (tst (decide (0 ≤ v.1)) <|
 tst (decide (v.1 < (zz (List.length v.2.1)))) <|
 tst (decide (0 ≤ v.2.2.1)) <|
 tst (decide (v.2.2.1 < (zz (List.length v.2.1)))) <|
 cond (decide ((List.getD v.2.1 (Int.toNat v.1) (0, (0, ()))).2.1 ≥ (List.getD v.2.1 (Int.toNat v.2.2.1) (0, (0, ()))).2.1))
 (g1 (w64 (v.1 + (1 : Int)), v.2.1, v.2.2.1, w64 (v.2.2.2.1 + (1 : Int)), v.2.2.2.2))
 (g1 (w64 (v.1 + (1 : Int)), v.2.1, v.2.2.1, v.2.2.2.1, v.2.2.2.2)))
 (cond (decide (v.2.2.2.1 > (4 : Int)))
 (tst (decide (0 ≤ v.2.2.1)) <|
 tst (decide (v.2.2.1 < (zz (List.length v.2.1)))) <|
 g0 (w64 (v.2.2.1 + (1 : Int)), v.2.1, if (List.getD v.2.1 (Int.toNat v.2.2.1) (0, (0, ()))).2.1 > v.2.2.2.2 then (List.getD v.2.1 (Int.toNat v.2.2.1) (0, (0, ()))).2.1 else v.2.2.2.2))
 (g0 (w64 (v.2.2.1 + (1 : Int)), v.2.1, v.2.2.2.2)))
def zjY (fuel : Nat) (g0 : zbd → Option ((Int × Unit) × Unit)) (g1 : zcu → Option ((Int × Unit) × Unit)) : zcu → Option ((Int × Unit) × Unit) := zcw fuel g0 g1
theorem ztT (fuel : Nat) (G) : z7.lp (zaj fuel) 0 fuel G (endX zaL z8) 1 zcv = iter (zjY fuel (fun v => G 0 (zaw v).1 (zaw v).2)) fuel := C.lp_iter fun g v =>
  (show run (zaj fuel) 0 fuel (z7.bdAt 1) (zcv v).1 (zcv v).2 (loopK 0 (z7.nmAt 1) g (z7.contAt (zaj fuel) 0 fuel G 0 1 (endX zaL z8))) = zcw fuel (fun v => G 0 (zaw v).1 (zaw v).2) (fun v => g (zcv v).1 (zcv v).2) v by kernel_rfl)
def zcx (fuel : Nat) (X1 : zcu → Option ((Int × Unit) × Unit)) (g0 : zbd → Option ((Int × Unit) × Unit)) (v : zbd) : Option ((Int × Unit) × Unit) :=
 cond (decide (v.1 < (zz (List.length v.2.1))))
 (X1 ((0 : Int), v.2.1, v.1, (0 : Int), v.2.2))
 (some (((v.2.2, ()), ())))
def zhk (fuel : Nat) (g0 : zbd → Option ((Int × Unit) × Unit)) : zbd → Option ((Int × Unit) × Unit) := zcx fuel (iter (zjY fuel g0) fuel) g0
theorem ztU (fuel : Nat) (G) : z7.lp (zaj fuel) 0 fuel G (endX zaL z8) 0 zaw = iter (zhk fuel) fuel := C.lp_iter fun g v =>
  (show run (zaj fuel) 0 fuel (z7.bdAt 0) (zaw v).1 (zaw v).2 (loopK 0 (z7.nmAt 0) g (z7.contAt (zaj fuel) 0 fuel G 0 0 (endX zaL z8))) = zcx fuel (z7.lp (zaj fuel) 0 fuel (fun m => bif Nat.beq m 0 then g else G m) (endX zaL z8) 1 zcv) (fun v => g (zaw v).1 (zaw v).2) v by kernel_rfl).trans (by rw [ztT]; rfl)
def zno (fuel : Nat) (X0 : zbd → Option ((Int × Unit) × Unit)) (x0 : LP) : Option ((Int × Unit) × Unit) :=
 X0 ((0 : Int), x0, (0 : Int))
def zhl (fuel : Nat) (z : ((LP × Unit) × Unit)) : Option ((Int × Unit) × Unit) := zno fuel (iter (zhk fuel) fuel) z.1.1
theorem ztV (fuel : Nat) (xa : z8.rt.T) (xd : z8.D.T) : z8.go (zaj fuel) fuel z7 zaL xa xd = zhl fuel (z8.xb (xa, xd)) :=
  (show z8.go (zaj fuel) fuel z7 zaL xa xd = zno fuel (z7.lp (zaj fuel) 0 fuel (fun _ _ _ => none) (endX zaL z8) 0 zaw) xd.1.1 by kernel_rfl).trans (by rw [ztU]; rfl)
abbrev zjZ (fuel : Nat) : LE := ⟨z8, zhl fuel⟩
theorem ztW (fuel : Nat) : EntryOK Try.prog 74 (zjZ fuel).te := okF (T := zaj fuel) (fn := Try.f74) (le := zjZ fuel) (frz := []) (ann := znn) (cuts := []) (rv := zaL) (TabOK.of (entNil) (methNil)) mixed (by kernel_rfl) (by kernel_rfl) (by kernel_rfl) (fun _ => rfl) (fun _ => rfl) (fun xa xd y h => ⟨fuel, (ztV fuel xa xd).trans h⟩)
abbrev zbO := Option ((LP × Unit) × Unit)
def zeK (fuel : Nat) : Tab := Tab.of [] []
def znp : List Norm := [{ live := [6, 0, 1, 5], fix := [(5, none, KP, true)] }]
noncomputable def zhm : C := irOf Try.prog Try.f75 [] znp []
def zeL : List (Nat × Option (Nat × Bool)) := [(4, none)]
abbrev ztX : Sx := .grp (.dat (Kd.list KP) .nil) (.grp (.dat I6 .nil) .nil)
abbrev ztY : Sx := .grp (.own 0 KP .nil) .nil
abbrev zbe : LF := .pure ztX ztY true
abbrev zcy := (Int) × LP × (Int) × LP
def znq (v : zcy) : Env × Heap := ([(6, SV.int .i64 v.1), (0, SV.es KP v.2.1), (1, SV.int .i64 v.2.2.1), (5, SV.own 0)], [Blk.arr KP v.2.2.2 0])
def zeM (fuel : Nat) (g0 : zcy → zbO) (v : zcy) : zbO :=
 cond (decide (v.1 < (zz (List.length v.2.1))))
 (tst (decide (0 ≤ v.1)) <|
 tst (decide (v.1 < (zz (List.length v.2.1)))) <|
 cond (decide ((List.getD v.2.1 (Int.toNat v.1) (0, (0, ()))).2.1 > v.2.2.1))
 (tst (decide (0 ≤ v.1)) <|
 tst (decide (v.1 < (zz (List.length v.2.1)))) <|
 tst (decide (0 ≤ v.1)) <|
 tst (decide (v.1 < (zz (List.length v.2.1)))) <|
 tst (decide (List.length v.2.2.2 + 1 < LIM)) <|
 g0 (w64 (v.1 + (1 : Int)), v.2.1, v.2.2.1, v.2.2.2 ++ [((List.getD v.2.1 (Int.toNat v.1) (0, (0, ()))).1, w64 ((List.getD v.2.1 (Int.toNat v.1) (0, (0, ()))).2.1 - v.2.2.1), ())]))
 (g0 (w64 (v.1 + (1 : Int)), v.2.1, v.2.2.1, v.2.2.2)))
 (some (((v.2.2.2, ()), ())))
def zeN (fuel : Nat) (g0 : zcy → zbO) : zcy → zbO := zeM fuel g0
theorem ztZ (fuel : Nat) (G) : zhm.lp (zeK fuel) 0 fuel G (endX zeL zbe) 0 znq = iter (zeN fuel) fuel := C.lp_iter fun g v => by kernel_rfl
def znr (fuel : Nat) (X0 : zcy → zbO) (x0 : LP) (x1 : Int) : zbO :=
 X0 ((0 : Int), x0, x1, [])
def zhn (fuel : Nat) (z : ((LP × Unit) × ((Int × Unit) × Unit))) : zbO := znr fuel (iter (zeN fuel) fuel) z.1.1 z.2.1.1
theorem zt0 (fuel : Nat) (xa : zbe.rt.T) (xd : zbe.D.T) : zbe.go (zeK fuel) fuel zhm zeL xa xd = zhn fuel (zbe.xb (xa, xd)) :=
  (show zbe.go (zeK fuel) fuel zhm zeL xa xd = znr fuel (zhm.lp (zeK fuel) 0 fuel (fun _ _ _ => none) (endX zeL zbe) 0 znq) xd.1.1 xd.2.1.1 by kernel_rfl).trans (by rw [ztZ]; rfl)
abbrev zj0 (fuel : Nat) : LE := ⟨zbe, zhn fuel⟩
theorem zt1 (fuel : Nat) : EntryOK Try.prog 75 (zj0 fuel).te := okF (T := zeK fuel) (fn := Try.f75) (le := zj0 fuel) (frz := []) (ann := znp) (cuts := []) (rv := zeL) (TabOK.of (entNil) (methNil)) mixed (by kernel_rfl) (by kernel_rfl) (by kernel_rfl) (fun _ => rfl) (fun _ => rfl) (fun xa xd y h => ⟨fuel, (zt0 fuel xa xd).trans h⟩)
def zns (fuel : Nat) : Tab := Tab.of [(74, (zjZ fuel).te), (75, (zj0 fuel).te)] []
def znt : List Norm := []
noncomputable def zt2 : C := irOf Try.prog Try.f67 [] znt []
def znu : List (Nat × Option (Nat × Bool)) := [(2, some (3, true))]
abbrev zt3 : Sx := .agg (.dat (Kd.list KP) (.dat I6 (.dat I6 .nil))) .nil
abbrev zt4 : Sx := .agg (.own 0 KP (.dat I6 (.dat I6 .nil))) .nil
abbrev zeO : LF := .pure zt3 zt4 true
def zj1 (fuel : Nat) (x0 : LP) (x1 : Int) (x2 : Int) : Option ((LP × (Int × (Int × Unit))) × Unit) :=
 Option.bind (zhl fuel ((x0, ()), ())) fun y_1 =>
 Option.bind (zhn fuel ((x0, ()), (y_1.1.1, ()), ())) fun y_2 =>
 some (((y_2.1.1, w64 (x1 + y_1.1.1), x2, ()), ()))
def zho (fuel : Nat) (z : ((LP × (Int × (Int × Unit))) × Unit)) : Option ((LP × (Int × (Int × Unit))) × Unit) := zj1 fuel z.1.1 z.1.2.1 z.1.2.2.1
theorem zt5 (fuel : Nat) (xa : zeO.rt.T) (xd : zeO.D.T) : zeO.go (zns fuel) fuel zt2 znu xa xd = zho fuel (zeO.xb (xa, xd)) := by kernel_rfl
abbrev zj2 (fuel : Nat) : LE := ⟨zeO, zho fuel⟩
theorem zt6 (fuel : Nat) : EntryOK Try.prog 67 (zj2 fuel).te := okF (T := zns fuel) (fn := Try.f67) (le := zj2 fuel) (frz := []) (ann := znt) (cuts := []) (rv := znu) (TabOK.of (entCons (ztW fuel) (entCons (zt1 fuel) entNil)) (methNil)) mixed (by kernel_rfl) (by kernel_rfl) (by kernel_rfl) (fun _ => rfl) (fun _ => rfl) (fun xa xd y h => ⟨fuel, (zt5 fuel xa xd).trans h⟩)
abbrev zbP := Option ((LP × Unit) × Unit)
def zeP (fuel : Nat) : Tab := Tab.of [] []
def znv : List Norm := [{ live := [7, 0, 6, 3, 5], fix := [(5, none, KP, true)] }]
noncomputable def zhp : C := irOf Try.prog Try.f68 [] znv []
def zeQ : List (Nat × Option (Nat × Bool)) := [(4, none)]
abbrev zt7 : Sx := .grp (.dat (Kd.list KP) .nil) (.agg (.dat I6 (.dat I6 .nil)) .nil)
abbrev zt8 : Sx := .grp (.own 0 KP .nil) .nil
abbrev zbf : LF := .pure zt7 zt8 true
abbrev zcz := (Int) × LP × (Bool) × (Int) × (Int) × LP
def znw (v : zcz) : Env × Heap := ([(7, SV.int .i64 v.1), (0, SV.es KP v.2.1), (6, SV.bool v.2.2.1), (3, SV.ptr 0 0), (5, SV.own 1)], [Blk.cells [SV.int .i64 v.2.2.2.1, SV.int .i64 v.2.2.2.2.1] 0 2, Blk.arr KP v.2.2.2.2.2 0])
def zeR (fuel : Nat) (g0 : zcz → zbP) (v : zcz) : zbP :=
 cond (decide (v.1 < (zz (List.length v.2.1))))
 (cond (!v.2.2.1)
 (tst (decide (0 ≤ v.1)) <|
 tst (decide (v.1 < (zz (List.length v.2.1)))) <|
 cond (decide ((List.getD v.2.1 (Int.toNat v.1) (0, (0, ()))).1 ≥ v.2.2.2.1))
 (tst (decide (0 ≤ v.1)) <|
 tst (decide (v.1 < (zz (List.length v.2.1)))) <|
 cond ((List.getD v.2.1 (Int.toNat v.1) (0, (0, ()))).1 == v.2.2.2.1)
 (tst (decide (0 ≤ v.1)) <|
 tst (decide (v.1 < (zz (List.length v.2.1)))) <|
 tst (decide (List.length v.2.2.2.2.2 + 1 < LIM)) <|
 g0 (w64 (v.1 + (1 : Int)), v.2.1, true, v.2.2.2.1, v.2.2.2.2.1, v.2.2.2.2.2 ++ [(v.2.2.2.1, w64 (v.2.2.2.2.1 + (List.getD v.2.1 (Int.toNat v.1) (0, (0, ()))).2.1), ())]))
 (tst (decide (List.length v.2.2.2.2.2 + 1 < LIM)) <|
 tst (decide (0 ≤ v.1)) <|
 tst (decide (v.1 < (zz (List.length v.2.1)))) <|
 tst (decide (List.length (v.2.2.2.2.2 ++ [(v.2.2.2.1, v.2.2.2.2.1, ())]) + 1 < LIM)) <|
 g0 (w64 (v.1 + (1 : Int)), v.2.1, true, v.2.2.2.1, v.2.2.2.2.1, v.2.2.2.2.2 ++ [(v.2.2.2.1, v.2.2.2.2.1, ())] ++ [((List.getD v.2.1 (Int.toNat v.1) (0, (0, ()))).1, (List.getD v.2.1 (Int.toNat v.1) (0, (0, ()))).2.1, ())])))
 (tst (decide (0 ≤ v.1)) <|
 tst (decide (v.1 < (zz (List.length v.2.1)))) <|
 tst (decide (List.length v.2.2.2.2.2 + 1 < LIM)) <|
 g0 (w64 (v.1 + (1 : Int)), v.2.1, v.2.2.1, v.2.2.2.1, v.2.2.2.2.1, v.2.2.2.2.2 ++ [((List.getD v.2.1 (Int.toNat v.1) (0, (0, ()))).1, (List.getD v.2.1 (Int.toNat v.1) (0, (0, ()))).2.1, ())])))
 (tst (decide (0 ≤ v.1)) <|
 tst (decide (v.1 < (zz (List.length v.2.1)))) <|
 tst (decide (List.length v.2.2.2.2.2 + 1 < LIM)) <|
 g0 (w64 (v.1 + (1 : Int)), v.2.1, v.2.2.1, v.2.2.2.1, v.2.2.2.2.1, v.2.2.2.2.2 ++ [((List.getD v.2.1 (Int.toNat v.1) (0, (0, ()))).1, (List.getD v.2.1 (Int.toNat v.1) (0, (0, ()))).2.1, ())])))
 (cond (!v.2.2.1)
 (tst (decide (List.length v.2.2.2.2.2 + 1 < LIM)) <|
 some (((v.2.2.2.2.2 ++ [(v.2.2.2.1, v.2.2.2.2.1, ())], ()), ())))
 (some (((v.2.2.2.2.2, ()), ()))))
def zeS (fuel : Nat) (g0 : zcz → zbP) : zcz → zbP := zeR fuel g0
theorem zt9 (fuel : Nat) (G) : zhp.lp (zeP fuel) 0 fuel G (endX zeQ zbf) 0 znw = iter (zeS fuel) fuel := C.lp_iter fun g v => by kernel_rfl
def znx (fuel : Nat) (X0 : zcz → zbP) (x0 : LP) (x1 : Int) (x2 : Int) : zbP :=
 X0 ((0 : Int), x0, false, x1, x2, [])
def zhq (fuel : Nat) (z : ((LP × Unit) × ((Int × (Int × Unit)) × Unit))) : zbP := znx fuel (iter (zeS fuel) fuel) z.1.1 z.2.1.1 z.2.1.2.1
theorem zua (fuel : Nat) (xa : zbf.rt.T) (xd : zbf.D.T) : zbf.go (zeP fuel) fuel zhp zeQ xa xd = zhq fuel (zbf.xb (xa, xd)) :=
  (show zbf.go (zeP fuel) fuel zhp zeQ xa xd = znx fuel (zhp.lp (zeP fuel) 0 fuel (fun _ _ _ => none) (endX zeQ zbf) 0 znw) xd.1.1 xd.2.1.1 xd.2.1.2.1 by kernel_rfl).trans (by rw [zt9]; rfl)
abbrev zj3 (fuel : Nat) : LE := ⟨zbf, zhq fuel⟩
theorem zub (fuel : Nat) : EntryOK Try.prog 68 (zj3 fuel).te := okF (T := zeP fuel) (fn := Try.f68) (le := zj3 fuel) (frz := []) (ann := znv) (cuts := []) (rv := zeQ) (TabOK.of (entNil) (methNil)) mixed (by kernel_rfl) (by kernel_rfl) (by kernel_rfl) (fun _ => rfl) (fun _ => rfl) (fun xa xd y h => ⟨fuel, (zua fuel xa xd).trans h⟩)
def zny (fuel : Nat) : Tab := Tab.of [(15, (zm fuel).te), (60, (zg8 fuel).te), (67, (zj2 fuel).te), (68, (zj3 fuel).te)] []
def znz : List Norm := []
noncomputable def zuc : C := irOf Try.prog Try.f54 [] znz []
def znA : List (Nat × Option (Nat × Bool)) := [(4, some (3, true)), (5, none)]
abbrev zud : Sx := .agg (.dat (Kd.list KP) (.dat I6 (.dat I6 .nil))) (.grp (.dat I6 .nil) .nil)
abbrev zue : Sx := .agg (.own 0 KP (.dat I6 (.dat I6 .nil))) (.grp (.dat Kd.bool .nil) .nil)
abbrev zeT : LF := .pure zud zue true
def zj4 (fuel : Nat) (x0 : LP) (x1 : Int) (x2 : Int) (x3 : Int) : Option ((LP × (Int × (Int × Unit))) × ((Bool × Unit) × Unit)) :=
 Option.bind (zep fuel ((x0, x1, x2, ()), ())) fun y_1 =>
 cond (!y_1.1.1)
 (some ((([], (0 : Int), (0 : Int), ()), (false, ()), ())))
 (Option.bind (zc fuel ((x3, ()), ((0 : Int), ()), ((63 : Int), ()), ())) fun y_3 =>
 cond (!y_3.1.1)
 (some ((([], (0 : Int), (0 : Int), ()), (false, ()), ())))
 (cond (decide (x2 ≥ (2000 : Int)))
 (some ((([], (0 : Int), (0 : Int), ()), (false, ()), ())))
 (Option.bind (zhq fuel ((x0, ()), (x3, (1 : Int), ()), ())) fun y_6 =>
 Option.bind (zho fuel ((y_6.1.1, x1, w64 (x2 + (1 : Int)), ()), ())) fun y_7 =>
 some (((y_7.1.1, y_7.1.2.1, y_7.1.2.2.1, ()), (true, ()), ())))))
def zhr (fuel : Nat) (z : ((LP × (Int × (Int × Unit))) × ((Int × Unit) × Unit))) : Option ((LP × (Int × (Int × Unit))) × ((Bool × Unit) × Unit)) := zj4 fuel z.1.1 z.1.2.1 z.1.2.2.1 z.2.1.1
theorem zuf (fuel : Nat) (xa : zeT.rt.T) (xd : zeT.D.T) : zeT.go (zny fuel) fuel zuc znA xa xd = zhr fuel (zeT.xb (xa, xd)) := by kernel_rfl
abbrev zj5 (fuel : Nat) : LE := ⟨zeT, zhr fuel⟩
theorem zug (fuel : Nat) : EntryOK Try.prog 54 (zj5 fuel).te := okF (T := zny fuel) (fn := Try.f54) (le := zj5 fuel) (frz := []) (ann := znz) (cuts := []) (rv := znA) (TabOK.of (entCons (zq fuel) (entCons (zmH fuel) (entCons (zt6 fuel) (entCons (zub fuel) entNil)))) (methNil)) mixed (by kernel_rfl) (by kernel_rfl) (by kernel_rfl) (fun _ => rfl) (fun _ => rfl) (fun xa xd y h => ⟨fuel, (zuf fuel xa xd).trans h⟩)
abbrev zbQ := Option (((List Int) × Unit) × Unit)
def zeU (fuel : Nat) : Tab := Tab.of [] []
def znB : List Norm := [⟨[4, 0, 3], [], [], []⟩]
noncomputable def zhs : C := irOf Try.prog Try.f69 [] znB []
def zeV : List (Nat × Option (Nat × Bool)) := [(2, none)]
abbrev zuh : Sx := .grp (.dat (Kd.list KP) .nil) .nil
abbrev zui : Sx := .grp (.own 0 I6 .nil) .nil
abbrev zbg : LF := .pure zuh zui true
abbrev zcA := (Int) × LP × (List Int)
def znC (v : zcA) : Env × Heap := ([(4, SV.int .i64 v.1), (0, SV.es KP v.2.1), (3, SV.own 0)], [Blk.arr I6 v.2.2 0])
def zeW (fuel : Nat) (g0 : zcA → zbQ) (v : zcA) : zbQ :=
 cond (decide (v.1 < (zz (List.length v.2.1))))
 (tst (decide (0 ≤ v.1)) <|
 tst (decide (v.1 < (zz (List.length v.2.1)))) <|
 tst (decide (0 ≤ v.1)) <|
 tst (decide (v.1 < (zz (List.length v.2.1)))) <|
 tst (decide (0 ≤ (List.getD v.2.1 (Int.toNat v.1) (0, (0, ()))).1)) <|
 tst (decide ((List.getD v.2.1 (Int.toNat v.1) (0, (0, ()))).1 < (zz (List.length v.2.2)))) <|
 tst (decide (Int.toNat (List.getD v.2.1 (Int.toNat v.1) (0, (0, ()))).1 < List.length v.2.2)) <|
 tst (decide (0 ≤ v.1)) <|
 tst (decide (v.1 < (zz (List.length v.2.1)))) <|
 tst (decide (0 ≤ (List.getD v.2.1 (Int.toNat v.1) (0, (0, ()))).1)) <|
 tst (decide ((List.getD v.2.1 (Int.toNat v.1) (0, (0, ()))).1 < (zz (List.length v.2.2)))) <|
 tst (decide (Int.toNat (List.getD v.2.1 (Int.toNat v.1) (0, (0, ()))).1 < List.length v.2.2)) <|
 g0 (w64 (v.1 + (1 : Int)), v.2.1, List.set v.2.2 (Int.toNat (List.getD v.2.1 (Int.toNat v.1) (0, (0, ()))).1) (w64 (List.getD v.2.2 (Int.toNat (List.getD v.2.1 (Int.toNat v.1) (0, (0, ()))).1) 0 + (List.getD v.2.1 (Int.toNat v.1) (0, (0, ()))).2.1))))
 (some (((v.2.2, ()), ())))
def zht (fuel : Nat) (g0 : zcA → zbQ) : zcA → zbQ := zeW fuel g0
theorem zuj (fuel : Nat) (G) : zhs.lp (zeU fuel) 0 fuel G (endX zeV zbg) 0 znC = iter (zht fuel) fuel := C.lp_iter fun g v => by kernel_rfl
def zj6 (fuel : Nat) (X0 : zcA → zbQ) (x0 : LP) : zbQ :=
 X0 ((0 : Int), x0, List.replicate (Int.toNat (128 : Int)) 0)
def zeX (fuel : Nat) (z : ((LP × Unit) × Unit)) : zbQ := zj6 fuel (iter (zht fuel) fuel) z.1.1
theorem zuk (fuel : Nat) (xa : zbg.rt.T) (xd : zbg.D.T) : zbg.go (zeU fuel) fuel zhs zeV xa xd = zeX fuel (zbg.xb (xa, xd)) :=
  (show zbg.go (zeU fuel) fuel zhs zeV xa xd = zj6 fuel (zhs.lp (zeU fuel) 0 fuel (fun _ _ _ => none) (endX zeV zbg) 0 znC) xd.1.1 by kernel_rfl).trans (by rw [zuj]; rfl)
abbrev zj7 (fuel : Nat) : LE := ⟨zbg, zeX fuel⟩
theorem zul (fuel : Nat) : EntryOK Try.prog 69 (zj7 fuel).te := okF (T := zeU fuel) (fn := Try.f69) (le := zj7 fuel) (frz := []) (ann := znB) (cuts := []) (rv := zeV) (TabOK.of (entNil) (methNil)) mixed (by kernel_rfl) (by kernel_rfl) (by kernel_rfl) (fun _ => rfl) (fun _ => rfl) (fun xa xd y h => ⟨fuel, (zuk fuel xa xd).trans h⟩)
abbrev zbR := Option ((LP × Unit) × Unit)
def zeY (fuel : Nat) : Tab := Tab.of [] []
def znD : List Norm := [{ live := [4, 0, 3], fix := [(3, none, KP, true)] }]
noncomputable def zhu : C := irOf Try.prog Try.f70 [] znD []
def zeZ : List (Nat × Option (Nat × Bool)) := [(2, none)]
abbrev zum : Sx := .grp (.dat (Kd.list I6) .nil) .nil
abbrev zun : Sx := .grp (.own 0 KP .nil) .nil
abbrev zbh : LF := .pure zum zun true
abbrev zcB := (Int) × (List Int) × LP
def znE (v : zcB) : Env × Heap := ([(4, SV.int .i64 v.1), (0, SV.es I6 v.2.1), (3, SV.own 0)], [Blk.arr KP v.2.2 0])
def ze0 (fuel : Nat) (g0 : zcB → zbR) (v : zcB) : zbR :=
 cond (decide (v.1 < (zz (List.length v.2.1))))
 (tst (decide (0 ≤ v.1)) <|
 tst (decide (v.1 < (zz (List.length v.2.1)))) <|
 cond (decide (List.getD v.2.1 (Int.toNat v.1) 0 > (0 : Int)))
 (tst (decide (0 ≤ v.1)) <|
 tst (decide (v.1 < (zz (List.length v.2.1)))) <|
 tst (decide (List.length v.2.2 + 1 < LIM)) <|
 g0 (w64 (v.1 + (1 : Int)), v.2.1, v.2.2 ++ [(v.1, List.getD v.2.1 (Int.toNat v.1) 0, ())]))
 (g0 (w64 (v.1 + (1 : Int)), v.2.1, v.2.2)))
 (some (((v.2.2, ()), ())))
def zhv (fuel : Nat) (g0 : zcB → zbR) : zcB → zbR := ze0 fuel g0
theorem zuo (fuel : Nat) (G) : zhu.lp (zeY fuel) 0 fuel G (endX zeZ zbh) 0 znE = iter (zhv fuel) fuel := C.lp_iter fun g v => by kernel_rfl
def zj8 (fuel : Nat) (X0 : zcB → zbR) (x0 : List Int) : zbR :=
 X0 ((1 : Int), x0, [])
def ze1 (fuel : Nat) (z : (((List Int) × Unit) × Unit)) : zbR := zj8 fuel (iter (zhv fuel) fuel) z.1.1
theorem zup (fuel : Nat) (xa : zbh.rt.T) (xd : zbh.D.T) : zbh.go (zeY fuel) fuel zhu zeZ xa xd = ze1 fuel (zbh.xb (xa, xd)) :=
  (show zbh.go (zeY fuel) fuel zhu zeZ xa xd = zj8 fuel (zhu.lp (zeY fuel) 0 fuel (fun _ _ _ => none) (endX zeZ zbh) 0 znE) xd.1.1 by kernel_rfl).trans (by rw [zuo]; rfl)
abbrev zj9 (fuel : Nat) : LE := ⟨zbh, ze1 fuel⟩
theorem zuq (fuel : Nat) : EntryOK Try.prog 70 (zj9 fuel).te := okF (T := zeY fuel) (fn := Try.f70) (le := zj9 fuel) (frz := []) (ann := znD) (cuts := []) (rv := zeZ) (TabOK.of (entNil) (methNil)) mixed (by kernel_rfl) (by kernel_rfl) (by kernel_rfl) (fun _ => rfl) (fun _ => rfl) (fun xa xd y h => ⟨fuel, (zup fuel xa xd).trans h⟩)
def ze2 (fuel : Nat) : Tab := Tab.of [] []
def znF : List Norm := [⟨[5, 0, 1], [], [], []⟩]
noncomputable def zhw : C := irOf Try.prog Try.f71 [] znF []
def ze3 : List (Nat × Option (Nat × Bool)) := [(4, none)]
abbrev zur : Sx := .grp (.dat I6 .nil) .nil
abbrev zus : Sx := .nil
abbrev zbi : LF := .slc I6 zur zus true
abbrev zcC := (Int) × (Int) × (List Int)
def znG (v : zcC) : Env × Heap := ([(5, SV.int .i64 v.1), (0, SV.own 0), (1, SV.int .i64 v.2.1)], [Blk.arr I6 v.2.2 0])
def ze4 (fuel : Nat) (g0 : zcC → Option ((List Int) × Unit)) (v : zcC) : Option ((List Int) × Unit) :=
 cond (decide (v.1 ≥ (2 : Int)))
 (tst (decide (0 ≤ v.1)) <|
 tst (decide (v.1 < (zz (List.length v.2.2)))) <|
 tst (decide (Int.toNat v.1 < List.length v.2.2)) <|
 tst (decide (0 ≤ w64 (v.1 + (1 : Int)))) <|
 tst (decide (w64 (v.1 + (1 : Int)) < (zz (List.length v.2.2)))) <|
 tst (decide (Int.toNat (w64 (v.1 + (1 : Int))) < List.length v.2.2)) <|
 cond (decide (w64 (List.getD v.2.2 (Int.toNat v.1) 0 + List.getD v.2.2 (Int.toNat (w64 (v.1 + (1 : Int)))) 0) > (0 : Int)))
 (tst (decide (0 ≤ w64 (Int.tdiv v.1 (2 : Int)))) <|
 tst (decide (w64 (Int.tdiv v.1 (2 : Int)) < (zz (List.length v.2.2)))) <|
 tst (decide (Int.toNat (w64 (Int.tdiv v.1 (2 : Int))) < List.length v.2.2)) <|
 cond (decide (w64 (w64 (List.getD v.2.2 (Int.toNat v.1) 0 + List.getD v.2.2 (Int.toNat (w64 (v.1 + (1 : Int)))) 0) + List.getD v.2.2 (Int.toNat (w64 (Int.tdiv v.1 (2 : Int)))) 0) ≤ w64 (Int.tdiv v.2.1 (8 : Int))))
 (tst (decide (0 ≤ w64 (Int.tdiv v.1 (2 : Int)))) <|
 tst (decide (w64 (Int.tdiv v.1 (2 : Int)) < (zz (List.length v.2.2)))) <|
 tst (decide (Int.toNat (w64 (Int.tdiv v.1 (2 : Int))) < List.length v.2.2)) <|
 tst (decide (0 ≤ w64 (Int.tdiv v.1 (2 : Int)))) <|
 tst (decide (w64 (Int.tdiv v.1 (2 : Int)) < (zz (List.length v.2.2)))) <|
 tst (decide (Int.toNat (w64 (Int.tdiv v.1 (2 : Int))) < List.length v.2.2)) <|
 tst (decide (0 ≤ v.1)) <|
 tst (decide (v.1 < (zz (List.length (List.set v.2.2 (Int.toNat (w64 (Int.tdiv v.1 (2 : Int)))) (w64 (List.getD v.2.2 (Int.toNat (w64 (Int.tdiv v.1 (2 : Int)))) 0 + w64 (List.getD v.2.2 (Int.toNat v.1) 0 + List.getD v.2.2 (Int.toNat (w64 (v.1 + (1 : Int)))) 0)))))))) <|
 tst (decide (Int.toNat v.1 < List.length (List.set v.2.2 (Int.toNat (w64 (Int.tdiv v.1 (2 : Int)))) (w64 (List.getD v.2.2 (Int.toNat (w64 (Int.tdiv v.1 (2 : Int)))) 0 + w64 (List.getD v.2.2 (Int.toNat v.1) 0 + List.getD v.2.2 (Int.toNat (w64 (v.1 + (1 : Int)))) 0)))))) <|
 tst (decide (0 ≤ w64 (v.1 + (1 : Int)))) <|
 tst (decide (w64 (v.1 + (1 : Int)) < (zz (List.length (List.set (List.set v.2.2 (Int.toNat (w64 (Int.tdiv v.1 (2 : Int)))) (w64 (List.getD v.2.2 (Int.toNat (w64 (Int.tdiv v.1 (2 : Int)))) 0 + w64 (List.getD v.2.2 (Int.toNat v.1) 0 + List.getD v.2.2 (Int.toNat (w64 (v.1 + (1 : Int)))) 0)))) (Int.toNat v.1) (0 : Int)))))) <|
 tst (decide (Int.toNat (w64 (v.1 + (1 : Int))) < List.length (List.set (List.set v.2.2 (Int.toNat (w64 (Int.tdiv v.1 (2 : Int)))) (w64 (List.getD v.2.2 (Int.toNat (w64 (Int.tdiv v.1 (2 : Int)))) 0 + w64 (List.getD v.2.2 (Int.toNat v.1) 0 + List.getD v.2.2 (Int.toNat (w64 (v.1 + (1 : Int)))) 0)))) (Int.toNat v.1) (0 : Int)))) <|
 g0 (w64 (v.1 - (2 : Int)), v.2.1, List.set (List.set (List.set v.2.2 (Int.toNat (w64 (Int.tdiv v.1 (2 : Int)))) (w64 (List.getD v.2.2 (Int.toNat (w64 (Int.tdiv v.1 (2 : Int)))) 0 + w64 (List.getD v.2.2 (Int.toNat v.1) 0 + List.getD v.2.2 (Int.toNat (w64 (v.1 + (1 : Int)))) 0)))) (Int.toNat v.1) (0 : Int)) (Int.toNat (w64 (v.1 + (1 : Int)))) (0 : Int)))
 (g0 (w64 (v.1 - (2 : Int)), v.2.1, v.2.2)))
 (g0 (w64 (v.1 - (2 : Int)), v.2.1, v.2.2)))
 (some ((v.2.2, ())))
def zhx (fuel : Nat) (g0 : zcC → Option ((List Int) × Unit)) : zcC → Option ((List Int) × Unit) := ze4 fuel g0
theorem zut (fuel : Nat) (G) : zhw.lp (ze2 fuel) 1 fuel G (endX ze3 zbi) 0 znG = iter (zhx fuel) fuel := C.lp_iter fun g v => by kernel_rfl
def zka (fuel : Nat) (X0 : zcC → Option ((List Int) × Unit)) (d0 : List Int) (x0 : Int) : Option ((List Int) × Unit) :=
 X0 (w64 ((zz (List.length d0)) - (2 : Int)), x0, d0)
def ze5 (fuel : Nat) (z : ((List Int) × (Unit × ((Int × Unit) × Unit)))) : Option ((List Int) × Unit) := zka fuel (iter (zhx fuel) fuel) z.1 z.2.2.1.1
theorem zuu (fuel : Nat) (xa : zbi.rt.T) (xd : zbi.D.T) : zbi.go (ze2 fuel) fuel zhw ze3 xa xd = ze5 fuel (zbi.xb (xa, xd)) :=
  (show zbi.go (ze2 fuel) fuel zhw ze3 xa xd = zka fuel (zhw.lp (ze2 fuel) 1 fuel (fun _ _ _ => none) (endX ze3 zbi) 0 znG) xa xd.1.1 by kernel_rfl).trans (by rw [zut]; rfl)
abbrev zkb (fuel : Nat) : LE := ⟨zbi, ze5 fuel⟩
theorem zuv (fuel : Nat) : EntryOK Try.prog 71 (zkb fuel).te := okF (T := ze2 fuel) (fn := Try.f71) (le := zkb fuel) (frz := []) (ann := znF) (cuts := []) (rv := ze3) (TabOK.of (entNil) (methNil)) mixed (by kernel_rfl) (by kernel_rfl) (by kernel_rfl) (fun _ => rfl) (fun _ => rfl) (fun xa xd y h => ⟨fuel, (zuu fuel xa xd).trans h⟩)
def znH (fuel : Nat) : Tab := Tab.of [(15, (zm fuel).te), (61, (zhb fuel).te), (69, (zj7 fuel).te), (70, (zj9 fuel).te), (71, (zkb fuel).te)] []
def znI : List Norm := []
noncomputable def zuw : C := irOf Try.prog Try.f55 [41] znI []
def znJ : List (Nat × Option (Nat × Bool)) := [(4, some (2, true)), (5, none)]
abbrev zux : Sx := .agg (.dat (Kd.list KP) (.dat I6 .nil)) (.grp (.dat I6 .nil) .nil)
abbrev zuy : Sx := .agg (.own 0 KP (.dat I6 .nil)) (.grp (.dat Kd.bool .nil) .nil)
abbrev ze6 : LF := .pure zux zuy true
def znK (fuel : Nat) (x0 : LP) (x1 : Int) (x2 : Int) : Option ((LP × (Int × Unit)) × ((Bool × Unit) × Unit)) :=
 Option.bind (zcq fuel ((x0, x1, ()), ())) fun y_1 =>
 cond (!y_1.1.1)
 (some ((([], (0 : Int), ()), (false, ()), ())))
 (Option.bind (zc fuel ((x2, ()), ((0 : Int), ()), ((63 : Int), ()), ())) fun y_3 =>
 cond (!y_3.1.1)
 (some ((([], (0 : Int), ()), (false, ()), ())))
 (cond (decide (x1 ≥ (2000 : Int)))
 (some ((([], (0 : Int), ()), (false, ()), ())))
 (Option.bind (zeX fuel ((x0, ()), ())) fun y_6 =>
 tst (decide (0 ≤ w64 ((64 : Int) + x2))) <|
 tst (decide (w64 ((64 : Int) + x2) < (zz (List.length y_6.1.1)))) <|
 tst (decide (Int.toNat (w64 ((64 : Int) + x2)) < List.length y_6.1.1)) <|
 tst (decide (0 ≤ w64 ((64 : Int) + x2))) <|
 tst (decide (w64 ((64 : Int) + x2) < (zz (List.length y_6.1.1)))) <|
 tst (decide (Int.toNat (w64 ((64 : Int) + x2)) < List.length y_6.1.1)) <|
 Option.bind (ze5 fuel (List.set y_6.1.1 (Int.toNat (w64 ((64 : Int) + x2))) (w64 (List.getD y_6.1.1 (Int.toNat (w64 ((64 : Int) + x2))) 0 + (1 : Int))), (), (w64 (x1 + (1 : Int)), ()), ())) fun y_7 =>
 Option.bind (ze1 fuel ((y_7.1, ()), ())) fun y_8 =>
 some (((y_8.1.1, w64 (x1 + (1 : Int)), ()), (true, ()), ())))))
def zcD (fuel : Nat) (z : ((LP × (Int × Unit)) × ((Int × Unit) × Unit))) : Option ((LP × (Int × Unit)) × ((Bool × Unit) × Unit)) := znK fuel z.1.1 z.1.2.1 z.2.1.1
theorem zuz (fuel : Nat) (xa : ze6.rt.T) (xd : ze6.D.T) : ze6.go (znH fuel) fuel zuw znJ xa xd = zcD fuel (ze6.xb (xa, xd)) := by kernel_rfl
abbrev zkc (fuel : Nat) : LE := ⟨ze6, zcD fuel⟩
theorem zuA (fuel : Nat) : EntryOK Try.prog 55 (zkc fuel).te := okF (T := znH fuel) (fn := Try.f55) (le := zkc fuel) (frz := [41]) (ann := znI) (cuts := []) (rv := znJ) (TabOK.of (entCons (zq fuel) (entCons (zmK fuel) (entCons (zul fuel) (entCons (zuq fuel) (entCons (zuv fuel) entNil))))) (methNil)) mixed (by kernel_rfl) (by kernel_rfl) (by kernel_rfl) (fun _ => rfl) (fun _ => rfl) (fun xa xd y h => ⟨fuel, (zuz fuel xa xd).trans h⟩)
def znL (fuel : Nat) : Tab := Tab.of [(15, (zm fuel).te), (51, (zjI fuel).te), (52, (zjS fuel).te), (53, (zjX fuel).te), (54, (zj5 fuel).te), (55, (zkc fuel).te)] []
def znM : List Norm := []
noncomputable def zuB : C := irOf Try.prog Try.f43 [] znM []
def znN : List (Nat × Option (Nat × Bool)) := [(4, some (7, true)), (5, none)]
abbrev zuC : Sx := .agg (.dat (Kd.list (Kd.list I6)) (.dat (Kd.list I6) (.dat (Kd.list KP) (.dat I6 (.dat I6 (.dat (Kd.list KP) (.dat I6 .nil))))))) (.grp (.dat I6 .nil) .nil)
abbrev zuD : Sx := .agg (.dat (Kd.list (Kd.list I6)) (.dat (Kd.list I6) (.dat (Kd.list KP) (.dat I6 (.dat I6 (.dat (Kd.list KP) (.dat I6 .nil))))))) (.grp (.dat Kd.bool .nil) .nil)
abbrev ze7 : LF := .pure zuC zuD false
def zkd (fuel : Nat) (x0 : List (List Int)) (x1 : List Int) (x2 : LP) (x3 : Int) (x4 : Int) (x5 : LP) (x6 : Int) (x7 : Int) : Option (SumY × ((Bool × Unit) × Unit)) :=
 Option.bind (zev fuel ((x0, x1, x2, x3, x4, x5, x6, ()), ())) fun y_1 =>
 cond (!y_1.1.1)
 (some ((([], [], [], (0 : Int), (0 : Int), [], (0 : Int), ()), (false, ()), ())))
 (Option.bind (zc fuel ((x7, ()), ((0 : Int), ()), ((63 : Int), ()), ())) fun y_3 =>
 cond (!y_3.1.1)
 (some ((([], [], [], (0 : Int), (0 : Int), [], (0 : Int), ()), (false, ()), ())))
 (cond (decide (x4 ≥ (2000 : Int)))
 (some ((([], [], [], (0 : Int), (0 : Int), [], (0 : Int), ()), (false, ()), ())))
 (Option.bind (zhf fuel ((x0, ()), (x7, ()), ((1 : Int), ()), ())) fun y_6 =>
 Option.bind (zhj fuel ((x1, ()), (x7, ()), ())) fun y_7 =>
 Option.bind (zhr fuel ((x2, x3, x4, ()), (x7, ()), ())) fun y_8 =>
 Option.bind (zcD fuel ((x5, x6, ()), (x7, ()), ())) fun y_9 =>
 some (((y_6.1.1, y_7.1.1, y_8.1.1, y_8.1.2.1, y_8.1.2.2.1, y_9.1.1, y_9.1.2.1, ()), (true, ()), ())))))
def zaM (fuel : Nat) (z : (SumY × ((Int × Unit) × Unit))) : Option (SumY × ((Bool × Unit) × Unit)) := zkd fuel z.1.1 z.1.2.1 z.1.2.2.1 z.1.2.2.2.1 z.1.2.2.2.2.1 z.1.2.2.2.2.2.1 z.1.2.2.2.2.2.2.1 z.2.1.1
theorem zuE (fuel : Nat) (xa : ze7.rt.T) (xd : ze7.D.T) : ze7.go (znL fuel) fuel zuB znN xa xd = zaM fuel (ze7.xb (xa, xd)) := by kernel_rfl
abbrev zhy (fuel : Nat) : LE := ⟨ze7, zaM fuel⟩
theorem znO (fuel : Nat) : EntryOK Try.prog 43 (zhy fuel).te := okF (T := znL fuel) (fn := Try.f43) (le := zhy fuel) (frz := []) (ann := znM) (cuts := []) (rv := znN) (TabOK.of (entCons (zq fuel) (entCons (zs2 fuel) (entCons (ztB fuel) (entCons (ztQ fuel) (entCons (zug fuel) (entCons (zuA fuel) entNil)))))) (methNil)) mixed (by kernel_rfl) (by kernel_rfl) (by kernel_rfl) (fun _ => rfl) (fun _ => rfl) (fun xa xd y h => ⟨fuel, (zuE fuel xa xd).trans h⟩)
abbrev zbS := Option (SumY × ((Bool × Unit) × Unit))
def ze8 (fuel : Nat) : Tab := Tab.of [(38, (zhe fuel).te), (43, (zhy fuel).te)] []
def znP : List Norm := [⟨[5, 0, 4, 2], [], [], []⟩]
noncomputable def zhz : C := irOf Try.prog Try.f36 [] znP []
def ze9 : List (Nat × Option (Nat × Bool)) := [(2, some (7, true)), (3, none)]
abbrev zuF : Sx := .grp (.dat (Kd.list I6) .nil) .nil
abbrev zuG : Sx := .agg (.dat (Kd.list (Kd.list I6)) (.dat (Kd.list I6) (.dat (Kd.list KP) (.dat I6 (.dat I6 (.dat (Kd.list KP) (.dat I6 .nil))))))) (.grp (.dat Kd.bool .nil) .nil)
abbrev zbj : LF := .pure zuF zuG false
abbrev zcE := (Int) × (List Int) × (List (List Int)) × (List Int) × LP × (Int) × (Int) × LP × (Int) × (Int) × (Int) × (Int)
def znQ (v : zcE) : Env × Heap := ([(5, SV.int .i64 v.1), (0, SV.es I6 v.2.1), (4, SV.ptr 0 0), (2, SV.ptr 1 0)], [Blk.cells [SV.es (Kd.list I6) v.2.2.1, SV.es I6 v.2.2.2.1, SV.es KP v.2.2.2.2.1, SV.int .i64 v.2.2.2.2.2.1, SV.int .i64 v.2.2.2.2.2.2.1, SV.es KP v.2.2.2.2.2.2.2.1, SV.int .i64 v.2.2.2.2.2.2.2.2.1] 0 7, Blk.cells [SV.nils, SV.nils, SV.nils, SV.int .i64 v.2.2.2.2.2.2.2.2.2.1, SV.int .i64 v.2.2.2.2.2.2.2.2.2.2.1, SV.nils, SV.int .i64 v.2.2.2.2.2.2.2.2.2.2.2] 0 7])
def zfa (fuel : Nat) (g0 : zcE → zbS) (v : zcE) : zbS :=
 cond (decide (v.1 < (zz (List.length v.2.1))))
 (tst (decide (0 ≤ v.1)) <|
 tst (decide (v.1 < (zz (List.length v.2.1)))) <|
 Option.bind (zaM fuel ((v.2.2.1, v.2.2.2.1, v.2.2.2.2.1, v.2.2.2.2.2.1, v.2.2.2.2.2.2.1, v.2.2.2.2.2.2.2.1, v.2.2.2.2.2.2.2.2.1, ()), (List.getD v.2.1 (Int.toNat v.1) 0, ()), ())) fun y_2 =>
 cond (!y_2.2.1.1)
 (some ((([], [], [], (0 : Int), (0 : Int), [], (0 : Int), ()), (false, ()), ())))
 (g0 (w64 (v.1 + (1 : Int)), v.2.1, y_2.1.1, y_2.1.2.1, y_2.1.2.2.1, y_2.1.2.2.2.1, y_2.1.2.2.2.2.1, y_2.1.2.2.2.2.2.1, y_2.1.2.2.2.2.2.2.1, v.2.2.2.2.2.2.2.2.2.1, v.2.2.2.2.2.2.2.2.2.2.1, v.2.2.2.2.2.2.2.2.2.2.2)))
 (some (((v.2.2.1, v.2.2.2.1, v.2.2.2.2.1, v.2.2.2.2.2.1, v.2.2.2.2.2.2.1, v.2.2.2.2.2.2.2.1, v.2.2.2.2.2.2.2.2.1, ()), (true, ()), ())))
def zhA (fuel : Nat) (g0 : zcE → zbS) : zcE → zbS := zfa fuel g0
theorem zuH (fuel : Nat) (G) : zhz.lp (ze8 fuel) 0 fuel G (endX ze9 zbj) 0 znQ = iter (zhA fuel) fuel := C.lp_iter fun g v => by kernel_rfl
def zhB (fuel : Nat) (X0 : zcE → zbS) (x0 : List Int) : zbS :=
 Option.bind (zcr fuel ()) fun y_1 =>
 X0 ((0 : Int), x0, y_1.1.1, y_1.1.2.1, y_1.1.2.2.1, y_1.1.2.2.2.1, y_1.1.2.2.2.2.1, y_1.1.2.2.2.2.2.1, y_1.1.2.2.2.2.2.2.1, (0 : Int), (0 : Int), (0 : Int))
def zhC (fuel : Nat) (z : (((List Int) × Unit) × Unit)) : zbS := zhB fuel (iter (zhA fuel) fuel) z.1.1
theorem zuI (fuel : Nat) (xa : zbj.rt.T) (xd : zbj.D.T) : zbj.go (ze8 fuel) fuel zhz ze9 xa xd = zhC fuel (zbj.xb (xa, xd)) :=
  (show zbj.go (ze8 fuel) fuel zhz ze9 xa xd = zhB fuel (zhz.lp (ze8 fuel) 0 fuel (fun _ _ _ => none) (endX ze9 zbj) 0 znQ) xd.1.1 by kernel_rfl).trans (by rw [zuH]; rfl)
abbrev zke (fuel : Nat) : LE := ⟨zbj, zhC fuel⟩
theorem zuJ (fuel : Nat) : EntryOK Try.prog 36 (zke fuel).te := okF (T := ze8 fuel) (fn := Try.f36) (le := zke fuel) (frz := []) (ann := znP) (cuts := []) (rv := ze9) (TabOK.of (entCons (zm4 fuel) (entCons (znO fuel) entNil)) (methNil)) mixed (by kernel_rfl) (by kernel_rfl) (by kernel_rfl) (fun _ => rfl) (fun _ => rfl) (fun xa xd y h => ⟨fuel, (zuI fuel xa xd).trans h⟩)
def znR (fuel : Nat) : Tab := Tab.of [(56, (zeB fuel).te)] []
def znS : List Norm := []
noncomputable def zuK : C := irOf Try.prog Try.f46 [] znS []
def znT : List (Nat × Option (Nat × Bool)) := [(2, some (7, true))]
abbrev zuL : Sx := .agg (.dat (Kd.list (Kd.list I6)) (.dat (Kd.list I6) (.dat (Kd.list KP) (.dat I6 (.dat I6 (.dat (Kd.list KP) (.dat I6 .nil))))))) .nil
abbrev zuM : Sx := .agg (.dat (Kd.list (Kd.list I6)) (.dat (Kd.list I6) (.dat (Kd.list KP) (.dat I6 (.dat I6 (.dat (Kd.list KP) (.dat I6 .nil))))))) .nil
abbrev zfb : LF := .pure zuL zuM false
def zkf (fuel : Nat) (x0 : List (List Int)) (x1 : List Int) (x2 : LP) (x3 : Int) (x4 : Int) (x5 : LP) (x6 : Int) : Option (SumY × Unit) :=
 Option.bind (zcs fuel ((x0, ()), ())) fun y_1 =>
 tst (decide (0 + List.length x1 < LIM)) <|
 tst (decide (0 + List.length x2 < LIM)) <|
 tst (decide (0 + List.length x5 < LIM)) <|
 some ((([List.getD y_1.1.1 0 [], List.getD y_1.1.1 1 [], List.getD y_1.1.1 2 []], [] ++ x1, [] ++ x2, x3, x4, [] ++ x5, x6, ()), ()))
def zfc (fuel : Nat) (z : (SumY × Unit)) : Option (SumY × Unit) := zkf fuel z.1.1 z.1.2.1 z.1.2.2.1 z.1.2.2.2.1 z.1.2.2.2.2.1 z.1.2.2.2.2.2.1 z.1.2.2.2.2.2.2.1
theorem zuN (fuel : Nat) (xa : zfb.rt.T) (xd : zfb.D.T) : zfb.go (znR fuel) fuel zuK znT xa xd = zfc fuel (zfb.xb (xa, xd)) := by kernel_rfl
abbrev zhD (fuel : Nat) : LE := ⟨zfb, zfc fuel⟩
theorem znU (fuel : Nat) : EntryOK Try.prog 46 (zhD fuel).te := okF (T := znR fuel) (fn := Try.f46) (le := zhD fuel) (frz := []) (ann := znS) (cuts := []) (rv := znT) (TabOK.of (entCons (zjO fuel) entNil) (methNil)) mixed (by kernel_rfl) (by kernel_rfl) (by kernel_rfl) (fun _ => rfl) (fun _ => rfl) (fun xa xd y h => ⟨fuel, (zuN fuel xa xd).trans h⟩)
def znV (fuel : Nat) : Tab := Tab.of [(56, (zeB fuel).te)] []
def znW : List Norm := []
noncomputable def zuO : C := irOf Try.prog Try.f46 [] znW []
def znX : List (Nat × Option (Nat × Bool)) := [(2, some (7, true))]
abbrev zuP : Sx := .agg (.dat (Kd.list (Kd.list I6)) (.dat (Kd.list I6) (.dat (Kd.list KP) (.dat I6 (.dat I6 (.dat (Kd.list KP) (.dat I6 .nil))))))) .nil
abbrev zuQ : Sx := .agg (.own 1 (Kd.list I6) (.own 0 I6 (.own 0 KP (.dat I6 (.dat I6 (.own 0 KP (.dat I6 .nil))))))) .nil
abbrev zfd : LF := .pure zuP zuQ true
def zuR (fuel : Nat) (x0 : List (List Int)) (x1 : List Int) (x2 : LP) (x3 : Int) (x4 : Int) (x5 : LP) (x6 : Int) : Option (SumY × Unit) :=
 Option.bind (zcs fuel ((x0, ()), ())) fun y_1 =>
 tst (decide (0 + List.length x1 < LIM)) <|
 tst (decide (0 + List.length x2 < LIM)) <|
 tst (decide (0 + List.length x5 < LIM)) <|
 some ((([List.getD y_1.1.1 0 [], List.getD y_1.1.1 1 [], List.getD y_1.1.1 2 []], [] ++ x1, [] ++ x2, x3, x4, [] ++ x5, x6, ()), ()))
def zhE (fuel : Nat) (z : (SumY × Unit)) : Option (SumY × Unit) := zuR fuel z.1.1 z.1.2.1 z.1.2.2.1 z.1.2.2.2.1 z.1.2.2.2.2.1 z.1.2.2.2.2.2.1 z.1.2.2.2.2.2.2.1
theorem zuS (fuel : Nat) (xa : zfd.rt.T) (xd : zfd.D.T) : zfd.go (znV fuel) fuel zuO znX xa xd = zhE fuel (zfd.xb (xa, xd)) := by kernel_rfl
abbrev zkg (fuel : Nat) : LE := ⟨zfd, zhE fuel⟩
theorem zuT (fuel : Nat) : EntryOK Try.prog 46 (zkg fuel).te := okF (T := znV fuel) (fn := Try.f46) (le := zkg fuel) (frz := []) (ann := znW) (cuts := []) (rv := znX) (TabOK.of (entCons (zjO fuel) entNil) (methNil)) mixed (by kernel_rfl) (by kernel_rfl) (by kernel_rfl) (fun _ => rfl) (fun _ => rfl) (fun xa xd y h => ⟨fuel, (zuS fuel xa xd).trans h⟩)
end Go.Proofs.Ytljojacnjjgceaa.Den
namespace Go.Proofs.Ytljojacnjjgceaa.Den
open Go
theorem w64_id {x : Int} (h1 : -9223372036854775808 ≤ x) (h2 : x ≤ 9223372036854775807) : w64 x = x := by
  unfold w64 IntKind.wrap
  simp only [show IntKind.i64.bits = 64 from rfl, show IntKind.i64.signed = true from rfl, Bool.true_and, decide_eq_true_eq]
  rw [show (2 : Int) ^ 64 = 18446744073709551616 from by decide, show (2 : Int) ^ (64 - 1) = 9223372036854775808 from by decide]
  split <;> omega
def Ret {R : Type} (o : Option R) (Q : R → Prop) : Prop := ∃ r, o = some r ∧ Q r
section
variable {R S V : Type} {Q : R → Prop} {x y : Option R}
theorem Ret.ret {r : R} (h : Q r) : Ret (some r) Q := ⟨r, rfl, h⟩
theorem Ret.mono {Q' : R → Prop} (h : Ret x Q) (h2 : ∀ r, Q r → Q' r) : Ret x Q' := by
  obtain ⟨r, h1, h3⟩ := h; exact ⟨r, h1, h2 r h3⟩
theorem Ret.bind {o : Option S} {k : S → Option R} {P : S → Prop} (h : Ret o P) (hk : ∀ s, P s → Ret (k s) Q) : Ret (o.bind k) Q := by
  obtain ⟨s, h1, h2⟩ := h
  subst h1; exact hk s h2
theorem Ret.cond {b : Bool} (ht : b = true → Ret x Q) (hf : b = false → Ret y Q) : Ret (cond b x y) Q := by
  cases b
  · exact hf rfl
  · exact ht rfl
theorem Ret.tst {b : Bool} (hb : b = true) (h : Ret x Q) : Ret (tst b x) Q := by
  subst hb; exact h
theorem Ret.eq {r : R} (h : Ret x fun s => s = r) : x = some r := by
  obtain ⟨s, h1, h2⟩ := h; rw [h1, h2]
theorem Ret.of {r : R} (h : x = some r) : Ret x fun s => s = r := ⟨r, h, rfl⟩
theorem Ret.loop {step : (V → Option R) → V → Option R} (I : Nat → V → Prop) (h : ∀ (n : Nat) (v : V) (g : V → Option R), I n v → (∀ m v', m < n → I m v' → Ret (g v') Q) → Ret (step g v) Q) :
    ∀ (fuel n : Nat) (v : V), I n v → n < fuel → Ret (iter step fuel v) Q
  | 0, n, v, _, h2 => by omega
  | fuel + 1, n, v, h1, h2 => h n v _ h1 fun m v' h3 h4 => Ret.loop I h fuel m v' h4 (by omega)
end
end Go.Proofs.Ytljojacnjjgceaa.Den
namespace Go.Proofs.Ytljojacnjjgceaa.Den
open Go
section
variable {R V α β : Type} {σ : Type}
def upGo (body : Nat → (σ → Option R) → σ → Option R) (fin : σ → Option R) : Nat → Nat → σ → Option R
  | 0, _, s => fin s
  | d + 1, i, s => body i (upGo body fin d (i + 1)) s
def goL (b : α → (σ → Option R) → σ → Option R) (fin : σ → Option R) : List α → σ → Option R
  | [], s => fin s
  | x :: r, s => b x (goL b fin r) s
theorem iter_up {st : (V → Option R) → V → Option R} {enc : Nat → σ → V} {body : Nat → (σ → Option R) → σ → Option R} {fin : σ → Option R} (n : Nat)
    (hs : ∀ i s g, i < n → st g (enc i s) = body i (fun s' => g (enc (i + 1) s')) s) (he : ∀ s g, st g (enc n s) = fin s) :
    ∀ (d i : Nat) (s : σ) (fuel : Nat), i + d = n → d < fuel → iter st fuel (enc i s) = upGo body fin d i s
  | 0, i, s, fuel + 1, hi, hf => by
    obtain rfl : i = n := by omega
    rw [iter, he]; rfl
  | d + 1, i, s, fuel + 1, hi, hf => by
    rw [iter, hs i s _ (by omega)]
    show body i _ s = body i _ s
    congr 1
    funext s'
    exact iter_up n hs he d (i + 1) s' fuel (by omega) (by omega)
theorem za3 {l : List α} {i : Nat} (d : α) (h : i < l.length) : l.drop i = l.getD i d :: l.drop (i + 1) := by
  rw [List.drop_eq_getElem_cons h, List.getD_eq_getElem?_getD, List.getElem?_eq_getElem h]; rfl
theorem zaI {st : (V → Option R) → V → Option R} {enc : Nat → σ → V} (b : α → (σ → Option R) → σ → Option R) (fin : σ → Option R) (l : List α) (d0 : α)
    (hs : ∀ i s g, i < l.length → st g (enc i s) = b (l.getD i d0) (fun s' => g (enc (i + 1) s')) s) (he : ∀ s g, st g (enc l.length s) = fin s)
    (fuel : Nat) (s : σ) (hf : l.length < fuel) : iter st fuel (enc 0 s) = goL b fin l s := by
  rw [iter_up (body := fun i => b (l.getD i d0)) (fin := fin) l.length hs he l.length 0 s fuel (by omega) hf]
  have : ∀ (d i : Nat) (s : σ), i + d = l.length → upGo (fun i => b (l.getD i d0)) fin d i s = goL b fin (l.drop i) s := by
    intro d
    induction d with
    | zero => intro i s h; rw [List.drop_eq_nil_of_le (by omega)]; rfl
    | succ d ih =>
      intro i s h
      rw [za3 d0 (show i < l.length by omega)]
      show b _ _ s = b _ _ s
      congr 1
      funext s'
      exact ih (i + 1) s' (by omega)
  exact this l.length 0 s (by omega)
theorem zlR {st : (V → Option R) → V → Option R} {enc : Nat → σ → V} (b : α → β → (σ → Option R) → σ → Option R) (fin : σ → Option R) (l : List α) (d0 : α) (p0 : β) (key : α → β)
    (hs : ∀ i s g, i < l.length → st g (enc i s) = b (l.getD i d0) (if i = 0 then p0 else key (l.getD (i - 1) d0)) (fun s' => g (enc (i + 1) s')) s) (he : ∀ s g, st g (enc l.length s) = fin s)
    (fuel : Nat) (s : σ) (hf : l.length < fuel) : iter st fuel (enc 0 s) = goL (fun x k (ps : β × σ) => b x ps.1 (fun s' => k (key x, s')) ps.2) (fun ps => fin ps.2) l (p0, s) := by
  rw [iter_up (body := fun i => b (l.getD i d0) (if i = 0 then p0 else key (l.getD (i - 1) d0))) (fin := fin) l.length hs he l.length 0 s fuel (by omega) hf]
  have : ∀ (d i : Nat) (s : σ), i + d = l.length → upGo (fun i => b (l.getD i d0) (if i = 0 then p0 else key (l.getD (i - 1) d0))) fin d i s
      = goL (fun x k (ps : β × σ) => b x ps.1 (fun s' => k (key x, s')) ps.2) (fun ps => fin ps.2) (l.drop i) (if i = 0 then p0 else key (l.getD (i - 1) d0), s) := by
    intro d
    induction d with
    | zero => intro i s h; rw [List.drop_eq_nil_of_le (by omega)]; rfl
    | succ d ih =>
      intro i s h
      rw [za3 d0 (show i < l.length by omega)]
      show b _ _ _ s = b _ _ _ s
      congr 1
      funext s'
      have := ih (i + 1) s' (by omega)
      simpa using this
  exact this l.length 0 s (by omega)
theorem all_go {b : α → (σ → Option R) → σ → Option R} {fin : σ → Option R} (p : α → Bool) (r : R) (h : ∀ x k s, b x k s = cond (p x) (k s) (some r)) :
    ∀ (l : List α) (s : σ), goL b fin l s = cond (l.all p) (fin s) (some r)
  | [], s => rfl
  | x :: l, s => by
    show b x _ s = _
    rw [h, all_go p r h l s, List.all_cons]
    cases p x <;> rfl
theorem fold_go {b : α → (σ → Option R) → σ → Option R} {fin : σ → Option R} (u : σ → α → σ) (h : ∀ x k s, b x k s = k (u s x)) :
    ∀ (l : List α) (s : σ), goL b fin l s = fin (l.foldl u s)
  | [], s => rfl
  | x :: l, s => by
    show b x _ s = _
    rw [h, fold_go u h l]; rfl
end
theorem w64_up {i : Nat} (h : i < 4294967296) : w64 ((i : Int) + 1) = ((i + 1 : Nat) : Int) := by rw [w64_id] <;> omega
theorem w64_dn {i : Nat} (h0 : i ≠ 0) (h : i < 4294967296) : w64 ((i : Int) - 1) = ((i - 1 : Nat) : Int) := by rw [w64_id] <;> omega
theorem lt_cast {i n : Nat} (h : i < n) : (i : Int) < (n : Int) := by omega
theorem zh {n : Nat} : ¬ ((n : Int) < (n : Int)) := by omega
theorem le_cast {i : Nat} : (0 : Int) ≤ (i : Int) := by omega
theorem zlS {i : Nat} (h : i = 0) : ¬ ((i : Int) > 0) := by omega
theorem zlT {i : Nat} (h : i ≠ 0) : (i : Int) > 0 := by omega
end Go.Proofs.Ytljojacnjjgceaa.Den
