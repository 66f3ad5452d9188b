/- Part 6 of the texts behind the row. -/
import Derived.Test.YtljojacnjjgceaaANP5
import Derived.Test.YtljojacnjjgceaaChecked
import Derived.KernelRfl
set_option linter.unusedVariables false
set_option linter.unusedSimpArgs false
namespace Go.Proofs.Ytljojacnjjgceaa.Den
open Go Go.RowKit
theorem mixed : Try.prog.follows .mixedOrders = true := Checked.mixed Try.checked
abbrev I6 : Kd := .int .i64
abbrev KP : Kd := .pair I6 (.pair I6 .unit)
abbrev LP := List (Int × (Int × Unit))
abbrev SumY := (List (List Int)) × ((List Int) × (LP × (Int × (Int × (LP × (Int × Unit))))))
abbrev KS : Kd := .pair (.pair (.list (.list I6)) .unit) (.pair (.pair (.list I6) .unit) (.pair (.pair (.list KP) (.pair I6 (.pair I6 .unit))) (.pair (.pair (.list KP) (.pair I6 .unit)) .unit)))
abbrev KE : Kd := .pair I6 (.pair I6 (.pair I6 (.pair KS .unit)))
abbrev KN : Kd := .pair I6 (.pair (.list KE) (.pair I6 (.pair I6 (.pair I6 .unit))))
abbrev KW : Kd := .pair I6 (.pair I6 (.pair I6 (.pair I6 (.pair I6 (.pair (.list KE) .unit)))))
abbrev SY := ((List (List Int)) × Unit) × (((List Int) × Unit) × ((LP × (Int × (Int × Unit))) × ((LP × (Int × Unit)) × Unit)))
abbrev EY := Int × (Int × (Int × (SY × Unit)))
abbrev NY := Int × ((List EY) × (Int × (Int × (Int × Unit))))
abbrev WY := Int × (Int × (Int × (Int × (Int × ((List EY) × Unit)))))
def w64 (n : Int) : Int := IntKind.wrap .i64 n
def zz (n : Nat) : Int := (n : Int)
theorem zz_eq (n : Nat) : zz n = (n : Int) := rfl
def lit3 {α R : Type} (l : List α) (k : α → α → α → Option R) : Option R := match l with | [a, b, c] => k a b c | _ => none
theorem zzM {α R : Type} {l : List α} {k : α → α → α → Option R} {r : R} (h : lit3 l k = some r) : ∃ a b c, l = [a, b, c] ∧ k a b c = some r := by
  unfold lit3 at h
  split at h
  · exact ⟨_, _, _, rfl, h⟩
  · cases h
end Go.Proofs.Ytljojacnjjgceaa.Den
namespace Go.Proofs.Ytljojacnjjgceaa.Den
open Go Go.RowKit
def zmg (fuel : Nat) : Tab := Tab.of [] []
def zmh : List Norm := []
noncomputable def zsb : C := irOf Try.prog Try.f15 [] zmh []
def zmi : List (Nat × Option (Nat × Bool)) := [(6, none)]
abbrev zsc : Sx := .grp (.dat I6 .nil) (.grp (.dat I6 .nil) (.grp (.dat I6 .nil) .nil))
abbrev zsd : Sx := .grp (.dat Kd.bool .nil) .nil
abbrev zd8 : LF := .pure zsc zsd true
def zmj (fuel : Nat) (x0 : Int) (x1 : Int) (x2 : Int) : Option ((Bool × Unit) × Unit) :=
 cond (decide (x0 ≥ x1))
 (some (((decide (x0 ≤ x2), ()), ())))
 (some (((false, ()), ())))
def zc (fuel : Nat) (z : ((Int × Unit) × ((Int × Unit) × ((Int × Unit) × Unit)))) : Option ((Bool × Unit) × Unit) := zmj fuel z.1.1 z.2.1.1 z.2.2.1.1
theorem zse (fuel : Nat) (xa : zd8.rt.T) (xd : zd8.D.T) : zd8.go (zmg fuel) fuel zsb zmi xa xd = zc fuel (zd8.xb (xa, xd)) := by kernel_rfl
abbrev zm (fuel : Nat) : LE := ⟨zd8, zc fuel⟩
theorem zq (fuel : Nat) : EntryOK Try.prog 15 (zm fuel).te := okF (T := zmg fuel) (fn := Try.f15) (le := zm fuel) (frz := []) (ann := zmh) (cuts := []) (rv := zmi) (TabOK.of (entNil) (methNil)) mixed (by kernel_rfl) (by kernel_rfl) (by kernel_rfl) (fun _ => rfl) (fun _ => rfl) (fun xa xd y h => ⟨fuel, (zse fuel xa xd).trans h⟩)
def zd9 (fuel : Nat) : Tab := Tab.of [] []
def zmk : List Norm := [⟨[4, 0, 3], [], [], []⟩]
noncomputable def zgS : C := irOf Try.prog Try.f63 [] zmk []
def zea : List (Nat × Option (Nat × Bool)) := [(2, none)]
abbrev zsf : Sx := .grp (.dat (Kd.list I6) .nil) .nil
abbrev zsg : Sx := .grp (.dat I6 .nil) .nil
abbrev za5 : LF := .pure zsf zsg true
abbrev zcg := (Int) × (List Int) × (Int)
def zml (v : zcg) : Env × Heap := ([(4, SV.int .i64 v.1), (0, SV.es I6 v.2.1), (3, SV.int .i64 v.2.2)], [])
def zeb (fuel : Nat) (g0 : zcg → Option ((Int × Unit) × Unit)) (v : zcg) : Option ((Int × Unit) × Unit) :=
 cond (decide (v.1 < (zz (List.length v.2.1))))
 (tst (decide (0 ≤ v.1)) <|
 tst (decide (v.1 < (zz (List.length v.2.1)))) <|
 g0 (w64 (v.1 + (1 : Int)), v.2.1, w64 (v.2.2 + List.getD v.2.1 (Int.toNat v.1) 0)))
 (some (((v.2.2, ()), ())))
def zgT (fuel : Nat) (g0 : zcg → Option ((Int × Unit) × Unit)) : zcg → Option ((Int × Unit) × Unit) := zeb fuel g0
theorem zsh (fuel : Nat) (G) : zgS.lp (zd9 fuel) 0 fuel G (endX zea za5) 0 zml = iter (zgT fuel) fuel := C.lp_iter fun g v => by kernel_rfl
def zmm (fuel : Nat) (X0 : zcg → Option ((Int × Unit) × Unit)) (x0 : List Int) : Option ((Int × Unit) × Unit) :=
 X0 ((0 : Int), x0, (0 : Int))
def zat (fuel : Nat) (z : (((List Int) × Unit) × Unit)) : Option ((Int × Unit) × Unit) := zmm fuel (iter (zgT fuel) fuel) z.1.1
theorem zsi (fuel : Nat) (xa : za5.rt.T) (xd : za5.D.T) : za5.go (zd9 fuel) fuel zgS zea xa xd = zat fuel (za5.xb (xa, xd)) :=
  (show za5.go (zd9 fuel) fuel zgS zea xa xd = zmm fuel (zgS.lp (zd9 fuel) 0 fuel (fun _ _ _ => none) (endX zea za5) 0 zml) xd.1.1 by kernel_rfl).trans (by rw [zsh]; rfl)
abbrev zec (fuel : Nat) : LE := ⟨za5, zat fuel⟩
theorem zjt (fuel : Nat) : EntryOK Try.prog 63 (zec fuel).te := okF (T := zd9 fuel) (fn := Try.f63) (le := zec fuel) (frz := []) (ann := zmk) (cuts := []) (rv := zea) (TabOK.of (entNil) (methNil)) mixed (by kernel_rfl) (by kernel_rfl) (by kernel_rfl) (fun _ => rfl) (fun _ => rfl) (fun xa xd y h => ⟨fuel, (zsi fuel xa xd).trans h⟩)
def zai (fuel : Nat) : Tab := Tab.of [(15, (zm fuel).te), (63, (zec fuel).te)] []
def zmn : List Norm := [⟨[3, 1], [], [], []⟩, ⟨[4, 1, 3], [], [], []⟩]
noncomputable def z5 : C := irOf Try.prog Try.f58 [] zmn []
def zaI : List (Nat × Option (Nat × Bool)) := [(2, none)]
abbrev zsj : Sx := .agg (.dat (Kd.list (Kd.list I6)) .nil) .nil
abbrev zsk : Sx := .grp (.dat Kd.bool .nil) .nil
abbrev z6 : LF := .pure zsj zsk true
abbrev za6 := (Int) × (List (List Int))
abbrev zch := (Int) × (Int) × (List (List Int))
def zau (v : za6) : Env × Heap := ([(3, SV.int .i64 v.1), (1, SV.ptr 0 0)], [Blk.cells [SV.es (Kd.list I6) v.2] 0 1])
def zci (v : zch) : Env × Heap := ([(4, SV.int .i64 v.1), (1, SV.ptr 0 0), (3, SV.int .i64 v.2.1)], [Blk.cells [SV.es (Kd.list I6) v.2.2] 0 1])
def zcj (fuel : Nat) (g0 : za6 → Option ((Bool × Unit) × Unit)) (g1 : zch → Option ((Bool × Unit) × Unit)) (v : zch) : Option ((Bool × Unit) × Unit) :=
 cond (decide (v.1 < (8 : Int)))
 (tst (decide (0 ≤ v.2.1)) <|
 tst (decide (v.2.1 < (zz (List.length v.2.2)))) <|
 tst (decide (0 ≤ v.1)) <|
 tst (decide (v.1 < (zz (List.length (List.getD v.2.2 (Int.toNat v.2.1) []))))) <|
 Option.bind (zc fuel ((List.getD (List.getD v.2.2 (Int.toNat v.2.1) []) (Int.toNat v.1) 0, ()), ((0 : Int), ()), ((2000 : Int), ()), ())) fun y_2 =>
 cond (!y_2.1.1)
 (some (((false, ()), ())))
 (g1 (w64 (v.1 + (1 : Int)), v.2.1, v.2.2)))
 (tst (decide (0 ≤ v.2.1)) <|
 tst (decide (v.2.1 < (zz (List.length v.2.2)))) <|
 Option.bind (zat fuel ((List.getD v.2.2 (Int.toNat v.2.1) [], ()), ())) fun y_2 =>
 tst (decide ((0 : Int) < (zz (List.length v.2.2)))) <|
 Option.bind (zat fuel ((List.getD v.2.2 (Int.toNat (0 : Int)) [], ()), ())) fun y_3 =>
 cond (y_2.1.1 != y_3.1.1)
 (some (((false, ()), ())))
 (tst (decide (0 ≤ v.2.1)) <|
 tst (decide (v.2.1 < (zz (List.length v.2.2)))) <|
 Option.bind (zat fuel ((List.getD v.2.2 (Int.toNat v.2.1) [], ()), ())) fun y_5 =>
 cond (decide (y_5.1.1 > (2000 : Int)))
 (some (((false, ()), ())))
 (g0 (w64 (v.2.1 + (1 : Int)), v.2.2))))
def zju (fuel : Nat) (g0 : za6 → Option ((Bool × Unit) × Unit)) (g1 : zch → Option ((Bool × Unit) × Unit)) : zch → Option ((Bool × Unit) × Unit) := zcj fuel g0 g1
theorem zsl (fuel : Nat) (G) : z5.lp (zai fuel) 0 fuel G (endX zaI z6) 1 zci = iter (zju fuel (fun v => G 0 (zau v).1 (zau v).2)) fuel := C.lp_iter fun g v =>
  (show run (zai fuel) 0 fuel (z5.bdAt 1) (zci v).1 (zci v).2 (loopK 0 (z5.nmAt 1) g (z5.contAt (zai fuel) 0 fuel G 0 1 (endX zaI z6))) = zcj fuel (fun v => G 0 (zau v).1 (zau v).2) (fun v => g (zci v).1 (zci v).2) v by kernel_rfl)
def zck (fuel : Nat) (X1 : zch → Option ((Bool × Unit) × Unit)) (g0 : za6 → Option ((Bool × Unit) × Unit)) (v : za6) : Option ((Bool × Unit) × Unit) :=
 cond (decide (v.1 < (3 : Int)))
 (tst (decide (0 ≤ v.1)) <|
 tst (decide (v.1 < (zz (List.length v.2)))) <|
 cond ((zz (List.length (List.getD v.2 (Int.toNat v.1) []))) != (8 : Int))
 (some (((false, ()), ())))
 (X1 ((0 : Int), v.1, v.2)))
 (some (((true, ()), ())))
def zgU (fuel : Nat) (g0 : za6 → Option ((Bool × Unit) × Unit)) : za6 → Option ((Bool × Unit) × Unit) := zck fuel (iter (zju fuel g0) fuel) g0
theorem zsm (fuel : Nat) (G) : z5.lp (zai fuel) 0 fuel G (endX zaI z6) 0 zau = iter (zgU fuel) fuel := C.lp_iter fun g v =>
  (show run (zai fuel) 0 fuel (z5.bdAt 0) (zau v).1 (zau v).2 (loopK 0 (z5.nmAt 0) g (z5.contAt (zai fuel) 0 fuel G 0 0 (endX zaI z6))) = zck fuel (z5.lp (zai fuel) 0 fuel (fun m => bif Nat.beq m 0 then g else G m) (endX zaI z6) 1 zci) (fun v => g (zau v).1 (zau v).2) v by kernel_rfl).trans (by rw [zsl]; rfl)
def zgV (fuel : Nat) (X0 : za6 → Option ((Bool × Unit) × Unit)) (x0 : List (List Int)) : Option ((Bool × Unit) × Unit) :=
 cond ((zz (List.length x0)) != (3 : Int))
 (some (((false, ()), ())))
 (X0 ((0 : Int), x0))
def zcl (fuel : Nat) (z : (((List (List Int)) × Unit) × Unit)) : Option ((Bool × Unit) × Unit) := zgV fuel (iter (zgU fuel) fuel) z.1.1
theorem zsn (fuel : Nat) (xa : z6.rt.T) (xd : z6.D.T) : z6.go (zai fuel) fuel z5 zaI xa xd = zcl fuel (z6.xb (xa, xd)) :=
  (show z6.go (zai fuel) fuel z5 zaI xa xd = zgV fuel (z5.lp (zai fuel) 0 fuel (fun _ _ _ => none) (endX zaI z6) 0 zau) xd.1.1 by kernel_rfl).trans (by rw [zsm]; rfl)
abbrev zed (fuel : Nat) : LE := ⟨z6, zcl fuel⟩
theorem zjv (fuel : Nat) : EntryOK Try.prog 58 (zed fuel).te := okF (T := zai fuel) (fn := Try.f58) (le := zed fuel) (frz := []) (ann := zmn) (cuts := []) (rv := zaI) (TabOK.of (entCons (zq fuel) (entCons (zjt fuel) entNil)) (methNil)) mixed (by kernel_rfl) (by kernel_rfl) (by kernel_rfl) (fun _ => rfl) (fun _ => rfl) (fun xa xd y h => ⟨fuel, (zsn fuel xa xd).trans h⟩)
def zee (fuel : Nat) : Tab := Tab.of [(15, (zm fuel).te)] []
def zmo : List Norm := [⟨[3, 1], [], [], []⟩]
noncomputable def zgW : C := irOf Try.prog Try.f59 [] zmo []
def zef : List (Nat × Option (Nat × Bool)) := [(2, none)]
abbrev zso : Sx := .agg (.dat (Kd.list I6) .nil) .nil
abbrev zsp : Sx := .grp (.dat Kd.bool .nil) .nil
abbrev za7 : LF := .pure zso zsp true
abbrev zcm := (Int) × (List Int)
def zmp (v : zcm) : Env × Heap := ([(3, SV.int .i64 v.1), (1, SV.ptr 0 0)], [Blk.cells [SV.es I6 v.2] 0 1])
def zeg (fuel : Nat) (g0 : zcm → Option ((Bool × Unit) × Unit)) (v : zcm) : Option ((Bool × Unit) × Unit) :=
 cond (decide (v.1 < (zz (List.length v.2))))
 (tst (decide (0 ≤ v.1)) <|
 tst (decide (v.1 < (zz (List.length v.2)))) <|
 Option.bind (zc fuel ((List.getD v.2 (Int.toNat v.1) 0, ()), ((0 : Int), ()), ((63 : Int), ()), ())) fun y_2 =>
 cond (!y_2.1.1)
 (some (((false, ()), ())))
 (cond (decide (v.1 > (0 : Int)))
 (tst (decide (0 ≤ w64 (v.1 - (1 : Int)))) <|
 tst (decide (w64 (v.1 - (1 : Int)) < (zz (List.length v.2)))) <|
 tst (decide (0 ≤ v.1)) <|
 tst (decide (v.1 < (zz (List.length v.2)))) <|
 cond (decide (List.getD v.2 (Int.toNat (w64 (v.1 - (1 : Int)))) 0 ≥ List.getD v.2 (Int.toNat v.1) 0))
 (some (((false, ()), ())))
 (g0 (w64 (v.1 + (1 : Int)), v.2)))
 (g0 (w64 (v.1 + (1 : Int)), v.2))))
 (some (((decide ((zz (List.length v.2)) ≤ (6 : Int)), ()), ())))
def zgX (fuel : Nat) (g0 : zcm → Option ((Bool × Unit) × Unit)) : zcm → Option ((Bool × Unit) × Unit) := zeg fuel g0
theorem zsq (fuel : Nat) (G) : zgW.lp (zee fuel) 0 fuel G (endX zef za7) 0 zmp = iter (zgX fuel) fuel := C.lp_iter fun g v => by kernel_rfl
def zmq (fuel : Nat) (X0 : zcm → Option ((Bool × Unit) × Unit)) (x0 : List Int) : Option ((Bool × Unit) × Unit) :=
 X0 ((0 : Int), x0)
def zeh (fuel : Nat) (z : (((List Int) × Unit) × Unit)) : Option ((Bool × Unit) × Unit) := zmq fuel (iter (zgX fuel) fuel) z.1.1
theorem zsr (fuel : Nat) (xa : za7.rt.T) (xd : za7.D.T) : za7.go (zee fuel) fuel zgW zef xa xd = zeh fuel (za7.xb (xa, xd)) :=
  (show za7.go (zee fuel) fuel zgW zef xa xd = zmq fuel (zgW.lp (zee fuel) 0 fuel (fun _ _ _ => none) (endX zef za7) 0 zmp) xd.1.1 by kernel_rfl).trans (by rw [zsq]; rfl)
abbrev zgY (fuel : Nat) : LE := ⟨za7, zeh fuel⟩
theorem zmr (fuel : Nat) : EntryOK Try.prog 59 (zgY fuel).te := okF (T := zee fuel) (fn := Try.f59) (le := zgY fuel) (frz := []) (ann := zmo) (cuts := []) (rv := zef) (TabOK.of (entCons (zq fuel) entNil) (methNil)) mixed (by kernel_rfl) (by kernel_rfl) (by kernel_rfl) (fun _ => rfl) (fun _ => rfl) (fun xa xd y h => ⟨fuel, (zsr fuel xa xd).trans h⟩)
def zei (fuel : Nat) : Tab := Tab.of [] []
def zms : List Norm := [⟨[4, 0, 3], [], [], []⟩]
noncomputable def zgZ : C := irOf Try.prog Try.f73 [] zms []
def zej : List (Nat × Option (Nat × Bool)) := [(2, none)]
abbrev zss : Sx := .grp (.dat (Kd.list KP) .nil) .nil
abbrev zst : Sx := .grp (.dat I6 .nil) .nil
abbrev za8 : LF := .pure zss zst true
abbrev zcn := (Int) × LP × (Int)
def zmt (v : zcn) : Env × Heap := ([(4, SV.int .i64 v.1), (0, SV.es KP v.2.1), (3, SV.int .i64 v.2.2)], [])
def zek (fuel : Nat) (g0 : zcn → Option ((Int × Unit) × Unit)) (v : zcn) : Option ((Int × Unit) × Unit) :=
 cond (decide (v.1 < (zz (List.length v.2.1))))
 (tst (decide (0 ≤ v.1)) <|
 tst (decide (v.1 < (zz (List.length v.2.1)))) <|
 g0 (w64 (v.1 + (1 : Int)), v.2.1, w64 (v.2.2 + (List.getD v.2.1 (Int.toNat v.1) (0, (0, ()))).2.1)))
 (some (((v.2.2, ()), ())))
def zg0 (fuel : Nat) (g0 : zcn → Option ((Int × Unit) × Unit)) : zcn → Option ((Int × Unit) × Unit) := zek fuel g0
theorem zsu (fuel : Nat) (G) : zgZ.lp (zei fuel) 0 fuel G (endX zej za8) 0 zmt = iter (zg0 fuel) fuel := C.lp_iter fun g v => by kernel_rfl
def zmu (fuel : Nat) (X0 : zcn → Option ((Int × Unit) × Unit)) (x0 : LP) : Option ((Int × Unit) × Unit) :=
 X0 ((0 : Int), x0, (0 : Int))
def zg1 (fuel : Nat) (z : ((LP × Unit) × Unit)) : Option ((Int × Unit) × Unit) := zmu fuel (iter (zg0 fuel) fuel) z.1.1
theorem zsv (fuel : Nat) (xa : za8.rt.T) (xd : za8.D.T) : za8.go (zei fuel) fuel zgZ zej xa xd = zg1 fuel (za8.xb (xa, xd)) :=
  (show za8.go (zei fuel) fuel zgZ zej xa xd = zmu fuel (zgZ.lp (zei fuel) 0 fuel (fun _ _ _ => none) (endX zej za8) 0 zmt) xd.1.1 by kernel_rfl).trans (by rw [zsu]; rfl)
abbrev zjw (fuel : Nat) : LE := ⟨za8, zg1 fuel⟩
theorem zsw (fuel : Nat) : EntryOK Try.prog 73 (zjw fuel).te := okF (T := zei fuel) (fn := Try.f73) (le := zjw fuel) (frz := []) (ann := zms) (cuts := []) (rv := zej) (TabOK.of (entNil) (methNil)) mixed (by kernel_rfl) (by kernel_rfl) (by kernel_rfl) (fun _ => rfl) (fun _ => rfl) (fun xa xd y h => ⟨fuel, (zsv fuel xa xd).trans h⟩)
def zel (fuel : Nat) : Tab := Tab.of [(15, (zm fuel).te), (73, (zjw fuel).te)] []
def zmv : List Norm := [⟨[3, 1], [], [], []⟩]
noncomputable def zg2 : C := irOf Try.prog Try.f60 [] zmv []
def zem : List (Nat × Option (Nat × Bool)) := [(2, none)]
abbrev zsx : Sx := .agg (.dat (Kd.list KP) (.dat I6 (.dat I6 .nil))) .nil
abbrev zsy : Sx := .grp (.dat Kd.bool .nil) .nil
abbrev za9 : LF := .pure zsx zsy true
abbrev zco := (Int) × LP × (Int) × (Int)
def zmw (v : zco) : Env × Heap := ([(3, SV.int .i64 v.1), (1, SV.ptr 0 0)], [Blk.cells [SV.es KP v.2.1, SV.int .i64 v.2.2.1, SV.int .i64 v.2.2.2] 0 3])
def zen (fuel : Nat) (g0 : zco → Option ((Bool × Unit) × Unit)) (v : zco) : Option ((Bool × Unit) × Unit) :=
 cond (decide (v.1 < (zz (List.length v.2.1))))
 (tst (decide (0 ≤ v.1)) <|
 tst (decide (v.1 < (zz (List.length v.2.1)))) <|
 Option.bind (zc fuel (((List.getD v.2.1 (Int.toNat v.1) (0, (0, ()))).1, ()), ((0 : Int), ()), ((63 : Int), ()), ())) fun y_2 =>
 cond (!y_2.1.1)
 (some (((false, ()), ())))
 (tst (decide (0 ≤ v.1)) <|
 tst (decide (v.1 < (zz (List.length v.2.1)))) <|
 Option.bind (zc fuel (((List.getD v.2.1 (Int.toNat v.1) (0, (0, ()))).2.1, ()), ((1 : Int), ()), ((2000 : Int), ()), ())) fun y_4 =>
 cond (!y_4.1.1)
 (some (((false, ()), ())))
 (cond (decide (v.1 > (0 : Int)))
 (tst (decide (0 ≤ w64 (v.1 - (1 : Int)))) <|
 tst (decide (w64 (v.1 - (1 : Int)) < (zz (List.length v.2.1)))) <|
 tst (decide (0 ≤ v.1)) <|
 tst (decide (v.1 < (zz (List.length v.2.1)))) <|
 cond (decide ((List.getD v.2.1 (Int.toNat (w64 (v.1 - (1 : Int)))) (0, (0, ()))).1 ≥ (List.getD v.2.1 (Int.toNat v.1) (0, (0, ()))).1))
 (some (((false, ()), ())))
 (g0 (w64 (v.1 + (1 : Int)), v.2.1, v.2.2.1, v.2.2.2)))
 (g0 (w64 (v.1 + (1 : Int)), v.2.1, v.2.2.1, v.2.2.2)))))
 (cond (decide ((zz (List.length v.2.1)) ≤ (4 : Int)))
 (Option.bind (zc fuel ((v.2.2.2, ()), ((0 : Int), ()), ((2000 : Int), ()), ())) fun y_3 =>
 cond (y_3.1.1)
 (Option.bind (zc fuel ((v.2.2.1, ()), ((0 : Int), ()), ((2000 : Int), ()), ())) fun y_5 =>
 cond (y_5.1.1)
 (Option.bind (zg1 fuel ((v.2.1, ()), ())) fun y_7 =>
 some (((decide (w64 (y_7.1.1 + w64 ((5 : Int) * v.2.2.1)) ≤ v.2.2.2), ()), ())))
 (some (((false, ()), ()))))
 (some (((false, ()), ()))))
 (some (((false, ()), ()))))
def zg3 (fuel : Nat) (g0 : zco → Option ((Bool × Unit) × Unit)) : zco → Option ((Bool × Unit) × Unit) := zen fuel g0
theorem zsz (fuel : Nat) (G) : zg2.lp (zel fuel) 0 fuel G (endX zem za9) 0 zmw = iter (zg3 fuel) fuel := C.lp_iter fun g v => by kernel_rfl
def zmx (fuel : Nat) (X0 : zco → Option ((Bool × Unit) × Unit)) (x0 : LP) (x1 : Int) (x2 : Int) : Option ((Bool × Unit) × Unit) :=
 X0 ((0 : Int), x0, x1, x2)
def zeo (fuel : Nat) (z : ((LP × (Int × (Int × Unit))) × Unit)) : Option ((Bool × Unit) × Unit) := zmx fuel (iter (zg3 fuel) fuel) z.1.1 z.1.2.1 z.1.2.2.1
theorem zsA (fuel : Nat) (xa : za9.rt.T) (xd : za9.D.T) : za9.go (zel fuel) fuel zg2 zem xa xd = zeo fuel (za9.xb (xa, xd)) :=
  (show za9.go (zel fuel) fuel zg2 zem xa xd = zmx fuel (zg2.lp (zel fuel) 0 fuel (fun _ _ _ => none) (endX zem za9) 0 zmw) xd.1.1 xd.1.2.1 xd.1.2.2.1 by kernel_rfl).trans (by rw [zsz]; rfl)
abbrev zg4 (fuel : Nat) : LE := ⟨za9, zeo fuel⟩
theorem zmy (fuel : Nat) : EntryOK Try.prog 60 (zg4 fuel).te := okF (T := zel fuel) (fn := Try.f60) (le := zg4 fuel) (frz := []) (ann := zmv) (cuts := []) (rv := zem) (TabOK.of (entCons (zq fuel) (entCons (zsw fuel) entNil)) (methNil)) mixed (by kernel_rfl) (by kernel_rfl) (by kernel_rfl) (fun _ => rfl) (fun _ => rfl) (fun xa xd y h => ⟨fuel, (zsA fuel xa xd).trans h⟩)
def zep (fuel : Nat) : Tab := Tab.of [(15, (zm fuel).te)] []
def zmz : List Norm := [⟨[4, 1, 3], [], [], []⟩]
noncomputable def zg5 : C := irOf Try.prog Try.f61 [] zmz []
def zeq : List (Nat × Option (Nat × Bool)) := [(2, none)]
abbrev zsB : Sx := .agg (.dat (Kd.list KP) (.dat I6 .nil)) .nil
abbrev zsC : Sx := .grp (.dat Kd.bool .nil) .nil
abbrev zba : LF := .pure zsB zsC true
abbrev zcp := (Int) × (Int) × LP × (Int)
def zmA (v : zcp) : Env × Heap := ([(4, SV.int .i64 v.1), (1, SV.ptr 0 0), (3, SV.int .i64 v.2.1)], [Blk.cells [SV.es KP v.2.2.1, SV.int .i64 v.2.2.2] 0 2])
def zer (fuel : Nat) (g0 : zcp → Option ((Bool × Unit) × Unit)) (v : zcp) : Option ((Bool × Unit) × Unit) :=
 cond (decide (v.1 < (zz (List.length v.2.2.1))))
 (tst (decide (0 ≤ v.1)) <|
 tst (decide (v.1 < (zz (List.length v.2.2.1)))) <|
 Option.bind (zc fuel (((List.getD v.2.2.1 (Int.toNat v.1) (0, (0, ()))).1, ()), ((1 : Int), ()), ((127 : Int), ()), ())) fun y_2 =>
 cond (!y_2.1.1)
 (some (((false, ()), ())))
 (Option.bind (zc fuel (((List.getD v.2.2.1 (Int.toNat v.1) (0, (0, ()))).2.1, ()), ((1 : Int), ()), ((2000 : Int), ()), ())) fun y_4 =>
 cond (!y_4.1.1)
 (some (((false, ()), ())))
 (cond (decide (v.1 > (0 : Int)))
 (tst (decide (0 ≤ w64 (v.1 - (1 : Int)))) <|
 tst (decide (w64 (v.1 - (1 : Int)) < (zz (List.length v.2.2.1)))) <|
 cond (decide ((List.getD v.2.2.1 (Int.toNat (w64 (v.1 - (1 : Int)))) (0, (0, ()))).1 ≥ (List.getD v.2.2.1 (Int.toNat v.1) (0, (0, ()))).1))
 (some (((false, ()), ())))
 (cond (decide ((List.getD v.2.2.1 (Int.toNat v.1) (0, (0, ()))).1 < (64 : Int)))
 (cond (decide ((List.getD v.2.2.1 (Int.toNat v.1) (0, (0, ()))).2.1 > w64 (Int.tdiv v.2.2.2 (8 : Int))))
 (some (((false, ()), ())))
 (g0 (w64 (v.1 + (1 : Int)), w64 (v.2.1 + (List.getD v.2.2.1 (Int.toNat v.1) (0, (0, ()))).2.1), v.2.2.1, v.2.2.2)))
 (g0 (w64 (v.1 + (1 : Int)), w64 (v.2.1 + (List.getD v.2.2.1 (Int.toNat v.1) (0, (0, ()))).2.1), v.2.2.1, v.2.2.2))))
 (cond (decide ((List.getD v.2.2.1 (Int.toNat v.1) (0, (0, ()))).1 < (64 : Int)))
 (cond (decide ((List.getD v.2.2.1 (Int.toNat v.1) (0, (0, ()))).2.1 > w64 (Int.tdiv v.2.2.2 (8 : Int))))
 (some (((false, ()), ())))
 (g0 (w64 (v.1 + (1 : Int)), w64 (v.2.1 + (List.getD v.2.2.1 (Int.toNat v.1) (0, (0, ()))).2.1), v.2.2.1, v.2.2.2)))
 (g0 (w64 (v.1 + (1 : Int)), w64 (v.2.1 + (List.getD v.2.2.1 (Int.toNat v.1) (0, (0, ()))).2.1), v.2.2.1, v.2.2.2))))))
 (some (((v.2.1 == v.2.2.2, ()), ())))
def zg6 (fuel : Nat) (g0 : zcp → Option ((Bool × Unit) × Unit)) : zcp → Option ((Bool × Unit) × Unit) := zer fuel g0
theorem zsD (fuel : Nat) (G) : zg5.lp (zep fuel) 0 fuel G (endX zeq zba) 0 zmA = iter (zg6 fuel) fuel := C.lp_iter fun g v => by kernel_rfl
def zjx (fuel : Nat) (X0 : zcp → Option ((Bool × Unit) × Unit)) (x0 : LP) (x1 : Int) : Option ((Bool × Unit) × Unit) :=
 Option.bind (zc fuel ((x1, ()), ((0 : Int), ()), ((2000 : Int), ()), ())) fun y_1 =>
 cond (!y_1.1.1)
 (some (((false, ()), ())))
 (X0 ((0 : Int), (0 : Int), x0, x1))
def zcq (fuel : Nat) (z : ((LP × (Int × Unit)) × Unit)) : Option ((Bool × Unit) × Unit) := zjx fuel (iter (zg6 fuel) fuel) z.1.1 z.1.2.1
theorem zsE (fuel : Nat) (xa : zba.rt.T) (xd : zba.D.T) : zba.go (zep fuel) fuel zg5 zeq xa xd = zcq fuel (zba.xb (xa, xd)) :=
  (show zba.go (zep fuel) fuel zg5 zeq xa xd = zjx fuel (zg5.lp (zep fuel) 0 fuel (fun _ _ _ => none) (endX zeq zba) 0 zmA) xd.1.1 xd.1.2.1 by kernel_rfl).trans (by rw [zsD]; rfl)
abbrev zg7 (fuel : Nat) : LE := ⟨zba, zcq fuel⟩
theorem zmB (fuel : Nat) : EntryOK Try.prog 61 (zg7 fuel).te := okF (T := zep fuel) (fn := Try.f61) (le := zg7 fuel) (frz := []) (ann := zmz) (cuts := []) (rv := zeq) (TabOK.of (entCons (zq fuel) entNil) (methNil)) mixed (by kernel_rfl) (by kernel_rfl) (by kernel_rfl) (fun _ => rfl) (fun _ => rfl) (fun xa xd y h => ⟨fuel, (zsE fuel xa xd).trans h⟩)
def zmC (fuel : Nat) : Tab := Tab.of [(58, (zed fuel).te), (63, (zec fuel).te)] []
def zmD : List Norm := []
noncomputable def zsF : C := irOf Try.prog Try.f62 [] zmD []
def zmE : List (Nat × Option (Nat × Bool)) := [(2, none)]
abbrev zsG : Sx := .agg (.dat (Kd.list (Kd.list I6)) .nil) .nil
abbrev zsH : Sx := .grp (.dat I6 .nil) .nil
abbrev zes : LF := .pure zsG zsH true
def zjy (fuel : Nat) (x0 : List (List Int)) : Option ((Int × Unit) × Unit) :=
 Option.bind (zcl fuel ((x0, ()), ())) fun y_1 =>
 cond (!y_1.1.1)
 (some ((((-1 : Int), ()), ())))
 (tst (decide ((0 : Int) < (zz (List.length x0)))) <|
 Option.bind (zat fuel ((List.getD x0 (Int.toNat (0 : Int)) [], ()), ())) fun y_3 =>
 some (((y_3.1.1, ()), ())))
def zg8 (fuel : Nat) (z : (((List (List Int)) × Unit) × Unit)) : Option ((Int × Unit) × Unit) := zjy fuel z.1.1
theorem zsI (fuel : Nat) (xa : zes.rt.T) (xd : zes.D.T) : zes.go (zmC fuel) fuel zsF zmE xa xd = zg8 fuel (zes.xb (xa, xd)) := by kernel_rfl
abbrev zjz (fuel : Nat) : LE := ⟨zes, zg8 fuel⟩
theorem zsJ (fuel : Nat) : EntryOK Try.prog 62 (zjz fuel).te := okF (T := zmC fuel) (fn := Try.f62) (le := zjz fuel) (frz := []) (ann := zmD) (cuts := []) (rv := zmE) (TabOK.of (entCons (zjv fuel) (entCons (zjt fuel) entNil)) (methNil)) mixed (by kernel_rfl) (by kernel_rfl) (by kernel_rfl) (fun _ => rfl) (fun _ => rfl) (fun xa xd y h => ⟨fuel, (zsI fuel xa xd).trans h⟩)
def zmF (fuel : Nat) : Tab := Tab.of [(58, (zed fuel).te), (59, (zgY fuel).te), (60, (zg4 fuel).te), (61, (zg7 fuel).te), (62, (zjz fuel).te)] []
def zmG : List Norm := []
noncomputable def zsK : C := irOf Try.prog Try.f51 [] zmG []
def zmH : List (Nat × Option (Nat × Bool)) := [(2, none)]
abbrev zsL : Sx := .agg (.dat (Kd.list (Kd.list I6)) (.dat (Kd.list I6) (.dat (Kd.list KP) (.dat I6 (.dat I6 (.dat (Kd.list KP) (.dat I6 .nil))))))) .nil
abbrev zsM : Sx := .grp (.dat Kd.bool .nil) .nil
abbrev zet : LF := .pure zsL zsM true
def zjA (fuel : Nat) (x0 : List (List Int)) (x1 : List Int) (x2 : LP) (x3 : Int) (x4 : Int) (x5 : LP) (x6 : Int) : Option ((Bool × Unit) × Unit) :=
 Option.bind (zcl fuel ((x0, ()), ())) fun y_1 =>
 cond (y_1.1.1)
 (Option.bind (zeh fuel ((x1, ()), ())) fun y_3 =>
 cond (y_3.1.1)
 (Option.bind (zeo fuel ((x2, x3, x4, ()), ())) fun y_5 =>
 cond (y_5.1.1)
 (Option.bind (zcq fuel ((x5, x6, ()), ())) fun y_7 =>
 cond (y_7.1.1)
 (Option.bind (zg8 fuel ((x0, ()), ())) fun y_9 =>
 cond (y_9.1.1 == x4)
 (cond (x4 == x6)
 (some (((decide ((zz (List.length x1)) > (0 : Int)) == decide (x4 > (0 : Int)), ()), ())))
 (some (((false, ()), ()))))
 (some (((false, ()), ()))))
 (some (((false, ()), ()))))
 (some (((false, ()), ()))))
 (some (((false, ()), ()))))
 (some (((false, ()), ())))
def zeu (fuel : Nat) (z : (SumY × Unit)) : Option ((Bool × Unit) × Unit) := zjA fuel z.1.1 z.1.2.1 z.1.2.2.1 z.1.2.2.2.1 z.1.2.2.2.2.1 z.1.2.2.2.2.2.1 z.1.2.2.2.2.2.2.1
theorem zsN (fuel : Nat) (xa : zet.rt.T) (xd : zet.D.T) : zet.go (zmF fuel) fuel zsK zmH xa xd = zeu fuel (zet.xb (xa, xd)) := by kernel_rfl
abbrev zjB (fuel : Nat) : LE := ⟨zet, zeu fuel⟩
theorem zsO (fuel : Nat) : EntryOK Try.prog 51 (zjB fuel).te := okF (T := zmF fuel) (fn := Try.f51) (le := zjB fuel) (frz := []) (ann := zmG) (cuts := []) (rv := zmH) (TabOK.of (entCons (zjv fuel) (entCons (zmr fuel) (entCons (zmy fuel) (entCons (zmB fuel) (entCons (zsJ fuel) entNil))))) (methNil)) mixed (by kernel_rfl) (by kernel_rfl) (by kernel_rfl) (fun _ => rfl) (fun _ => rfl) (fun xa xd y h => ⟨fuel, (zsN fuel xa xd).trans h⟩)
def zmI (fuel : Nat) : Tab := Tab.of [] []
def zmJ : List Norm := []
noncomputable def zsP : C := irOf Try.prog Try.f12 [] zmJ []
def zmK : List (Nat × Option (Nat × Bool)) := [(2, none)]
abbrev zsQ : Sx := .grp (.dat (Kd.list (Kd.int IntKind.u8)) .nil) .nil
abbrev zsR : Sx := (.dat (Kd.list (Kd.int IntKind.u8)) (.dat I6 .nil))
abbrev zev : LF := .new zsQ zsR
def zjC (fuel : Nat) (x0 : List Int) : Option ((List Int) × (Int × Unit)) :=
 cond (decide ((zz (List.length x0)) > (2000 : Int)))
 (tst (decide ((2000 : Int) ≤ (zz (List.length x0)))) <|
 some ((List.drop 0 (List.take (Int.toNat (2000 : Int)) x0), (0 : Int), ())))
 (some ((x0, (0 : Int), ())))
def zg9 (fuel : Nat) (z : (((List Int) × Unit) × Unit)) : Option ((List Int) × (Int × Unit)) := zjC fuel z.1.1
theorem zsS (fuel : Nat) (xa : zev.rt.T) (xd : zev.D.T) : zev.go (zmI fuel) fuel zsP zmK xa xd = zg9 fuel (zev.xb (xa, xd)) := by kernel_rfl
abbrev zjD (fuel : Nat) : LE := ⟨zev, zg9 fuel⟩
theorem zsT (fuel : Nat) : EntryOK Try.prog 12 (zjD fuel).te := okF (T := zmI fuel) (fn := Try.f12) (le := zjD fuel) (frz := []) (ann := zmJ) (cuts := []) (rv := zmK) (TabOK.of (entNil) (methNil)) mixed (by kernel_rfl) (by kernel_rfl) (by kernel_rfl) (fun _ => rfl) (fun _ => rfl) (fun xa xd y h => ⟨fuel, (zsS fuel xa xd).trans h⟩)
def zmL (fuel : Nat) : Tab := Tab.of [] []
def zmM : List Norm := []
noncomputable def zsU : C := irOf Try.prog Try.f20 [] zmM []
def zmN : List (Nat × Option (Nat × Bool)) := [(4, none)]
abbrev zsV : Sx := .grp (.dat I6 .nil) .nil
abbrev zsW : Sx := .grp (.dat I6 .nil) .nil
abbrev zsX : Rt := .cells (.dat (Kd.list (Kd.int IntKind.u8)) (.dat I6 .nil))
abbrev zew : LF := .ref zsX zsV zsW false
def zmO (fuel : Nat) (d0 : List Int) (d1 : Int) (x0 : Int) : Option (((List Int) × (Int × Unit)) × ((Int × Unit) × Unit)) :=
 cond (decide (x0 < (1 : Int)))
 (some (((d0, w64 (d1 + (1 : Int)), ()), ((0 : Int), ()), ())))
 (cond ((zz (List.length d0)) == (0 : Int))
 (some (((d0, w64 (d1 + (1 : Int)), ()), ((0 : Int), ()), ())))
 (cond (decide (w64 (w64 (d1 + (1 : Int)) - (1 : Int)) < (zz (List.length d0))))
 (tst (decide (0 ≤ w64 (w64 (d1 + (1 : Int)) - (1 : Int)))) <|
 tst (decide (w64 (w64 (d1 + (1 : Int)) - (1 : Int)) < (zz (List.length d0)))) <|
 tst (!decide (x0 = 0)) <|
 some (((d0, w64 (d1 + (1 : Int)), ()), (Int.tmod (w64 (List.getD d0 (Int.toNat (w64 (w64 (d1 + (1 : Int)) - (1 : Int)))) 0)) x0, ()), ())))
 (tst (!decide ((zz (List.length d0)) = 0)) <|
 tst (decide (0 ≤ Int.tmod (w64 (w64 (d1 + (1 : Int)) - (1 : Int))) (zz (List.length d0)))) <|
 tst (decide (Int.tmod (w64 (w64 (d1 + (1 : Int)) - (1 : Int))) (zz (List.length d0)) < (zz (List.length d0)))) <|
 tst (!decide ((zz (List.length d0)) = 0)) <|
 tst (decide (0 ≤ Int.tmod (w64 (w64 (w64 (w64 (d1 + (1 : Int)) - (1 : Int)) * (7 : Int)) + (3 : Int))) (zz (List.length d0)))) <|
 tst (decide (Int.tmod (w64 (w64 (w64 (w64 (d1 + (1 : Int)) - (1 : Int)) * (7 : Int)) + (3 : Int))) (zz (List.length d0)) < (zz (List.length d0)))) <|
 tst (!decide ((zz (List.length d0)) = 0)) <|
 tst (!decide (x0 = 0)) <|
 some (((d0, w64 (d1 + (1 : Int)), ()), (Int.tmod (w64 (zz (BitVec.toNat (BitVec.ofInt (IntKind.bits IntKind.i64) (w64 (w64 (w64 (w64 (w64 (List.getD d0 (Int.toNat (Int.tmod (w64 (w64 (d1 + (1 : Int)) - (1 : Int))) (zz (List.length d0)))) 0) * (131 : Int)) + w64 (w64 (List.getD d0 (Int.toNat (Int.tmod (w64 (w64 (w64 (w64 (d1 + (1 : Int)) - (1 : Int)) * (7 : Int)) + (3 : Int))) (zz (List.length d0)))) 0) * (1117 : Int))) + w64 (w64 (w64 (d1 + (1 : Int)) - (1 : Int)) * (29 : Int))) + w64 (w64 (Int.tdiv (w64 (w64 (d1 + (1 : Int)) - (1 : Int))) (zz (List.length d0))) * (53 : Int)))) ^^^ BitVec.ofInt (IntKind.bits IntKind.i64) (w64 (Int.tdiv (w64 (w64 (w64 (w64 (w64 (List.getD d0 (Int.toNat (Int.tmod (w64 (w64 (d1 + (1 : Int)) - (1 : Int))) (zz (List.length d0)))) 0) * (131 : Int)) + w64 (w64 (List.getD d0 (Int.toNat (Int.tmod (w64 (w64 (w64 (w64 (d1 + (1 : Int)) - (1 : Int)) * (7 : Int)) + (3 : Int))) (zz (List.length d0)))) 0) * (1117 : Int))) + w64 (w64 (w64 (d1 + (1 : Int)) - (1 : Int)) * (29 : Int))) + w64 (w64 (Int.tdiv (w64 (w64 (d1 + (1 : Int)) - (1 : Int))) (zz (List.length d0))) * (53 : Int)))) (64 : Int))))))) x0, ()), ())))))
def zb (fuel : Nat) (z : (((List Int) × (Int × Unit)) × ((Int × Unit) × Unit))) : Option (((List Int) × (Int × Unit)) × ((Int × Unit) × Unit)) := zmO fuel z.1.1 z.1.2.1 z.2.1.1
theorem zsY (fuel : Nat) (xa : zew.rt.T) (xd : zew.D.T) : zew.go (zmL fuel) fuel zsU zmN xa xd = zb fuel (zew.xb (xa, xd)) := by kernel_rfl
abbrev zbK (fuel : Nat) : LE := ⟨zew, zb fuel⟩
theorem zex (fuel : Nat) : EntryOK Try.prog 20 (zbK fuel).te := okF (T := zmL fuel) (fn := Try.f20) (le := zbK fuel) (frz := []) (ann := zmM) (cuts := []) (rv := zmN) (TabOK.of (entNil) (methNil)) mixed (by kernel_rfl) (by kernel_rfl) (by kernel_rfl) (fun _ => rfl) (fun _ => rfl) (fun xa xd y h => ⟨fuel, (zsY fuel xa xd).trans h⟩)
end Go.Proofs.Ytljojacnjjgceaa.Den
namespace Go.Proofs.Ytljojacnjjgceaa.Den
open Go Go.RowKit
def zmP (fuel : Nat) : Tab := Tab.of [] []
def zmQ : List Norm := [⟨[2, 1, 0], [], [], []⟩]
noncomputable def zsZ : C := irOf Try.prog Try.f45 [] zmQ []
def zmR : List (Nat × Option (Nat × Bool)) := [(0, some (1, true))]
abbrev zs0 : Sx := .nil
abbrev zs1 : Sx := .agg (.dat (Kd.list (Kd.list I6)) .nil) .nil
abbrev zey : LF := .pure zs0 zs1 false
def zs2 (fuel : Nat)  : Option (((List (List Int)) × Unit) × Unit) :=
 some ((([List.replicate (Int.toNat (8 : Int)) 0, List.replicate (Int.toNat (8 : Int)) 0, List.replicate (Int.toNat (8 : Int)) 0], ()), ()))
def zjE (fuel : Nat) (z : Unit) : Option (((List (List Int)) × Unit) × Unit) := zs2 fuel
theorem zs3 (fuel : Nat) (xa : zey.rt.T) (xd : zey.D.T) : zey.go (zmP fuel) (fuel + 6) zsZ zmR xa xd = zjE fuel (zey.xb (xa, xd)) := by kernel_rfl
abbrev zjF (fuel : Nat) : LE := ⟨zey, zjE fuel⟩
theorem zs4 (fuel : Nat) : EntryOK Try.prog 45 (zjF fuel).te := okF (T := zmP fuel) (fn := Try.f45) (le := zjF fuel) (frz := []) (ann := zmQ) (cuts := []) (rv := zmR) (TabOK.of (entNil) (methNil)) mixed (by kernel_rfl) (by kernel_rfl) (by kernel_rfl) (fun _ => rfl) (fun _ => rfl) (fun xa xd y h => ⟨(fuel + 6), (zs3 fuel xa xd).trans h⟩)
def zmS (fuel : Nat) : Tab := Tab.of [(45, (zjF fuel).te)] []
def zmT : List Norm := []
noncomputable def zs5 : C := irOf Try.prog Try.f38 [] zmT []
def zmU : List (Nat × Option (Nat × Bool)) := [(0, some (7, true))]
abbrev zs6 : Sx := .nil
abbrev zs7 : Sx := .agg (.dat (Kd.list (Kd.list I6)) (.dat (Kd.list I6) (.dat (Kd.list KP) (.dat I6 (.dat I6 (.dat (Kd.list KP) (.dat I6 .nil))))))) .nil
abbrev zez : LF := .pure zs6 zs7 false
def zs8 (fuel : Nat)  : Option (SumY × Unit) :=
 Option.bind (zjE fuel ()) fun y_1 =>
 some (((y_1.1.1, [], [], (0 : Int), (0 : Int), [], (0 : Int), ()), ()))
def zcr (fuel : Nat) (z : Unit) : Option (SumY × Unit) := zs8 fuel
theorem zs9 (fuel : Nat) (xa : zez.rt.T) (xd : zez.D.T) : zez.go (zmS fuel) fuel zs5 zmU xa xd = zcr fuel (zez.xb (xa, xd)) := by kernel_rfl
abbrev zha (fuel : Nat) : LE := ⟨zez, zcr fuel⟩
theorem zmV (fuel : Nat) : EntryOK Try.prog 38 (zha fuel).te := okF (T := zmS fuel) (fn := Try.f38) (le := zha fuel) (frz := []) (ann := zmT) (cuts := []) (rv := zmU) (TabOK.of (entCons (zs4 fuel) entNil) (methNil)) mixed (by kernel_rfl) (by kernel_rfl) (by kernel_rfl) (fun _ => rfl) (fun _ => rfl) (fun xa xd y h => ⟨fuel, (zs9 fuel xa xd).trans h⟩)
def zmW (fuel : Nat) : Tab := Tab.of [] []
def zmX : List Norm := [⟨[4, 1, 3, 2], [], [], []⟩]
noncomputable def zta : C := irOf Try.prog Try.f56 [21] zmX []
def zmY : List (Nat × Option (Nat × Bool)) := [(2, some (1, true))]
abbrev ztb : Sx := .agg (.dat (Kd.list (Kd.list I6)) .nil) .nil
abbrev ztc : Sx := .agg (.osl 1 (.own 0 I6 (.own 0 I6 (.own 0 I6 .nil))) .nil) .nil
abbrev zjG : LF := .via ztb ztc true (((List (List Int)) × Unit) × Unit) (fun (p : ((List Int × (List Int × (List Int × Unit))) × Unit) × Unit) => (([p.1.1.1, p.1.1.2.1, p.1.1.2.2.1], ()), ())) (fun (y : ((List (List Int)) × Unit) × Unit) => (((y.1.1.getD 0 [], y.1.1.getD 1 [], y.1.1.getD 2 [], ()), ()), ()))
def zbL (fuel : Nat) (x0 : List Int) (x1 : List Int) (x2 : List Int) : Option (((List (List Int)) × Unit) × Unit) :=
 tst (decide (0 + List.length x0 < LIM)) <|
 tst (decide (0 + List.length x1 < LIM)) <|
 tst (decide (0 + List.length x2 < LIM)) <|
 some ((([[] ++ x0, [] ++ x1, [] ++ x2], ()), ()))
def zcs (fuel : Nat) (z : (((List (List Int)) × Unit) × Unit)) : Option (((List (List Int)) × Unit) × Unit) := lit3 z.1.1 fun x0 x1 x2 => zbL fuel x0 x1 x2
theorem ztd (fuel : Nat) (xa : zjG.rt.T) (x0 : List Int) (x1 : List Int) (x2 : List Int) : zjG.go (zmW fuel) (fuel + 6) zta zmY xa (([x0, x1, x2], ()), ()) = zbL fuel x0 x1 x2 := by kernel_rfl
abbrev zeA (fuel : Nat) : LE := ⟨zjG, zcs fuel⟩
theorem zjH (fuel : Nat) : EntryOK Try.prog 56 (zeA fuel).te := okF (T := zmW fuel) (fn := Try.f56) (le := zeA fuel) (frz := [21]) (ann := zmX) (cuts := []) (rv := zmY) (TabOK.of (entNil) (methNil)) mixed (by kernel_rfl) (by kernel_rfl) (by kernel_rfl) (fun _ => rfl) (fun _ => rfl) (fun xa xd y h => by
    obtain ⟨⟨l0, ⟨⟩⟩, ⟨⟩⟩ := xd
    obtain ⟨x0, x1, x2, rfl, h⟩ := zzM (show lit3 l0 (fun x0 x1 x2 => zbL fuel x0 x1 x2) = some y from h)
    exact ⟨(fuel + 6), (ztd fuel xa x0 x1 x2).trans h⟩)
def zmZ (fuel : Nat) : Tab := Tab.of [] []
def zm0 : List Norm := []
noncomputable def zte : C := irOf Try.prog Try.f64 [] zm0 []
def zm1 : List (Nat × Option (Nat × Bool)) := [(4, none)]
abbrev ztf : Sx := .grp (.dat I6 .nil) (.grp (.dat I6 .nil) .nil)
abbrev ztg : Sx := .grp (.dat I6 .nil) .nil
abbrev zeB : LF := .pure ztf ztg true
def zjI (fuel : Nat) (x0 : Int) (x1 : Int) : Option ((Int × Unit) × Unit) :=
 tst (decide (0 ≤ x0)) <|
 tst (decide (x0 < (zz 3))) <|
 tst (decide (Int.toNat x0 < 3)) <|
 tst (decide (0 ≤ x0)) <|
 tst (decide (x0 < (zz 3))) <|
 tst (decide (Int.toNat x0 < 3)) <|
 tst (!decide (List.getD [(8 : Int), (16 : Int), (4 : Int)] (Int.toNat x0) 0 = 0)) <|
 some (((Int.tmod (w64 (w64 (w64 (x1 * List.getD [(3 : Int), (5 : Int), (1 : Int)] (Int.toNat x0) 0) + w64 (Int.tdiv x1 (List.getD [(8 : Int), (16 : Int), (4 : Int)] (Int.toNat x0) 0))) + x0)) (8 : Int), ()), ()))
def zaJ (fuel : Nat) (z : ((Int × Unit) × ((Int × Unit) × Unit))) : Option ((Int × Unit) × Unit) := zjI fuel z.1.1 z.2.1.1
theorem zth (fuel : Nat) (xa : zeB.rt.T) (xd : zeB.D.T) : zeB.go (zmZ fuel) fuel zte zm1 xa xd = zaJ fuel (zeB.xb (xa, xd)) := by kernel_rfl
abbrev zjJ (fuel : Nat) : LE := ⟨zeB, zaJ fuel⟩
theorem zti (fuel : Nat) : EntryOK Try.prog 64 (zjJ fuel).te := okF (T := zmZ fuel) (fn := Try.f64) (le := zjJ fuel) (frz := []) (ann := zm0) (cuts := []) (rv := zm1) (TabOK.of (entNil) (methNil)) mixed (by kernel_rfl) (by kernel_rfl) (by kernel_rfl) (fun _ => rfl) (fun _ => rfl) (fun xa xd y h => ⟨fuel, (zth fuel xa xd).trans h⟩)
def zm2 (fuel : Nat) : Tab := Tab.of [(15, (zm fuel).te), (56, (zeA fuel).te), (58, (zed fuel).te), (63, (zec fuel).te), (64, (zjJ fuel).te)] []
def zm3 : List Norm := [⟨[9, 8, 1, 2, 6], [], [], []⟩]
noncomputable def ztj : C := irOf Try.prog Try.f52 [] zm3 []
def zm4 : List (Nat × Option (Nat × Bool)) := [(6, some (1, true)), (7, none)]
abbrev ztk : Sx := .agg (.dat (Kd.list (Kd.list I6)) .nil) (.grp (.dat I6 .nil) (.grp (.dat I6 .nil) .nil))
abbrev ztl : Sx := .agg (.dat (Kd.list (Kd.list I6)) .nil) (.grp (.dat Kd.bool .nil) .nil)
abbrev zeC : LF := .pure ztk ztl false
def zjK (fuel : Nat) (x0 : List (List Int)) (x1 : Int) (x2 : Int) : Option (((List (List Int)) × Unit) × ((Bool × Unit) × Unit)) :=
 Option.bind (zcl fuel ((x0, ()), ())) fun y_1 =>
 cond (!y_1.1.1)
 (some ((([], ()), (false, ()), ())))
 (Option.bind (zc fuel ((x1, ()), ((0 : Int), ()), ((63 : Int), ()), ())) fun y_3 =>
 cond (!y_3.1.1)
 (some ((([], ()), (false, ()), ())))
 (tst (decide ((0 : Int) < (zz (List.length x0)))) <|
 Option.bind (zat fuel ((List.getD x0 (Int.toNat (0 : Int)) [], ()), ())) fun y_5 =>
 Option.bind (zc fuel ((x2, ()), ((0 : Int), ()), (w64 ((2000 : Int) - y_5.1.1), ()), ())) fun y_6 =>
 cond (!y_6.1.1)
 (some ((([], ()), (false, ()), ())))
 (Option.bind (zcs fuel ((x0, ()), ())) fun y_8 =>
 Option.bind (zaJ fuel (((0 : Int), ()), (x1, ()), ())) fun y_9 =>
 Option.bind (zaJ fuel (((0 : Int), ()), (x1, ()), ())) fun y_10 =>
 tst (decide (0 ≤ y_10.1.1)) <|
 tst (decide (y_10.1.1 < (zz (List.length (List.getD y_8.1.1 0 []))))) <|
 tst (decide (Int.toNat y_10.1.1 < List.length (List.getD y_8.1.1 0 []))) <|
 tst (decide (0 ≤ y_9.1.1)) <|
 tst (decide (y_9.1.1 < (zz (List.length (List.getD y_8.1.1 0 []))))) <|
 tst (decide (Int.toNat y_9.1.1 < List.length (List.getD y_8.1.1 0 []))) <|
 let z1_3 := List.set (List.getD y_8.1.1 0 []) (Int.toNat y_9.1.1) (w64 (List.getD (List.getD y_8.1.1 0 []) (Int.toNat y_10.1.1) 0 + x2));
 Option.bind (zaJ fuel (((1 : Int), ()), (x1, ()), ())) fun y_11 =>
 Option.bind (zaJ fuel (((1 : Int), ()), (x1, ()), ())) fun y_12 =>
 tst (decide (0 ≤ y_12.1.1)) <|
 tst (decide (y_12.1.1 < (zz (List.length (List.getD y_8.1.1 1 []))))) <|
 tst (decide (Int.toNat y_12.1.1 < List.length (List.getD y_8.1.1 1 []))) <|
 tst (decide (0 ≤ y_11.1.1)) <|
 tst (decide (y_11.1.1 < (zz (List.length (List.getD y_8.1.1 1 []))))) <|
 tst (decide (Int.toNat y_11.1.1 < List.length (List.getD y_8.1.1 1 []))) <|
 let z2_4 := List.set (List.getD y_8.1.1 1 []) (Int.toNat y_11.1.1) (w64 (List.getD (List.getD y_8.1.1 1 []) (Int.toNat y_12.1.1) 0 + x2));
 Option.bind (zaJ fuel (((2 : Int), ()), (x1, ()), ())) fun y_13 =>
 Option.bind (zaJ fuel (((2 : Int), ()), (x1, ()), ())) fun y_14 =>
 tst (decide (0 ≤ y_14.1.1)) <|
 tst (decide (y_14.1.1 < (zz (List.length (List.getD y_8.1.1 2 []))))) <|
 tst (decide (Int.toNat y_14.1.1 < List.length (List.getD y_8.1.1 2 []))) <|
 tst (decide (0 ≤ y_13.1.1)) <|
 tst (decide (y_13.1.1 < (zz (List.length (List.getD y_8.1.1 2 []))))) <|
 tst (decide (Int.toNat y_13.1.1 < List.length (List.getD y_8.1.1 2 []))) <|
 let z3_5 := List.set (List.getD y_8.1.1 2 []) (Int.toNat y_13.1.1) (w64 (List.getD (List.getD y_8.1.1 2 []) (Int.toNat y_14.1.1) 0 + x2));
 some ((([z1_3, z2_4, z3_5], ()), (true, ()), ())))))
def zhb (fuel : Nat) (z : (((List (List Int)) × Unit) × ((Int × Unit) × ((Int × Unit) × Unit)))) : Option (((List (List Int)) × Unit) × ((Bool × Unit) × Unit)) := zjK fuel z.1.1 z.2.1.1 z.2.2.1.1
theorem ztm (fuel : Nat) (xa : zeC.rt.T) (xd : zeC.D.T) : zeC.go (zm2 fuel) (fuel + 6) ztj zm4 xa xd = zhb fuel (zeC.xb (xa, xd)) := by kernel_rfl
abbrev zjL (fuel : Nat) : LE := ⟨zeC, zhb fuel⟩
theorem ztn (fuel : Nat) : EntryOK Try.prog 52 (zjL fuel).te := okF (T := zm2 fuel) (fn := Try.f52) (le := zjL fuel) (frz := []) (ann := zm3) (cuts := []) (rv := zm4) (TabOK.of (entCons (zq fuel) (entCons (zjH fuel) (entCons (zjv fuel) (entCons (zjt fuel) (entCons (zti fuel) entNil))))) (methNil)) mixed (by kernel_rfl) (by kernel_rfl) (by kernel_rfl) (fun _ => rfl) (fun _ => rfl) (fun xa xd y h => ⟨(fuel + 6), (ztm fuel xa xd).trans h⟩)
abbrev zbM := Option (((List Int) × Unit) × Unit)
def zeD (fuel : Nat) : Tab := Tab.of [] []
def zm5 : List Norm := [{ live := [7, 0, 6, 1, 5], fix := [(5, none, I6, true)] }]
noncomputable def zhc : C := irOf Try.prog Try.f65 [] zm5 []
def zeE : List (Nat × Option (Nat × Bool)) := [(4, none)]
abbrev zto : Sx := .grp (.dat (Kd.list I6) .nil) (.grp (.dat I6 .nil) .nil)
abbrev ztp : Sx := .grp (.dat (Kd.list I6) .nil) .nil
abbrev zbb : LF := .pure zto ztp false
abbrev zct := (Int) × (List Int) × (Bool) × (Int) × (List Int)
def zm6 (v : zct) : Env × Heap := ([(7, SV.int .i64 v.1), (0, SV.es I6 v.2.1), (6, SV.bool v.2.2.1), (1, SV.int .i64 v.2.2.2.1), (5, SV.own 0)], [Blk.arr I6 v.2.2.2.2 0])
def zeF (fuel : Nat) (g0 : zct → zbM) (v : zct) : zbM :=
 cond (decide (v.1 < (zz (List.length v.2.1))))
 (cond (!v.2.2.1)
 (tst (decide (0 ≤ v.1)) <|
 tst (decide (v.1 < (zz (List.length v.2.1)))) <|
 cond (decide (List.getD v.2.1 (Int.toNat v.1) 0 ≥ v.2.2.2.1))
 (tst (decide (List.length v.2.2.2.2 + 1 < LIM)) <|
 tst (decide (0 ≤ v.1)) <|
 tst (decide (v.1 < (zz (List.length v.2.1)))) <|
 cond (List.getD v.2.1 (Int.toNat v.1) 0 != v.2.2.2.1)
 (tst (decide (0 ≤ v.1)) <|
 tst (decide (v.1 < (zz (List.length v.2.1)))) <|
 tst (decide (List.length (v.2.2.2.2 ++ [v.2.2.2.1]) + 1 < LIM)) <|
 g0 (w64 (v.1 + (1 : Int)), v.2.1, true, v.2.2.2.1, v.2.2.2.2 ++ [v.2.2.2.1] ++ [List.getD v.2.1 (Int.toNat v.1) 0]))
 (g0 (w64 (v.1 + (1 : Int)), v.2.1, true, v.2.2.2.1, v.2.2.2.2 ++ [v.2.2.2.1])))
 (tst (decide (0 ≤ v.1)) <|
 tst (decide (v.1 < (zz (List.length v.2.1)))) <|
 cond (List.getD v.2.1 (Int.toNat v.1) 0 != v.2.2.2.1)
 (tst (decide (0 ≤ v.1)) <|
 tst (decide (v.1 < (zz (List.length v.2.1)))) <|
 tst (decide (List.length v.2.2.2.2 + 1 < LIM)) <|
 g0 (w64 (v.1 + (1 : Int)), v.2.1, v.2.2.1, v.2.2.2.1, v.2.2.2.2 ++ [List.getD v.2.1 (Int.toNat v.1) 0]))
 (g0 (w64 (v.1 + (1 : Int)), v.2.1, v.2.2.1, v.2.2.2.1, v.2.2.2.2))))
 (tst (decide (0 ≤ v.1)) <|
 tst (decide (v.1 < (zz (List.length v.2.1)))) <|
 cond (List.getD v.2.1 (Int.toNat v.1) 0 != v.2.2.2.1)
 (tst (decide (0 ≤ v.1)) <|
 tst (decide (v.1 < (zz (List.length v.2.1)))) <|
 tst (decide (List.length v.2.2.2.2 + 1 < LIM)) <|
 g0 (w64 (v.1 + (1 : Int)), v.2.1, v.2.2.1, v.2.2.2.1, v.2.2.2.2 ++ [List.getD v.2.1 (Int.toNat v.1) 0]))
 (g0 (w64 (v.1 + (1 : Int)), v.2.1, v.2.2.1, v.2.2.2.1, v.2.2.2.2))))
 (cond (!v.2.2.1)
 (tst (decide (List.length v.2.2.2.2 + 1 < LIM)) <|
 tst (decide (0 ≤ if (6 : Int) < (zz (List.length (v.2.2.2.2 ++ [v.2.2.2.1]))) then (6 : Int) else (zz (List.length (v.2.2.2.2 ++ [v.2.2.2.1]))))) <|
 tst (decide ((if (6 : Int) < (zz (List.length (v.2.2.2.2 ++ [v.2.2.2.1]))) then (6 : Int) else (zz (List.length (v.2.2.2.2 ++ [v.2.2.2.1])))) ≤ (zz (List.length (v.2.2.2.2 ++ [v.2.2.2.1]))))) <|
 some (((List.take (Int.toNat (if (6 : Int) < (zz (List.length (v.2.2.2.2 ++ [v.2.2.2.1]))) then (6 : Int) else (zz (List.length (v.2.2.2.2 ++ [v.2.2.2.1])))) - 0) (List.drop 0 (v.2.2.2.2 ++ [v.2.2.2.1])), ()), ())))
 (tst (decide (0 ≤ if (6 : Int) < (zz (List.length v.2.2.2.2)) then (6 : Int) else (zz (List.length v.2.2.2.2)))) <|
 tst (decide ((if (6 : Int) < (zz (List.length v.2.2.2.2)) then (6 : Int) else (zz (List.length v.2.2.2.2))) ≤ (zz (List.length v.2.2.2.2)))) <|
 some (((List.take (Int.toNat (if (6 : Int) < (zz (List.length v.2.2.2.2)) then (6 : Int) else (zz (List.length v.2.2.2.2))) - 0) (List.drop 0 v.2.2.2.2), ()), ()))))
def zeG (fuel : Nat) (g0 : zct → zbM) : zct → zbM := zeF fuel g0
theorem ztq (fuel : Nat) (G) : zhc.lp (zeD fuel) 0 fuel G (endX zeE zbb) 0 zm6 = iter (zeG fuel) fuel := C.lp_iter fun g v => by kernel_rfl
def zm7 (fuel : Nat) (X0 : zct → zbM) (x0 : List Int) (x1 : Int) : zbM :=
 X0 ((0 : Int), x0, false, x1, [])
def zhd (fuel : Nat) (z : (((List Int) × Unit) × ((Int × Unit) × Unit))) : zbM := zm7 fuel (iter (zeG fuel) fuel) z.1.1 z.2.1.1
theorem ztr (fuel : Nat) (xa : zbb.rt.T) (xd : zbb.D.T) : zbb.go (zeD fuel) fuel zhc zeE xa xd = zhd fuel (zbb.xb (xa, xd)) :=
  (show zbb.go (zeD fuel) fuel zhc zeE xa xd = zm7 fuel (zhc.lp (zeD fuel) 0 fuel (fun _ _ _ => none) (endX zeE zbb) 0 zm6) xd.1.1 xd.2.1.1 by kernel_rfl).trans (by rw [ztq]; rfl)
abbrev zjM (fuel : Nat) : LE := ⟨zbb, zhd fuel⟩
theorem zts (fuel : Nat) : EntryOK Try.prog 65 (zjM fuel).te := okF (T := zeD fuel) (fn := Try.f65) (le := zjM fuel) (frz := []) (ann := zm5) (cuts := []) (rv := zeE) (TabOK.of (entNil) (methNil)) mixed (by kernel_rfl) (by kernel_rfl) (by kernel_rfl) (fun _ => rfl) (fun _ => rfl) (fun xa xd y h => ⟨fuel, (ztr fuel xa xd).trans h⟩)
def zm8 (fuel : Nat) : Tab := Tab.of [(15, (zm fuel).te)] []
def zm9 : List Norm := []
noncomputable def ztt : C := irOf Try.prog Try.f66 [] zm9 []
def zna : List (Nat × Option (Nat × Bool)) := [(2, none)]
abbrev ztu : Sx := .grp (.dat I6 .nil) .nil
abbrev ztv : Sx := .grp (.dat I6 .nil) .nil
abbrev zeH : LF := .pure ztu ztv true
def zjN (fuel : Nat) (x0 : Int) : Option ((Int × Unit) × Unit) :=
 Option.bind (zc fuel ((x0, ()), ((0 : Int), ()), ((63 : Int), ()), ())) fun y_1 =>
 cond (!y_1.1.1)
 (some ((((-1 : Int), ()), ())))
 (some (((Int.tmod (w64 (w64 (x0 * (37 : Int)) + (11 : Int))) (64 : Int), ()), ())))
def zhe (fuel : Nat) (z : ((Int × Unit) × Unit)) : Option ((Int × Unit) × Unit) := zjN fuel z.1.1
theorem ztw (fuel : Nat) (xa : zeH.rt.T) (xd : zeH.D.T) : zeH.go (zm8 fuel) fuel ztt zna xa xd = zhe fuel (zeH.xb (xa, xd)) := by kernel_rfl
abbrev zjO (fuel : Nat) : LE := ⟨zeH, zhe fuel⟩
theorem ztx (fuel : Nat) : EntryOK Try.prog 66 (zjO fuel).te := okF (T := zm8 fuel) (fn := Try.f66) (le := zjO fuel) (frz := []) (ann := zm9) (cuts := []) (rv := zna) (TabOK.of (entCons (zq fuel) entNil) (methNil)) mixed (by kernel_rfl) (by kernel_rfl) (by kernel_rfl) (fun _ => rfl) (fun _ => rfl) (fun xa xd y h => ⟨fuel, (ztw fuel xa xd).trans h⟩)
def znb (fuel : Nat) : Tab := Tab.of [(15, (zm fuel).te), (59, (zgY fuel).te), (65, (zjM fuel).te), (66, (zjO fuel).te)] []
def znc : List Norm := []
noncomputable def zty : C := irOf Try.prog Try.f53 [] znc []
def znd : List (Nat × Option (Nat × Bool)) := [(4, some (1, true)), (5, none)]
abbrev ztz : Sx := .agg (.dat (Kd.list I6) .nil) (.grp (.dat I6 .nil) .nil)
abbrev ztA : Sx := .agg (.dat (Kd.list I6) .nil) (.grp (.dat Kd.bool .nil) .nil)
abbrev zeI : LF := .pure ztz ztA false
def zjP (fuel : Nat) (x0 : List Int) (x1 : Int) : Option (((List Int) × Unit) × ((Bool × Unit) × Unit)) :=
 Option.bind (zeh fuel ((x0, ()), ())) fun y_1 =>
 cond (!y_1.1.1)
 (some ((([], ()), (false, ()), ())))
 (Option.bind (zc fuel ((x1, ()), ((0 : Int), ()), ((63 : Int), ()), ())) fun y_3 =>
 cond (!y_3.1.1)
 (some ((([], ()), (false, ()), ())))
 (Option.bind (zhe fuel ((x1, ()), ())) fun y_5 =>
 Option.bind (zhd fuel ((x0, ()), (y_5.1.1, ()), ())) fun y_6 =>
 some (((y_6.1.1, ()), (true, ()), ()))))
def zhf (fuel : Nat) (z : (((List Int) × Unit) × ((Int × Unit) × Unit))) : Option (((List Int) × Unit) × ((Bool × Unit) × Unit)) := zjP fuel z.1.1 z.2.1.1
theorem ztB (fuel : Nat) (xa : zeI.rt.T) (xd : zeI.D.T) : zeI.go (znb fuel) fuel zty znd xa xd = zhf fuel (zeI.xb (xa, xd)) := by kernel_rfl
abbrev zjQ (fuel : Nat) : LE := ⟨zeI, zhf fuel⟩
theorem ztC (fuel : Nat) : EntryOK Try.prog 53 (zjQ fuel).te := okF (T := znb fuel) (fn := Try.f53) (le := zjQ fuel) (frz := []) (ann := znc) (cuts := []) (rv := znd) (TabOK.of (entCons (zq fuel) (entCons (zmr fuel) (entCons (zts fuel) (entCons (ztx fuel) entNil)))) (methNil)) mixed (by kernel_rfl) (by kernel_rfl) (by kernel_rfl) (fun _ => rfl) (fun _ => rfl) (fun xa xd y h => ⟨fuel, (ztB fuel xa xd).trans h⟩)
def zaj (fuel : Nat) : Tab := Tab.of [] []
def zne : List Norm := [⟨[4, 0, 3], [], [], []⟩, ⟨[6, 0, 4, 5, 3], [], [], []⟩]
noncomputable def z7 : C := irOf Try.prog Try.f74 [] zne []
def zaK : List (Nat × Option (Nat × Bool)) := [(2, none)]
abbrev ztD : Sx := .grp (.dat (Kd.list KP) .nil) .nil
abbrev ztE : Sx := .grp (.dat I6 .nil) .nil
abbrev z8 : LF := .pure ztD ztE true
abbrev zbc := (Int) × LP × (Int)
abbrev zcu := (Int) × LP × (Int) × (Int) × (Int)
def zav (v : zbc) : Env × Heap := ([(4, SV.int .i64 v.1), (0, SV.es KP v.2.1), (3, SV.int .i64 v.2.2)], [])
def zcv (v : zcu) : Env × Heap := ([(6, SV.int .i64 v.1), (0, SV.es KP v.2.1), (4, SV.int .i64 v.2.2.1), (5, SV.int .i64 v.2.2.2.1), (3, SV.int .i64 v.2.2.2.2)], [])
def zcw (fuel : Nat) (g0 : zbc → Option ((Int × Unit) × Unit)) (g1 : zcu → Option ((Int × Unit) × Unit)) (v : zcu) : Option ((Int × Unit) × Unit) :=
 cond (decide (v.1 < (zz (List.length v.2.1))))
 (tst (decide (0 ≤ v.1)) <|
 tst (decide (v.1 < (zz (List.length v.2.1)))) <|
 tst (decide (0 ≤ v.2.2.1)) <|
 tst (decide (v.2.2.1 < (zz (List.length v.2.1)))) <|
 cond (decide ((List.getD v.2.1 (Int.toNat v.1) (0, (0, ()))).2.1 ≥ (List.getD v.2.1 (Int.toNat v.2.2.1) (0, (0, ()))).2.1))
 (g1 (w64 (v.1 + (1 : Int)), v.2.1, v.2.2.1, w64 (v.2.2.2.1 + (1 : Int)), v.2.2.2.2))
 (g1 (w64 (v.1 + (1 : Int)), v.2.1, v.2.2.1, v.2.2.2.1, v.2.2.2.2)))
 (cond (decide (v.2.2.2.1 > (4 : Int)))
 (tst (decide (0 ≤ v.2.2.1)) <|
 tst (decide (v.2.2.1 < (zz (List.length v.2.1)))) <|
 g0 (w64 (v.2.2.1 + (1 : Int)), v.2.1, if (List.getD v.2.1 (Int.toNat v.2.2.1) (0, (0, ()))).2.1 > v.2.2.2.2 then (List.getD v.2.1 (Int.toNat v.2.2.1) (0, (0, ()))).2.1 else v.2.2.2.2))
 (g0 (w64 (v.2.2.1 + (1 : Int)), v.2.1, v.2.2.2.2)))
def zjR (fuel : Nat) (g0 : zbc → Option ((Int × Unit) × Unit)) (g1 : zcu → Option ((Int × Unit) × Unit)) : zcu → Option ((Int × Unit) × Unit) := zcw fuel g0 g1
theorem ztF (fuel : Nat) (G) : z7.lp (zaj fuel) 0 fuel G (endX zaK z8) 1 zcv = iter (zjR fuel (fun v => G 0 (zav v).1 (zav v).2)) fuel := C.lp_iter fun g v =>
  (show run (zaj fuel) 0 fuel (z7.bdAt 1) (zcv v).1 (zcv v).2 (loopK 0 (z7.nmAt 1) g (z7.contAt (zaj fuel) 0 fuel G 0 1 (endX zaK z8))) = zcw fuel (fun v => G 0 (zav v).1 (zav v).2) (fun v => g (zcv v).1 (zcv v).2) v by kernel_rfl)
def zcx (fuel : Nat) (X1 : zcu → Option ((Int × Unit) × Unit)) (g0 : zbc → Option ((Int × Unit) × Unit)) (v : zbc) : Option ((Int × Unit) × Unit) :=
 cond (decide (v.1 < (zz (List.length v.2.1))))
 (X1 ((0 : Int), v.2.1, v.1, (0 : Int), v.2.2))
 (some (((v.2.2, ()), ())))
def zhg (fuel : Nat) (g0 : zbc → Option ((Int × Unit) × Unit)) : zbc → Option ((Int × Unit) × Unit) := zcx fuel (iter (zjR fuel g0) fuel) g0
theorem ztG (fuel : Nat) (G) : z7.lp (zaj fuel) 0 fuel G (endX zaK z8) 0 zav = iter (zhg fuel) fuel := C.lp_iter fun g v =>
  (show run (zaj fuel) 0 fuel (z7.bdAt 0) (zav v).1 (zav v).2 (loopK 0 (z7.nmAt 0) g (z7.contAt (zaj fuel) 0 fuel G 0 0 (endX zaK z8))) = zcx fuel (z7.lp (zaj fuel) 0 fuel (fun m => bif Nat.beq m 0 then g else G m) (endX zaK z8) 1 zcv) (fun v => g (zav v).1 (zav v).2) v by kernel_rfl).trans (by rw [ztF]; rfl)
def znf (fuel : Nat) (X0 : zbc → Option ((Int × Unit) × Unit)) (x0 : LP) : Option ((Int × Unit) × Unit) :=
 X0 ((0 : Int), x0, (0 : Int))
def zhh (fuel : Nat) (z : ((LP × Unit) × Unit)) : Option ((Int × Unit) × Unit) := znf fuel (iter (zhg fuel) fuel) z.1.1
theorem ztH (fuel : Nat) (xa : z8.rt.T) (xd : z8.D.T) : z8.go (zaj fuel) fuel z7 zaK xa xd = zhh fuel (z8.xb (xa, xd)) :=
  (show z8.go (zaj fuel) fuel z7 zaK xa xd = znf fuel (z7.lp (zaj fuel) 0 fuel (fun _ _ _ => none) (endX zaK z8) 0 zav) xd.1.1 by kernel_rfl).trans (by rw [ztG]; rfl)
abbrev zjS (fuel : Nat) : LE := ⟨z8, zhh fuel⟩
theorem ztI (fuel : Nat) : EntryOK Try.prog 74 (zjS fuel).te := okF (T := zaj fuel) (fn := Try.f74) (le := zjS fuel) (frz := []) (ann := zne) (cuts := []) (rv := zaK) (TabOK.of (entNil) (methNil)) mixed (by kernel_rfl) (by kernel_rfl) (by kernel_rfl) (fun _ => rfl) (fun _ => rfl) (fun xa xd y h => ⟨fuel, (ztH fuel xa xd).trans h⟩)
abbrev zbN := Option ((LP × Unit) × Unit)
def zeJ (fuel : Nat) : Tab := Tab.of [] []
def zng : List Norm := [{ live := [6, 0, 1, 5], fix := [(5, none, KP, true)] }]
noncomputable def zhi : C := irOf Try.prog Try.f75 [] zng []
def zeK : List (Nat × Option (Nat × Bool)) := [(4, none)]
abbrev ztJ : Sx := .grp (.dat (Kd.list KP) .nil) (.grp (.dat I6 .nil) .nil)
abbrev ztK : Sx := .grp (.own 0 KP .nil) .nil
abbrev zbd : LF := .pure ztJ ztK true
abbrev zcy := (Int) × LP × (Int) × LP
def znh (v : zcy) : Env × Heap := ([(6, SV.int .i64 v.1), (0, SV.es KP v.2.1), (1, SV.int .i64 v.2.2.1), (5, SV.own 0)], [Blk.arr KP v.2.2.2 0])
def zeL (fuel : Nat) (g0 : zcy → zbN) (v : zcy) : zbN :=
 cond (decide (v.1 < (zz (List.length v.2.1))))
 (tst (decide (0 ≤ v.1)) <|
 tst (decide (v.1 < (zz (List.length v.2.1)))) <|
 cond (decide ((List.getD v.2.1 (Int.toNat v.1) (0, (0, ()))).2.1 > v.2.2.1))
 (tst (decide (0 ≤ v.1)) <|
 tst (decide (v.1 < (zz (List.length v.2.1)))) <|
 tst (decide (0 ≤ v.1)) <|
 tst (decide (v.1 < (zz (List.length v.2.1)))) <|
 tst (decide (List.length v.2.2.2 + 1 < LIM)) <|
 g0 (w64 (v.1 + (1 : Int)), v.2.1, v.2.2.1, v.2.2.2 ++ [((List.getD v.2.1 (Int.toNat v.1) (0, (0, ()))).1, w64 ((List.getD v.2.1 (Int.toNat v.1) (0, (0, ()))).2.1 - v.2.2.1), ())]))
 (g0 (w64 (v.1 + (1 : Int)), v.2.1, v.2.2.1, v.2.2.2)))
 (some (((v.2.2.2, ()), ())))
def zeM (fuel : Nat) (g0 : zcy → zbN) : zcy → zbN := zeL fuel g0
theorem ztL (fuel : Nat) (G) : zhi.lp (zeJ fuel) 0 fuel G (endX zeK zbd) 0 znh = iter (zeM fuel) fuel := C.lp_iter fun g v => by kernel_rfl
def zni (fuel : Nat) (X0 : zcy → zbN) (x0 : LP) (x1 : Int) : zbN :=
 X0 ((0 : Int), x0, x1, [])
def zhj (fuel : Nat) (z : ((LP × Unit) × ((Int × Unit) × Unit))) : zbN := zni fuel (iter (zeM fuel) fuel) z.1.1 z.2.1.1
theorem ztM (fuel : Nat) (xa : zbd.rt.T) (xd : zbd.D.T) : zbd.go (zeJ fuel) fuel zhi zeK xa xd = zhj fuel (zbd.xb (xa, xd)) :=
  (show zbd.go (zeJ fuel) fuel zhi zeK xa xd = zni fuel (zhi.lp (zeJ fuel) 0 fuel (fun _ _ _ => none) (endX zeK zbd) 0 znh) xd.1.1 xd.2.1.1 by kernel_rfl).trans (by rw [ztL]; rfl)
abbrev zjT (fuel : Nat) : LE := ⟨zbd, zhj fuel⟩
theorem ztN (fuel : Nat) : EntryOK Try.prog 75 (zjT fuel).te := okF (T := zeJ fuel) (fn := Try.f75) (le := zjT fuel) (frz := []) (ann := zng) (cuts := []) (rv := zeK) (TabOK.of (entNil) (methNil)) mixed (by kernel_rfl) (by kernel_rfl) (by kernel_rfl) (fun _ => rfl) (fun _ => rfl) (fun xa xd y h => ⟨fuel, (ztM fuel xa xd).trans h⟩)
def znj (fuel : Nat) : Tab := Tab.of [(74, (zjS fuel).te), (75, (zjT fuel).te)] []
def znk : List Norm := []
noncomputable def ztO : C := irOf Try.prog Try.f67 [] znk []
def znl : List (Nat × Option (Nat × Bool)) := [(2, some (3, true))]
abbrev ztP : Sx := .agg (.dat (Kd.list KP) (.dat I6 (.dat I6 .nil))) .nil
abbrev ztQ : Sx := .agg (.own 0 KP (.dat I6 (.dat I6 .nil))) .nil
abbrev zeN : LF := .pure ztP ztQ true
def zjU (fuel : Nat) (x0 : LP) (x1 : Int) (x2 : Int) : Option ((LP × (Int × (Int × Unit))) × Unit) :=
 Option.bind (zhh fuel ((x0, ()), ())) fun y_1 =>
 Option.bind (zhj fuel ((x0, ()), (y_1.1.1, ()), ())) fun y_2 =>
 some (((y_2.1.1, w64 (x1 + y_1.1.1), x2, ()), ()))
def zhk (fuel : Nat) (z : ((LP × (Int × (Int × Unit))) × Unit)) : Option ((LP × (Int × (Int × Unit))) × Unit) := zjU fuel z.1.1 z.1.2.1 z.1.2.2.1
theorem ztR (fuel : Nat) (xa : zeN.rt.T) (xd : zeN.D.T) : zeN.go (znj fuel) fuel ztO znl xa xd = zhk fuel (zeN.xb (xa, xd)) := by kernel_rfl
abbrev zjV (fuel : Nat) : LE := ⟨zeN, zhk fuel⟩
theorem ztS (fuel : Nat) : EntryOK Try.prog 67 (zjV fuel).te := okF (T := znj fuel) (fn := Try.f67) (le := zjV fuel) (frz := []) (ann := znk) (cuts := []) (rv := znl) (TabOK.of (entCons (ztI fuel) (entCons (ztN fuel) entNil)) (methNil)) mixed (by kernel_rfl) (by kernel_rfl) (by kernel_rfl) (fun _ => rfl) (fun _ => rfl) (fun xa xd y h => ⟨fuel, (ztR fuel xa xd).trans h⟩)
abbrev zbO := Option ((LP × Unit) × Unit)
def zeO (fuel : Nat) : Tab := Tab.of [] []
def znm : List Norm := [{ live := [7, 0, 6, 3, 5], fix := [(5, none, KP, true)] }]
noncomputable def zhl : C := irOf Try.prog Try.f68 [] znm []
def zeP : List (Nat × Option (Nat × Bool)) := [(4, none)]
abbrev ztT : Sx := .grp (.dat (Kd.list KP) .nil) (.agg (.dat I6 (.dat I6 .nil)) .nil)
abbrev ztU : Sx := .grp (.own 0 KP .nil) .nil
abbrev zbe : LF := .pure ztT ztU true
abbrev zcz := (Int) × LP × (Bool) × (Int) × (Int) × LP
def znn (v : zcz) : Env × Heap := ([(7, SV.int .i64 v.1), (0, SV.es KP v.2.1), (6, SV.bool v.2.2.1), (3, SV.ptr 0 0), (5, SV.own 1)], [Blk.cells [SV.int .i64 v.2.2.2.1, SV.int .i64 v.2.2.2.2.1] 0 2, Blk.arr KP v.2.2.2.2.2 0])
def zeQ (fuel : Nat) (g0 : zcz → zbO) (v : zcz) : zbO :=
 cond (decide (v.1 < (zz (List.length v.2.1))))
 (cond (!v.2.2.1)
 (tst (decide (0 ≤ v.1)) <|
 tst (decide (v.1 < (zz (List.length v.2.1)))) <|
 cond (decide ((List.getD v.2.1 (Int.toNat v.1) (0, (0, ()))).1 ≥ v.2.2.2.1))
 (tst (decide (0 ≤ v.1)) <|
 tst (decide (v.1 < (zz (List.length v.2.1)))) <|
 cond ((List.getD v.2.1 (Int.toNat v.1) (0, (0, ()))).1 == v.2.2.2.1)
 (tst (decide (0 ≤ v.1)) <|
 tst (decide (v.1 < (zz (List.length v.2.1)))) <|
 tst (decide (List.length v.2.2.2.2.2 + 1 < LIM)) <|
 g0 (w64 (v.1 + (1 : Int)), v.2.1, true, v.2.2.2.1, v.2.2.2.2.1, v.2.2.2.2.2 ++ [(v.2.2.2.1, w64 (v.2.2.2.2.1 + (List.getD v.2.1 (Int.toNat v.1) (0, (0, ()))).2.1), ())]))
 (tst (decide (List.length v.2.2.2.2.2 + 1 < LIM)) <|
 tst (decide (0 ≤ v.1)) <|
 tst (decide (v.1 < (zz (List.length v.2.1)))) <|
 tst (decide (List.length (v.2.2.2.2.2 ++ [(v.2.2.2.1, v.2.2.2.2.1, ())]) + 1 < LIM)) <|
 g0 (w64 (v.1 + (1 : Int)), v.2.1, true, v.2.2.2.1, v.2.2.2.2.1, v.2.2.2.2.2 ++ [(v.2.2.2.1, v.2.2.2.2.1, ())] ++ [((List.getD v.2.1 (Int.toNat v.1) (0, (0, ()))).1, (List.getD v.2.1 (Int.toNat v.1) (0, (0, ()))).2.1, ())])))
 (tst (decide (0 ≤ v.1)) <|
 tst (decide (v.1 < (zz (List.length v.2.1)))) <|
 tst (decide (List.length v.2.2.2.2.2 + 1 < LIM)) <|
 g0 (w64 (v.1 + (1 : Int)), v.2.1, v.2.2.1, v.2.2.2.1, v.2.2.2.2.1, v.2.2.2.2.2 ++ [((List.getD v.2.1 (Int.toNat v.1) (0, (0, ()))).1, (List.getD v.2.1 (Int.toNat v.1) (0, (0, ()))).2.1, ())])))
 (tst (decide (0 ≤ v.1)) <|
 tst (decide (v.1 < (zz (List.length v.2.1)))) <|
 tst (decide (List.length v.2.2.2.2.2 + 1 < LIM)) <|
 g0 (w64 (v.1 + (1 : Int)), v.2.1, v.2.2.1, v.2.2.2.1, v.2.2.2.2.1, v.2.2.2.2.2 ++ [((List.getD v.2.1 (Int.toNat v.1) (0, (0, ()))).1, (List.getD v.2.1 (Int.toNat v.1) (0, (0, ()))).2.1, ())])))
 (cond (!v.2.2.1)
 (tst (decide (List.length v.2.2.2.2.2 + 1 < LIM)) <|
 some (((v.2.2.2.2.2 ++ [(v.2.2.2.1, v.2.2.2.2.1, ())], ()), ())))
 (some (((v.2.2.2.2.2, ()), ()))))
def zeR (fuel : Nat) (g0 : zcz → zbO) : zcz → zbO := zeQ fuel g0
theorem ztV (fuel : Nat) (G) : zhl.lp (zeO fuel) 0 fuel G (endX zeP zbe) 0 znn = iter (zeR fuel) fuel := C.lp_iter fun g v => by kernel_rfl
def zno (fuel : Nat) (X0 : zcz → zbO) (x0 : LP) (x1 : Int) (x2 : Int) : zbO :=
 X0 ((0 : Int), x0, false, x1, x2, [])
def zhm (fuel : Nat) (z : ((LP × Unit) × ((Int × (Int × Unit)) × Unit))) : zbO := zno fuel (iter (zeR fuel) fuel) z.1.1 z.2.1.1 z.2.1.2.1
theorem ztW (fuel : Nat) (xa : zbe.rt.T) (xd : zbe.D.T) : zbe.go (zeO fuel) fuel zhl zeP xa xd = zhm fuel (zbe.xb (xa, xd)) :=
  (show zbe.go (zeO fuel) fuel zhl zeP xa xd = zno fuel (zhl.lp (zeO fuel) 0 fuel (fun _ _ _ => none) (endX zeP zbe) 0 znn) xd.1.1 xd.2.1.1 xd.2.1.2.1 by kernel_rfl).trans (by rw [ztV]; rfl)
abbrev zjW (fuel : Nat) : LE := ⟨zbe, zhm fuel⟩
theorem ztX (fuel : Nat) : EntryOK Try.prog 68 (zjW fuel).te := okF (T := zeO fuel) (fn := Try.f68) (le := zjW fuel) (frz := []) (ann := znm) (cuts := []) (rv := zeP) (TabOK.of (entNil) (methNil)) mixed (by kernel_rfl) (by kernel_rfl) (by kernel_rfl) (fun _ => rfl) (fun _ => rfl) (fun xa xd y h => ⟨fuel, (ztW fuel xa xd).trans h⟩)
def znp (fuel : Nat) : Tab := Tab.of [(15, (zm fuel).te), (60, (zg4 fuel).te), (67, (zjV fuel).te), (68, (zjW fuel).te)] []
def znq : List Norm := []
noncomputable def ztY : C := irOf Try.prog Try.f54 [] znq []
def znr : List (Nat × Option (Nat × Bool)) := [(4, some (3, true)), (5, none)]
abbrev ztZ : Sx := .agg (.dat (Kd.list KP) (.dat I6 (.dat I6 .nil))) (.grp (.dat I6 .nil) .nil)
abbrev zt0 : Sx := .agg (.own 0 KP (.dat I6 (.dat I6 .nil))) (.grp (.dat Kd.bool .nil) .nil)
abbrev zeS : LF := .pure ztZ zt0 true
def zjX (fuel : Nat) (x0 : LP) (x1 : Int) (x2 : Int) (x3 : Int) : Option ((LP × (Int × (Int × Unit))) × ((Bool × Unit) × Unit)) :=
 Option.bind (zeo fuel ((x0, x1, x2, ()), ())) fun y_1 =>
 cond (!y_1.1.1)
 (some ((([], (0 : Int), (0 : Int), ()), (false, ()), ())))
 (Option.bind (zc fuel ((x3, ()), ((0 : Int), ()), ((63 : Int), ()), ())) fun y_3 =>
 cond (!y_3.1.1)
 (some ((([], (0 : Int), (0 : Int), ()), (false, ()), ())))
 (cond (decide (x2 ≥ (2000 : Int)))
 (some ((([], (0 : Int), (0 : Int), ()), (false, ()), ())))
 (Option.bind (zhm fuel ((x0, ()), (x3, (1 : Int), ()), ())) fun y_6 =>
 Option.bind (zhk fuel ((y_6.1.1, x1, w64 (x2 + (1 : Int)), ()), ())) fun y_7 =>
 some (((y_7.1.1, y_7.1.2.1, y_7.1.2.2.1, ()), (true, ()), ())))))
def zhn (fuel : Nat) (z : ((LP × (Int × (Int × Unit))) × ((Int × Unit) × Unit))) : Option ((LP × (Int × (Int × Unit))) × ((Bool × Unit) × Unit)) := zjX fuel z.1.1 z.1.2.1 z.1.2.2.1 z.2.1.1
theorem zt1 (fuel : Nat) (xa : zeS.rt.T) (xd : zeS.D.T) : zeS.go (znp fuel) fuel ztY znr xa xd = zhn fuel (zeS.xb (xa, xd)) := by kernel_rfl
abbrev zjY (fuel : Nat) : LE := ⟨zeS, zhn fuel⟩
theorem zt2 (fuel : Nat) : EntryOK Try.prog 54 (zjY fuel).te := okF (T := znp fuel) (fn := Try.f54) (le := zjY fuel) (frz := []) (ann := znq) (cuts := []) (rv := znr) (TabOK.of (entCons (zq fuel) (entCons (zmy fuel) (entCons (ztS fuel) (entCons (ztX fuel) entNil)))) (methNil)) mixed (by kernel_rfl) (by kernel_rfl) (by kernel_rfl) (fun _ => rfl) (fun _ => rfl) (fun xa xd y h => ⟨fuel, (zt1 fuel xa xd).trans h⟩)
abbrev zbP := Option (((List Int) × Unit) × Unit)
def zeT (fuel : Nat) : Tab := Tab.of [] []
def zns : List Norm := [⟨[4, 0, 3], [], [], []⟩]
noncomputable def zho : C := irOf Try.prog Try.f69 [] zns []
def zeU : List (Nat × Option (Nat × Bool)) := [(2, none)]
abbrev zt3 : Sx := .grp (.dat (Kd.list KP) .nil) .nil
abbrev zt4 : Sx := .grp (.own 0 I6 .nil) .nil
abbrev zbf : LF := .pure zt3 zt4 true
abbrev zcA := (Int) × LP × (List Int)
def znt (v : zcA) : Env × Heap := ([(4, SV.int .i64 v.1), (0, SV.es KP v.2.1), (3, SV.own 0)], [Blk.arr I6 v.2.2 0])
def zeV (fuel : Nat) (g0 : zcA → zbP) (v : zcA) : zbP :=
 cond (decide (v.1 < (zz (List.length v.2.1))))
 (tst (decide (0 ≤ v.1)) <|
 tst (decide (v.1 < (zz (List.length v.2.1)))) <|
 tst (decide (0 ≤ v.1)) <|
 tst (decide (v.1 < (zz (List.length v.2.1)))) <|
 tst (decide (0 ≤ (List.getD v.2.1 (Int.toNat v.1) (0, (0, ()))).1)) <|
 tst (decide ((List.getD v.2.1 (Int.toNat v.1) (0, (0, ()))).1 < (zz (List.length v.2.2)))) <|
 tst (decide (Int.toNat (List.getD v.2.1 (Int.toNat v.1) (0, (0, ()))).1 < List.length v.2.2)) <|
 tst (decide (0 ≤ v.1)) <|
 tst (decide (v.1 < (zz (List.length v.2.1)))) <|
 tst (decide (0 ≤ (List.getD v.2.1 (Int.toNat v.1) (0, (0, ()))).1)) <|
 tst (decide ((List.getD v.2.1 (Int.toNat v.1) (0, (0, ()))).1 < (zz (List.length v.2.2)))) <|
 tst (decide (Int.toNat (List.getD v.2.1 (Int.toNat v.1) (0, (0, ()))).1 < List.length v.2.2)) <|
 g0 (w64 (v.1 + (1 : Int)), v.2.1, List.set v.2.2 (Int.toNat (List.getD v.2.1 (Int.toNat v.1) (0, (0, ()))).1) (w64 (List.getD v.2.2 (Int.toNat (List.getD v.2.1 (Int.toNat v.1) (0, (0, ()))).1) 0 + (List.getD v.2.1 (Int.toNat v.1) (0, (0, ()))).2.1))))
 (some (((v.2.2, ()), ())))
def zhp (fuel : Nat) (g0 : zcA → zbP) : zcA → zbP := zeV fuel g0
theorem zt5 (fuel : Nat) (G) : zho.lp (zeT fuel) 0 fuel G (endX zeU zbf) 0 znt = iter (zhp fuel) fuel := C.lp_iter fun g v => by kernel_rfl
def zjZ (fuel : Nat) (X0 : zcA → zbP) (x0 : LP) : zbP :=
 X0 ((0 : Int), x0, List.replicate (Int.toNat (128 : Int)) 0)
def zeW (fuel : Nat) (z : ((LP × Unit) × Unit)) : zbP := zjZ fuel (iter (zhp fuel) fuel) z.1.1
theorem zt6 (fuel : Nat) (xa : zbf.rt.T) (xd : zbf.D.T) : zbf.go (zeT fuel) fuel zho zeU xa xd = zeW fuel (zbf.xb (xa, xd)) :=
  (show zbf.go (zeT fuel) fuel zho zeU xa xd = zjZ fuel (zho.lp (zeT fuel) 0 fuel (fun _ _ _ => none) (endX zeU zbf) 0 znt) xd.1.1 by kernel_rfl).trans (by rw [zt5]; rfl)
abbrev zj0 (fuel : Nat) : LE := ⟨zbf, zeW fuel⟩
theorem zt7 (fuel : Nat) : EntryOK Try.prog 69 (zj0 fuel).te := okF (T := zeT fuel) (fn := Try.f69) (le := zj0 fuel) (frz := []) (ann := zns) (cuts := []) (rv := zeU) (TabOK.of (entNil) (methNil)) mixed (by kernel_rfl) (by kernel_rfl) (by kernel_rfl) (fun _ => rfl) (fun _ => rfl) (fun xa xd y h => ⟨fuel, (zt6 fuel xa xd).trans h⟩)
abbrev zbQ := Option ((LP × Unit) × Unit)
def zeX (fuel : Nat) : Tab := Tab.of [] []
def znu : List Norm := [{ live := [4, 0, 3], fix := [(3, none, KP, true)] }]
noncomputable def zhq : C := irOf Try.prog Try.f70 [] znu []
def zeY : List (Nat × Option (Nat × Bool)) := [(2, none)]
abbrev zt8 : Sx := .grp (.dat (Kd.list I6) .nil) .nil
abbrev zt9 : Sx := .grp (.own 0 KP .nil) .nil
abbrev zbg : LF := .pure zt8 zt9 true
abbrev zcB := (Int) × (List Int) × LP
def znv (v : zcB) : Env × Heap := ([(4, SV.int .i64 v.1), (0, SV.es I6 v.2.1), (3, SV.own 0)], [Blk.arr KP v.2.2 0])
def zeZ (fuel : Nat) (g0 : zcB → zbQ) (v : zcB) : zbQ :=
 cond (decide (v.1 < (zz (List.length v.2.1))))
 (tst (decide (0 ≤ v.1)) <|
 tst (decide (v.1 < (zz (List.length v.2.1)))) <|
 cond (decide (List.getD v.2.1 (Int.toNat v.1) 0 > (0 : Int)))
 (tst (decide (0 ≤ v.1)) <|
 tst (decide (v.1 < (zz (List.length v.2.1)))) <|
 tst (decide (List.length v.2.2 + 1 < LIM)) <|
 g0 (w64 (v.1 + (1 : Int)), v.2.1, v.2.2 ++ [(v.1, List.getD v.2.1 (Int.toNat v.1) 0, ())]))
 (g0 (w64 (v.1 + (1 : Int)), v.2.1, v.2.2)))
 (some (((v.2.2, ()), ())))
def zhr (fuel : Nat) (g0 : zcB → zbQ) : zcB → zbQ := zeZ fuel g0
theorem zua (fuel : Nat) (G) : zhq.lp (zeX fuel) 0 fuel G (endX zeY zbg) 0 znv = iter (zhr fuel) fuel := C.lp_iter fun g v => by kernel_rfl
def zj1 (fuel : Nat) (X0 : zcB → zbQ) (x0 : List Int) : zbQ :=
 X0 ((1 : Int), x0, [])
def ze0 (fuel : Nat) (z : (((List Int) × Unit) × Unit)) : zbQ := zj1 fuel (iter (zhr fuel) fuel) z.1.1
theorem zub (fuel : Nat) (xa : zbg.rt.T) (xd : zbg.D.T) : zbg.go (zeX fuel) fuel zhq zeY xa xd = ze0 fuel (zbg.xb (xa, xd)) :=
  (show zbg.go (zeX fuel) fuel zhq zeY xa xd = zj1 fuel (zhq.lp (zeX fuel) 0 fuel (fun _ _ _ => none) (endX zeY zbg) 0 znv) xd.1.1 by kernel_rfl).trans (by rw [zua]; rfl)
abbrev zj2 (fuel : Nat) : LE := ⟨zbg, ze0 fuel⟩
theorem zuc (fuel : Nat) : EntryOK Try.prog 70 (zj2 fuel).te := okF (T := zeX fuel) (fn := Try.f70) (le := zj2 fuel) (frz := []) (ann := znu) (cuts := []) (rv := zeY) (TabOK.of (entNil) (methNil)) mixed (by kernel_rfl) (by kernel_rfl) (by kernel_rfl) (fun _ => rfl) (fun _ => rfl) (fun xa xd y h => ⟨fuel, (zub fuel xa xd).trans h⟩)
def ze1 (fuel : Nat) : Tab := Tab.of [] []
def znw : List Norm := [⟨[5, 0, 1], [], [], []⟩]
noncomputable def zhs : C := irOf Try.prog Try.f71 [] znw []
def ze2 : List (Nat × Option (Nat × Bool)) := [(4, none)]
abbrev zud : Sx := .grp (.dat I6 .nil) .nil
abbrev zue : Sx := .nil
abbrev zbh : LF := .slc I6 zud zue true
abbrev zcC := (Int) × (Int) × (List Int)
def znx (v : zcC) : Env × Heap := ([(5, SV.int .i64 v.1), (0, SV.own 0), (1, SV.int .i64 v.2.1)], [Blk.arr I6 v.2.2 0])
def ze3 (fuel : Nat) (g0 : zcC → Option ((List Int) × Unit)) (v : zcC) : Option ((List Int) × Unit) :=
 cond (decide (v.1 ≥ (2 : Int)))
 (tst (decide (0 ≤ v.1)) <|
 tst (decide (v.1 < (zz (List.length v.2.2)))) <|
 tst (decide (Int.toNat v.1 < List.length v.2.2)) <|
 tst (decide (0 ≤ w64 (v.1 + (1 : Int)))) <|
 tst (decide (w64 (v.1 + (1 : Int)) < (zz (List.length v.2.2)))) <|
 tst (decide (Int.toNat (w64 (v.1 + (1 : Int))) < List.length v.2.2)) <|
 cond (decide (w64 (List.getD v.2.2 (Int.toNat v.1) 0 + List.getD v.2.2 (Int.toNat (w64 (v.1 + (1 : Int)))) 0) > (0 : Int)))
 (tst (decide (0 ≤ w64 (Int.tdiv v.1 (2 : Int)))) <|
 tst (decide (w64 (Int.tdiv v.1 (2 : Int)) < (zz (List.length v.2.2)))) <|
 tst (decide (Int.toNat (w64 (Int.tdiv v.1 (2 : Int))) < List.length v.2.2)) <|
 cond (decide (w64 (w64 (List.getD v.2.2 (Int.toNat v.1) 0 + List.getD v.2.2 (Int.toNat (w64 (v.1 + (1 : Int)))) 0) + List.getD v.2.2 (Int.toNat (w64 (Int.tdiv v.1 (2 : Int)))) 0) ≤ w64 (Int.tdiv v.2.1 (8 : Int))))
 (tst (decide (0 ≤ w64 (Int.tdiv v.1 (2 : Int)))) <|
 tst (decide (w64 (Int.tdiv v.1 (2 : Int)) < (zz (List.length v.2.2)))) <|
 tst (decide (Int.toNat (w64 (Int.tdiv v.1 (2 : Int))) < List.length v.2.2)) <|
 tst (decide (0 ≤ w64 (Int.tdiv v.1 (2 : Int)))) <|
 tst (decide (w64 (Int.tdiv v.1 (2 : Int)) < (zz (List.length v.2.2)))) <|
 tst (decide (Int.toNat (w64 (Int.tdiv v.1 (2 : Int))) < List.length v.2.2)) <|
 tst (decide (0 ≤ v.1)) <|
 tst (decide (v.1 < (zz (List.length (List.set v.2.2 (Int.toNat (w64 (Int.tdiv v.1 (2 : Int)))) (w64 (List.getD v.2.2 (Int.toNat (w64 (Int.tdiv v.1 (2 : Int)))) 0 + w64 (List.getD v.2.2 (Int.toNat v.1) 0 + List.getD v.2.2 (Int.toNat (w64 (v.1 + (1 : Int)))) 0)))))))) <|
 tst (decide (Int.toNat v.1 < List.length (List.set v.2.2 (Int.toNat (w64 (Int.tdiv v.1 (2 : Int)))) (w64 (List.getD v.2.2 (Int.toNat (w64 (Int.tdiv v.1 (2 : Int)))) 0 + w64 (List.getD v.2.2 (Int.toNat v.1) 0 + List.getD v.2.2 (Int.toNat (w64 (v.1 + (1 : Int)))) 0)))))) <|
 tst (decide (0 ≤ w64 (v.1 + (1 : Int)))) <|
 tst (decide (w64 (v.1 + (1 : Int)) < (zz (List.length (List.set (List.set v.2.2 (Int.toNat (w64 (Int.tdiv v.1 (2 : Int)))) (w64 (List.getD v.2.2 (Int.toNat (w64 (Int.tdiv v.1 (2 : Int)))) 0 + w64 (List.getD v.2.2 (Int.toNat v.1) 0 + List.getD v.2.2 (Int.toNat (w64 (v.1 + (1 : Int)))) 0)))) (Int.toNat v.1) (0 : Int)))))) <|
 tst (decide (Int.toNat (w64 (v.1 + (1 : Int))) < List.length (List.set (List.set v.2.2 (Int.toNat (w64 (Int.tdiv v.1 (2 : Int)))) (w64 (List.getD v.2.2 (Int.toNat (w64 (Int.tdiv v.1 (2 : Int)))) 0 + w64 (List.getD v.2.2 (Int.toNat v.1) 0 + List.getD v.2.2 (Int.toNat (w64 (v.1 + (1 : Int)))) 0)))) (Int.toNat v.1) (0 : Int)))) <|
 g0 (w64 (v.1 - (2 : Int)), v.2.1, List.set (List.set (List.set v.2.2 (Int.toNat (w64 (Int.tdiv v.1 (2 : Int)))) (w64 (List.getD v.2.2 (Int.toNat (w64 (Int.tdiv v.1 (2 : Int)))) 0 + w64 (List.getD v.2.2 (Int.toNat v.1) 0 + List.getD v.2.2 (Int.toNat (w64 (v.1 + (1 : Int)))) 0)))) (Int.toNat v.1) (0 : Int)) (Int.toNat (w64 (v.1 + (1 : Int)))) (0 : Int)))
 (g0 (w64 (v.1 - (2 : Int)), v.2.1, v.2.2)))
 (g0 (w64 (v.1 - (2 : Int)), v.2.1, v.2.2)))
 (some ((v.2.2, ())))
def zht (fuel : Nat) (g0 : zcC → Option ((List Int) × Unit)) : zcC → Option ((List Int) × Unit) := ze3 fuel g0
theorem zuf (fuel : Nat) (G) : zhs.lp (ze1 fuel) 1 fuel G (endX ze2 zbh) 0 znx = iter (zht fuel) fuel := C.lp_iter fun g v => by kernel_rfl
def zj3 (fuel : Nat) (X0 : zcC → Option ((List Int) × Unit)) (d0 : List Int) (x0 : Int) : Option ((List Int) × Unit) :=
 X0 (w64 ((zz (List.length d0)) - (2 : Int)), x0, d0)
def ze4 (fuel : Nat) (z : ((List Int) × (Unit × ((Int × Unit) × Unit)))) : Option ((List Int) × Unit) := zj3 fuel (iter (zht fuel) fuel) z.1 z.2.2.1.1
theorem zug (fuel : Nat) (xa : zbh.rt.T) (xd : zbh.D.T) : zbh.go (ze1 fuel) fuel zhs ze2 xa xd = ze4 fuel (zbh.xb (xa, xd)) :=
  (show zbh.go (ze1 fuel) fuel zhs ze2 xa xd = zj3 fuel (zhs.lp (ze1 fuel) 1 fuel (fun _ _ _ => none) (endX ze2 zbh) 0 znx) xa xd.1.1 by kernel_rfl).trans (by rw [zuf]; rfl)
abbrev zj4 (fuel : Nat) : LE := ⟨zbh, ze4 fuel⟩
theorem zuh (fuel : Nat) : EntryOK Try.prog 71 (zj4 fuel).te := okF (T := ze1 fuel) (fn := Try.f71) (le := zj4 fuel) (frz := []) (ann := znw) (cuts := []) (rv := ze2) (TabOK.of (entNil) (methNil)) mixed (by kernel_rfl) (by kernel_rfl) (by kernel_rfl) (fun _ => rfl) (fun _ => rfl) (fun xa xd y h => ⟨fuel, (zug fuel xa xd).trans h⟩)
def zny (fuel : Nat) : Tab := Tab.of [(15, (zm fuel).te), (61, (zg7 fuel).te), (69, (zj0 fuel).te), (70, (zj2 fuel).te), (71, (zj4 fuel).te)] []
def znz : List Norm := []
noncomputable def zui : C := irOf Try.prog Try.f55 [41] znz []
def znA : List (Nat × Option (Nat × Bool)) := [(4, some (2, true)), (5, none)]
abbrev zuj : Sx := .agg (.dat (Kd.list KP) (.dat I6 .nil)) (.grp (.dat I6 .nil) .nil)
abbrev zuk : Sx := .agg (.own 0 KP (.dat I6 .nil)) (.grp (.dat Kd.bool .nil) .nil)
abbrev ze5 : LF := .pure zuj zuk true
def znB (fuel : Nat) (x0 : LP) (x1 : Int) (x2 : Int) : Option ((LP × (Int × Unit)) × ((Bool × Unit) × Unit)) :=
 Option.bind (zcq fuel ((x0, x1, ()), ())) fun y_1 =>
 cond (!y_1.1.1)
 (some ((([], (0 : Int), ()), (false, ()), ())))
 (Option.bind (zc fuel ((x2, ()), ((0 : Int), ()), ((63 : Int), ()), ())) fun y_3 =>
 cond (!y_3.1.1)
 (some ((([], (0 : Int), ()), (false, ()), ())))
 (cond (decide (x1 ≥ (2000 : Int)))
 (some ((([], (0 : Int), ()), (false, ()), ())))
 (Option.bind (zeW fuel ((x0, ()), ())) fun y_6 =>
 tst (decide (0 ≤ w64 ((64 : Int) + x2))) <|
 tst (decide (w64 ((64 : Int) + x2) < (zz (List.length y_6.1.1)))) <|
 tst (decide (Int.toNat (w64 ((64 : Int) + x2)) < List.length y_6.1.1)) <|
 tst (decide (0 ≤ w64 ((64 : Int) + x2))) <|
 tst (decide (w64 ((64 : Int) + x2) < (zz (List.length y_6.1.1)))) <|
 tst (decide (Int.toNat (w64 ((64 : Int) + x2)) < List.length y_6.1.1)) <|
 Option.bind (ze4 fuel (List.set y_6.1.1 (Int.toNat (w64 ((64 : Int) + x2))) (w64 (List.getD y_6.1.1 (Int.toNat (w64 ((64 : Int) + x2))) 0 + (1 : Int))), (), (w64 (x1 + (1 : Int)), ()), ())) fun y_7 =>
 Option.bind (ze0 fuel ((y_7.1, ()), ())) fun y_8 =>
 some (((y_8.1.1, w64 (x1 + (1 : Int)), ()), (true, ()), ())))))
def zcD (fuel : Nat) (z : ((LP × (Int × Unit)) × ((Int × Unit) × Unit))) : Option ((LP × (Int × Unit)) × ((Bool × Unit) × Unit)) := znB fuel z.1.1 z.1.2.1 z.2.1.1
theorem zul (fuel : Nat) (xa : ze5.rt.T) (xd : ze5.D.T) : ze5.go (zny fuel) fuel zui znA xa xd = zcD fuel (ze5.xb (xa, xd)) := by kernel_rfl
abbrev zj5 (fuel : Nat) : LE := ⟨ze5, zcD fuel⟩
theorem zum (fuel : Nat) : EntryOK Try.prog 55 (zj5 fuel).te := okF (T := zny fuel) (fn := Try.f55) (le := zj5 fuel) (frz := [41]) (ann := znz) (cuts := []) (rv := znA) (TabOK.of (entCons (zq fuel) (entCons (zmB fuel) (entCons (zt7 fuel) (entCons (zuc fuel) (entCons (zuh fuel) entNil))))) (methNil)) mixed (by kernel_rfl) (by kernel_rfl) (by kernel_rfl) (fun _ => rfl) (fun _ => rfl) (fun xa xd y h => ⟨fuel, (zul fuel xa xd).trans h⟩)
def znC (fuel : Nat) : Tab := Tab.of [(15, (zm fuel).te), (51, (zjB fuel).te), (52, (zjL fuel).te), (53, (zjQ fuel).te), (54, (zjY fuel).te), (55, (zj5 fuel).te)] []
def znD : List Norm := []
noncomputable def zun : C := irOf Try.prog Try.f43 [] znD []
def znE : List (Nat × Option (Nat × Bool)) := [(4, some (7, true)), (5, none)]
abbrev zuo : Sx := .agg (.dat (Kd.list (Kd.list I6)) (.dat (Kd.list I6) (.dat (Kd.list KP) (.dat I6 (.dat I6 (.dat (Kd.list KP) (.dat I6 .nil))))))) (.grp (.dat I6 .nil) .nil)
abbrev zup : Sx := .agg (.dat (Kd.list (Kd.list I6)) (.dat (Kd.list I6) (.dat (Kd.list KP) (.dat I6 (.dat I6 (.dat (Kd.list KP) (.dat I6 .nil))))))) (.grp (.dat Kd.bool .nil) .nil)
abbrev ze6 : LF := .pure zuo zup false
def zj6 (fuel : Nat) (x0 : List (List Int)) (x1 : List Int) (x2 : LP) (x3 : Int) (x4 : Int) (x5 : LP) (x6 : Int) (x7 : Int) : Option (SumY × ((Bool × Unit) × Unit)) :=
 Option.bind (zeu fuel ((x0, x1, x2, x3, x4, x5, x6, ()), ())) fun y_1 =>
 cond (!y_1.1.1)
 (some ((([], [], [], (0 : Int), (0 : Int), [], (0 : Int), ()), (false, ()), ())))
 (Option.bind (zc fuel ((x7, ()), ((0 : Int), ()), ((63 : Int), ()), ())) fun y_3 =>
 cond (!y_3.1.1)
 (some ((([], [], [], (0 : Int), (0 : Int), [], (0 : Int), ()), (false, ()), ())))
 (cond (decide (x4 ≥ (2000 : Int)))
 (some ((([], [], [], (0 : Int), (0 : Int), [], (0 : Int), ()), (false, ()), ())))
 (Option.bind (zhb fuel ((x0, ()), (x7, ()), ((1 : Int), ()), ())) fun y_6 =>
 Option.bind (zhf fuel ((x1, ()), (x7, ()), ())) fun y_7 =>
 Option.bind (zhn fuel ((x2, x3, x4, ()), (x7, ()), ())) fun y_8 =>
 Option.bind (zcD fuel ((x5, x6, ()), (x7, ()), ())) fun y_9 =>
 some (((y_6.1.1, y_7.1.1, y_8.1.1, y_8.1.2.1, y_8.1.2.2.1, y_9.1.1, y_9.1.2.1, ()), (true, ()), ())))))
def zaL (fuel : Nat) (z : (SumY × ((Int × Unit) × Unit))) : Option (SumY × ((Bool × Unit) × Unit)) := zj6 fuel z.1.1 z.1.2.1 z.1.2.2.1 z.1.2.2.2.1 z.1.2.2.2.2.1 z.1.2.2.2.2.2.1 z.1.2.2.2.2.2.2.1 z.2.1.1
theorem zuq (fuel : Nat) (xa : ze6.rt.T) (xd : ze6.D.T) : ze6.go (znC fuel) fuel zun znE xa xd = zaL fuel (ze6.xb (xa, xd)) := by kernel_rfl
abbrev zhu (fuel : Nat) : LE := ⟨ze6, zaL fuel⟩
theorem znF (fuel : Nat) : EntryOK Try.prog 43 (zhu fuel).te := okF (T := znC fuel) (fn := Try.f43) (le := zhu fuel) (frz := []) (ann := znD) (cuts := []) (rv := znE) (TabOK.of (entCons (zq fuel) (entCons (zsO fuel) (entCons (ztn fuel) (entCons (ztC fuel) (entCons (zt2 fuel) (entCons (zum fuel) entNil)))))) (methNil)) mixed (by kernel_rfl) (by kernel_rfl) (by kernel_rfl) (fun _ => rfl) (fun _ => rfl) (fun xa xd y h => ⟨fuel, (zuq fuel xa xd).trans h⟩)
abbrev zbR := Option (SumY × ((Bool × Unit) × Unit))
def ze7 (fuel : Nat) : Tab := Tab.of [(38, (zha fuel).te), (43, (zhu fuel).te)] []
def znG : List Norm := [⟨[5, 0, 4, 2], [], [], []⟩]
noncomputable def zhv : C := irOf Try.prog Try.f36 [] znG []
def ze8 : List (Nat × Option (Nat × Bool)) := [(2, some (7, true)), (3, none)]
abbrev zur : Sx := .grp (.dat (Kd.list I6) .nil) .nil
abbrev zus : Sx := .agg (.dat (Kd.list (Kd.list I6)) (.dat (Kd.list I6) (.dat (Kd.list KP) (.dat I6 (.dat I6 (.dat (Kd.list KP) (.dat I6 .nil))))))) (.grp (.dat Kd.bool .nil) .nil)
abbrev zbi : LF := .pure zur zus false
abbrev zcE := (Int) × (List Int) × (List (List Int)) × (List Int) × LP × (Int) × (Int) × LP × (Int) × (Int) × (Int) × (Int)
def znH (v : zcE) : Env × Heap := ([(5, SV.int .i64 v.1), (0, SV.es I6 v.2.1), (4, SV.ptr 0 0), (2, SV.ptr 1 0)], [Blk.cells [SV.es (Kd.list I6) v.2.2.1, SV.es I6 v.2.2.2.1, SV.es KP v.2.2.2.2.1, SV.int .i64 v.2.2.2.2.2.1, SV.int .i64 v.2.2.2.2.2.2.1, SV.es KP v.2.2.2.2.2.2.2.1, SV.int .i64 v.2.2.2.2.2.2.2.2.1] 0 7, Blk.cells [SV.nils, SV.nils, SV.nils, SV.int .i64 v.2.2.2.2.2.2.2.2.2.1, SV.int .i64 v.2.2.2.2.2.2.2.2.2.2.1, SV.nils, SV.int .i64 v.2.2.2.2.2.2.2.2.2.2.2] 0 7])
def ze9 (fuel : Nat) (g0 : zcE → zbR) (v : zcE) : zbR :=
 cond (decide (v.1 < (zz (List.length v.2.1))))
 (tst (decide (0 ≤ v.1)) <|
 tst (decide (v.1 < (zz (List.length v.2.1)))) <|
 Option.bind (zaL fuel ((v.2.2.1, v.2.2.2.1, v.2.2.2.2.1, v.2.2.2.2.2.1, v.2.2.2.2.2.2.1, v.2.2.2.2.2.2.2.1, v.2.2.2.2.2.2.2.2.1, ()), (List.getD v.2.1 (Int.toNat v.1) 0, ()), ())) fun y_2 =>
 cond (!y_2.2.1.1)
 (some ((([], [], [], (0 : Int), (0 : Int), [], (0 : Int), ()), (false, ()), ())))
 (g0 (w64 (v.1 + (1 : Int)), v.2.1, y_2.1.1, y_2.1.2.1, y_2.1.2.2.1, y_2.1.2.2.2.1, y_2.1.2.2.2.2.1, y_2.1.2.2.2.2.2.1, y_2.1.2.2.2.2.2.2.1, v.2.2.2.2.2.2.2.2.2.1, v.2.2.2.2.2.2.2.2.2.2.1, v.2.2.2.2.2.2.2.2.2.2.2)))
 (some (((v.2.2.1, v.2.2.2.1, v.2.2.2.2.1, v.2.2.2.2.2.1, v.2.2.2.2.2.2.1, v.2.2.2.2.2.2.2.1, v.2.2.2.2.2.2.2.2.1, ()), (true, ()), ())))
def zhw (fuel : Nat) (g0 : zcE → zbR) : zcE → zbR := ze9 fuel g0
theorem zut (fuel : Nat) (G) : zhv.lp (ze7 fuel) 0 fuel G (endX ze8 zbi) 0 znH = iter (zhw fuel) fuel := C.lp_iter fun g v => by kernel_rfl
def zhx (fuel : Nat) (X0 : zcE → zbR) (x0 : List Int) : zbR :=
 Option.bind (zcr fuel ()) fun y_1 =>
 X0 ((0 : Int), x0, y_1.1.1, y_1.1.2.1, y_1.1.2.2.1, y_1.1.2.2.2.1, y_1.1.2.2.2.2.1, y_1.1.2.2.2.2.2.1, y_1.1.2.2.2.2.2.2.1, (0 : Int), (0 : Int), (0 : Int))
def zhy (fuel : Nat) (z : (((List Int) × Unit) × Unit)) : zbR := zhx fuel (iter (zhw fuel) fuel) z.1.1
theorem zuu (fuel : Nat) (xa : zbi.rt.T) (xd : zbi.D.T) : zbi.go (ze7 fuel) fuel zhv ze8 xa xd = zhy fuel (zbi.xb (xa, xd)) :=
  (show zbi.go (ze7 fuel) fuel zhv ze8 xa xd = zhx fuel (zhv.lp (ze7 fuel) 0 fuel (fun _ _ _ => none) (endX ze8 zbi) 0 znH) xd.1.1 by kernel_rfl).trans (by rw [zut]; rfl)
abbrev zj7 (fuel : Nat) : LE := ⟨zbi, zhy fuel⟩
theorem zuv (fuel : Nat) : EntryOK Try.prog 36 (zj7 fuel).te := okF (T := ze7 fuel) (fn := Try.f36) (le := zj7 fuel) (frz := []) (ann := znG) (cuts := []) (rv := ze8) (TabOK.of (entCons (zmV fuel) (entCons (znF fuel) entNil)) (methNil)) mixed (by kernel_rfl) (by kernel_rfl) (by kernel_rfl) (fun _ => rfl) (fun _ => rfl) (fun xa xd y h => ⟨fuel, (zuu fuel xa xd).trans h⟩)
def znI (fuel : Nat) : Tab := Tab.of [(56, (zeA fuel).te)] []
def znJ : List Norm := []
noncomputable def zuw : C := irOf Try.prog Try.f46 [] znJ []
def znK : List (Nat × Option (Nat × Bool)) := [(2, some (7, true))]
abbrev zux : Sx := .agg (.dat (Kd.list (Kd.list I6)) (.dat (Kd.list I6) (.dat (Kd.list KP) (.dat I6 (.dat I6 (.dat (Kd.list KP) (.dat I6 .nil))))))) .nil
abbrev zuy : Sx := .agg (.dat (Kd.list (Kd.list I6)) (.dat (Kd.list I6) (.dat (Kd.list KP) (.dat I6 (.dat I6 (.dat (Kd.list KP) (.dat I6 .nil))))))) .nil
abbrev zfa : LF := .pure zux zuy false
def zj8 (fuel : Nat) (x0 : List (List Int)) (x1 : List Int) (x2 : LP) (x3 : Int) (x4 : Int) (x5 : LP) (x6 : Int) : Option (SumY × Unit) :=
 Option.bind (zcs fuel ((x0, ()), ())) fun y_1 =>
 tst (decide (0 + List.length x1 < LIM)) <|
 tst (decide (0 + List.length x2 < LIM)) <|
 tst (decide (0 + List.length x5 < LIM)) <|
 some ((([List.getD y_1.1.1 0 [], List.getD y_1.1.1 1 [], List.getD y_1.1.1 2 []], [] ++ x1, [] ++ x2, x3, x4, [] ++ x5, x6, ()), ()))
def zfb (fuel : Nat) (z : (SumY × Unit)) : Option (SumY × Unit) := zj8 fuel z.1.1 z.1.2.1 z.1.2.2.1 z.1.2.2.2.1 z.1.2.2.2.2.1 z.1.2.2.2.2.2.1 z.1.2.2.2.2.2.2.1
theorem zuz (fuel : Nat) (xa : zfa.rt.T) (xd : zfa.D.T) : zfa.go (znI fuel) fuel zuw znK xa xd = zfb fuel (zfa.xb (xa, xd)) := by kernel_rfl
abbrev zhz (fuel : Nat) : LE := ⟨zfa, zfb fuel⟩
theorem znL (fuel : Nat) : EntryOK Try.prog 46 (zhz fuel).te := okF (T := znI fuel) (fn := Try.f46) (le := zhz fuel) (frz := []) (ann := znJ) (cuts := []) (rv := znK) (TabOK.of (entCons (zjH fuel) entNil) (methNil)) mixed (by kernel_rfl) (by kernel_rfl) (by kernel_rfl) (fun _ => rfl) (fun _ => rfl) (fun xa xd y h => ⟨fuel, (zuz fuel xa xd).trans h⟩)
def znM (fuel : Nat) : Tab := Tab.of [(56, (zeA fuel).te)] []
def znN : List Norm := []
noncomputable def zuA : C := irOf Try.prog Try.f46 [] znN []
def znO : List (Nat × Option (Nat × Bool)) := [(2, some (7, true))]
abbrev zuB : Sx := .agg (.dat (Kd.list (Kd.list I6)) (.dat (Kd.list I6) (.dat (Kd.list KP) (.dat I6 (.dat I6 (.dat (Kd.list KP) (.dat I6 .nil))))))) .nil
abbrev zuC : Sx := .agg (.own 1 (Kd.list I6) (.own 0 I6 (.own 0 KP (.dat I6 (.dat I6 (.own 0 KP (.dat I6 .nil))))))) .nil
abbrev zfc : LF := .pure zuB zuC true
def zuD (fuel : Nat) (x0 : List (List Int)) (x1 : List Int) (x2 : LP) (x3 : Int) (x4 : Int) (x5 : LP) (x6 : Int) : Option (SumY × Unit) :=
 Option.bind (zcs fuel ((x0, ()), ())) fun y_1 =>
 tst (decide (0 + List.length x1 < LIM)) <|
 tst (decide (0 + List.length x2 < LIM)) <|
 tst (decide (0 + List.length x5 < LIM)) <|
 some ((([List.getD y_1.1.1 0 [], List.getD y_1.1.1 1 [], List.getD y_1.1.1 2 []], [] ++ x1, [] ++ x2, x3, x4, [] ++ x5, x6, ()), ()))
def zhA (fuel : Nat) (z : (SumY × Unit)) : Option (SumY × Unit) := zuD fuel z.1.1 z.1.2.1 z.1.2.2.1 z.1.2.2.2.1 z.1.2.2.2.2.1 z.1.2.2.2.2.2.1 z.1.2.2.2.2.2.2.1
theorem zuE (fuel : Nat) (xa : zfc.rt.T) (xd : zfc.D.T) : zfc.go (znM fuel) fuel zuA znO xa xd = zhA fuel (zfc.xb (xa, xd)) := by kernel_rfl
abbrev zj9 (fuel : Nat) : LE := ⟨zfc, zhA fuel⟩
theorem zuF (fuel : Nat) : EntryOK Try.prog 46 (zj9 fuel).te := okF (T := znM fuel) (fn := Try.f46) (le := zj9 fuel) (frz := []) (ann := znN) (cuts := []) (rv := znO) (TabOK.of (entCons (zjH fuel) entNil) (methNil)) mixed (by kernel_rfl) (by kernel_rfl) (by kernel_rfl) (fun _ => rfl) (fun _ => rfl) (fun xa xd y h => ⟨fuel, (zuE fuel xa xd).trans h⟩)
end Go.Proofs.Ytljojacnjjgceaa.Den
namespace Go.Proofs.Ytljojacnjjgceaa.Den
open Go
theorem w64_id {x : Int} (h1 : -9223372036854775808 ≤ x) (h2 : x ≤ 9223372036854775807) : w64 x = x := by
  unfold w64 IntKind.wrap
  simp only [show IntKind.i64.bits = 64 from rfl, show IntKind.i64.signed = true from rfl, Bool.true_and, decide_eq_true_eq]
  rw [show (2 : Int) ^ 64 = 18446744073709551616 from by decide, show (2 : Int) ^ (64 - 1) = 9223372036854775808 from by decide]
  split <;> omega
def Ret {R : Type} (o : Option R) (Q : R → Prop) : Prop := ∃ r, o = some r ∧ Q r
section
variable {R S V : Type} {Q : R → Prop} {x y : Option R}
theorem Ret.ret {r : R} (h : Q r) : Ret (some r) Q := ⟨r, rfl, h⟩
theorem Ret.mono {Q' : R → Prop} (h : Ret x Q) (h2 : ∀ r, Q r → Q' r) : Ret x Q' := by
  obtain ⟨r, h1, h3⟩ := h; exact ⟨r, h1, h2 r h3⟩
theorem Ret.bind {o : Option S} {k : S → Option R} {P : S → Prop} (h : Ret o P) (hk : ∀ s, P s → Ret (k s) Q) : Ret (o.bind k) Q := by
  obtain ⟨s, h1, h2⟩ := h
  subst h1; exact hk s h2
theorem Ret.cond {b : Bool} (ht : b = true → Ret x Q) (hf : b = false → Ret y Q) : Ret (cond b x y) Q := by
  cases b
  · exact hf rfl
  · exact ht rfl
theorem Ret.tst {b : Bool} (hb : b = true) (h : Ret x Q) : Ret (tst b x) Q := by
  subst hb; exact h
theorem Ret.eq {r : R} (h : Ret x fun s => s = r) : x = some r := by
  obtain ⟨s, h1, h2⟩ := h; rw [h1, h2]
theorem Ret.of {r : R} (h : x = some r) : Ret x fun s => s = r := ⟨r, h, rfl⟩
theorem Ret.loop {step : (V → Option R) → V → Option R} (I : Nat → V → Prop) (h : ∀ (n : Nat) (v : V) (g : V → Option R), I n v → (∀ m v', m < n → I m v' → Ret (g v') Q) → Ret (step g v) Q) :
    ∀ (fuel n : Nat) (v : V), I n v → n < fuel → Ret (iter step fuel v) Q
  | 0, n, v, _, h2 => by omega
  | fuel + 1, n, v, h1, h2 => h n v _ h1 fun m v' h3 h4 => Ret.loop I h fuel m v' h4 (by omega)
end
end Go.Proofs.Ytljojacnjjgceaa.Den
namespace Go.Proofs.Ytljojacnjjgceaa.Den
open Go
section
variable {R V α β : Type} {σ : Type}
def upGo (body : Nat → (σ → Option R) → σ → Option R) (fin : σ → Option R) : Nat → Nat → σ → Option R
  | 0, _, s => fin s
  | d + 1, i, s => body i (upGo body fin d (i + 1)) s
def goL (b : α → (σ → Option R) → σ → Option R) (fin : σ → Option R) : List α → σ → Option R
  | [], s => fin s
  | x :: r, s => b x (goL b fin r) s
theorem iter_up {st : (V → Option R) → V → Option R} {enc : Nat → σ → V} {body : Nat → (σ → Option R) → σ → Option R} {fin : σ → Option R} (n : Nat)
    (hs : ∀ i s g, i < n → st g (enc i s) = body i (fun s' => g (enc (i + 1) s')) s) (he : ∀ s g, st g (enc n s) = fin s) :
    ∀ (d i : Nat) (s : σ) (fuel : Nat), i + d = n → d < fuel → iter st fuel (enc i s) = upGo body fin d i s
  | 0, i, s, fuel + 1, hi, hf => by
    obtain rfl : i = n := by omega
    rw [iter, he]; rfl
  | d + 1, i, s, fuel + 1, hi, hf => by
    rw [iter, hs i s _ (by omega)]
    show body i _ s = body i _ s
    congr 1
    funext s'
    exact iter_up n hs he d (i + 1) s' fuel (by omega) (by omega)
theorem zbJ {l : List α} {i : Nat} (d : α) (h : i < l.length) : l.drop i = l.getD i d :: l.drop (i + 1) := by
  rw [List.drop_eq_getElem_cons h, List.getD_eq_getElem?_getD, List.getElem?_eq_getElem h]; rfl
theorem zaH {st : (V → Option R) → V → Option R} {enc : Nat → σ → V} (b : α → (σ → Option R) → σ → Option R) (fin : σ → Option R) (l : List α) (d0 : α)
    (hs : ∀ i s g, i < l.length → st g (enc i s) = b (l.getD i d0) (fun s' => g (enc (i + 1) s')) s) (he : ∀ s g, st g (enc l.length s) = fin s)
    (fuel : Nat) (s : σ) (hf : l.length < fuel) : iter st fuel (enc 0 s) = goL b fin l s := by
  rw [iter_up (body := fun i => b (l.getD i d0)) (fin := fin) l.length hs he l.length 0 s fuel (by omega) hf]
  have : ∀ (d i : Nat) (s : σ), i + d = l.length → upGo (fun i => b (l.getD i d0)) fin d i s = goL b fin (l.drop i) s := by
    intro d
    induction d with
    | zero => intro i s h; rw [List.drop_eq_nil_of_le (by omega)]; rfl
    | succ d ih =>
      intro i s h
      rw [zbJ d0 (show i < l.length by omega)]
      show b _ _ s = b _ _ s
      congr 1
      funext s'
      exact ih (i + 1) s' (by omega)
  exact this l.length 0 s (by omega)
theorem zlJ {st : (V → Option R) → V → Option R} {enc : Nat → σ → V} (b : α → β → (σ → Option R) → σ → Option R) (fin : σ → Option R) (l : List α) (d0 : α) (p0 : β) (key : α → β)
    (hs : ∀ i s g, i < l.length → st g (enc i s) = b (l.getD i d0) (if i = 0 then p0 else key (l.getD (i - 1) d0)) (fun s' => g (enc (i + 1) s')) s) (he : ∀ s g, st g (enc l.length s) = fin s)
    (fuel : Nat) (s : σ) (hf : l.length < fuel) : iter st fuel (enc 0 s) = goL (fun x k (ps : β × σ) => b x ps.1 (fun s' => k (key x, s')) ps.2) (fun ps => fin ps.2) l (p0, s) := by
  rw [iter_up (body := fun i => b (l.getD i d0) (if i = 0 then p0 else key (l.getD (i - 1) d0))) (fin := fin) l.length hs he l.length 0 s fuel (by omega) hf]
  have : ∀ (d i : Nat) (s : σ), i + d = l.length → upGo (fun i => b (l.getD i d0) (if i = 0 then p0 else key (l.getD (i - 1) d0))) fin d i s
      = goL (fun x k (ps : β × σ) => b x ps.1 (fun s' => k (key x, s')) ps.2) (fun ps => fin ps.2) (l.drop i) (if i = 0 then p0 else key (l.getD (i - 1) d0), s) := by
    intro d
    induction d with
    | zero => intro i s h; rw [List.drop_eq_nil_of_le (by omega)]; rfl
    | succ d ih =>
      intro i s h
      rw [zbJ d0 (show i < l.length by omega)]
      show b _ _ _ s = b _ _ _ s
      congr 1
      funext s'
      have := ih (i + 1) s' (by omega)
      simpa using this
  exact this l.length 0 s (by omega)
theorem all_go {b : α → (σ → Option R) → σ → Option R} {fin : σ → Option R} (p : α → Bool) (r : R) (h : ∀ x k s, b x k s = cond (p x) (k s) (some r)) :
    ∀ (l : List α) (s : σ), goL b fin l s = cond (l.all p) (fin s) (some r)
  | [], s => rfl
  | x :: l, s => by
    show b x _ s = _
    rw [h, all_go p r h l s, List.all_cons]
    cases p x <;> rfl
theorem fold_go {b : α → (σ → Option R) → σ → Option R} {fin : σ → Option R} (u : σ → α → σ) (h : ∀ x k s, b x k s = k (u s x)) :
    ∀ (l : List α) (s : σ), goL b fin l s = fin (l.foldl u s)
  | [], s => rfl
  | x :: l, s => by
    show b x _ s = _
    rw [h, fold_go u h l]; rfl
end
theorem w64_up {i : Nat} (h : i < 4294967296) : w64 ((i : Int) + 1) = ((i + 1 : Nat) : Int) := by rw [w64_id] <;> omega
theorem w64_dn {i : Nat} (h0 : i ≠ 0) (h : i < 4294967296) : w64 ((i : Int) - 1) = ((i - 1 : Nat) : Int) := by rw [w64_id] <;> omega
theorem lt_cast {i n : Nat} (h : i < n) : (i : Int) < (n : Int) := by omega
theorem zh {n : Nat} : ¬ ((n : Int) < (n : Int)) := by omega
theorem le_cast {i : Nat} : (0 : Int) ≤ (i : Int) := by omega
theorem zlK {i : Nat} (h : i = 0) : ¬ ((i : Int) > 0) := by omega
theorem zlL {i : Nat} (h : i ≠ 0) : (i : Int) > 0 := by omega
end Go.Proofs.Ytljojacnjjgceaa.Den
