/- Part 13 of the texts behind the row. -/
import Derived.Test.YtdgdoeknpakmlaaGreatB9b2a58c0f0
set_option linter.unusedVariables false
set_option linter.unusedSimpArgs false
namespace Go.Proofs.YtdgdoeknpakmlaaGreat.Den
open Go Go.RowKit
def zzJ (fuel : Nat) : Tab := Tab.of [(34, (zjr fuel).te), (80, (zoD fuel).te)] []
abbrev zpu : Sh := (.agg (.cell (Kd.list (Kd.list I6)) 0 (.cell (Kd.list I6) 0 (.cell (Kd.list KP) 0 (.cell I6 0 (.cell I6 0 (.cell (Kd.list KP) 0 (.cell I6 0 .nil))))))) (.cell I6 0 .nil))
abbrev zzK : Sh := (.agg (.cell (Kd.list (Kd.list I6)) 5 (.cell (Kd.list I6) 1 (.cell (Kd.list KP) 1 (.cell I6 0 (.cell I6 0 (.cell (Kd.list KP) 1 (.cell I6 0 .nil))))))) (.cell Kd.bool 0 .nil))
def zzL : List Norm := []
noncomputable def zzM : C := irOf Tryz.prog Tryz.f37 [] zzL []
theorem zMJ : lightC Tryz.prog [] Tryz.f37.ntmps zzL [] 0 (bodyOf Tryz.f37) = some (zzM, 0) := by kernel_rfl
def zzN : List (Nat × Option (Nat × Bool)) := [(4, some (7, true)), (5, none)]
def zpv (fuel : Nat) (x0 : List (List Int)) (x1 : List Int) (x2 : LP) (x3 : Int) (x4 : Int) (x5 : LP) (x6 : Int) (x7 : Int) : Option (SumY × (Bool × Unit)) :=
 Option.bind (zcl fuel ((x0, x1, x2, x3, x4, x5, x6, ()), ())) fun y_1 =>
 cond (!y_1.1.1)
 (none)
 (Option.bind (zjC fuel ((x0, x1, x2, x3, x4, x5, x6, ()), x7, ())) fun y_3 =>
 some ((([List.getD y_3.1.1 0 [], List.getD y_3.1.1 1 [], List.getD y_3.1.1 2 []], y_3.1.2.1, y_3.1.2.2.1, y_3.1.2.2.2.1, y_3.1.2.2.2.2.1, y_3.1.2.2.2.2.2.1, y_3.1.2.2.2.2.2.2.1, ()), y_3.2.1, ())))
def zgM (fuel : Nat) (x : (SumY × (Int × Unit))) : Option (SumY × (Bool × Unit)) := zpv fuel x.1.1 x.1.2.1 x.1.2.2.1 x.1.2.2.2.1 x.1.2.2.2.2.1 x.1.2.2.2.2.2.1 x.1.2.2.2.2.2.2.1 x.2.1
theorem zMK (fuel : Nat) (x : Sh.T zpu) : run (zzJ fuel) 0 fuel zzM (env0 (svS zpu x) 0) [] (endG zzN zzK) = zgM fuel x := by kernel_rfl
def zpw (fuel : Nat) : TG := ⟨zpu, zzK, true, zgM fuel⟩
theorem zML (fuel : Nat) : FnSpecG Tryz.prog 37 (zpw fuel) :=
  zd (T := zzJ fuel) (c := bodyOf Tryz.f37) (fn := Tryz.f37) (TabOK.of (entCons (zwX fuel) (entCons (zKy fuel) entNil)) (methNil)) mixed (by kernel_rfl) (by kernel_rfl) zMJ (by kernel_rfl) (Nat.le_of_ble_eq_true (by kernel_rfl)) (rv := zzN) (by kernel_rfl) (fun x y h => (zMK fuel x).trans h)
theorem zMM (fuel : Nat) : EntryOK Tryz.prog 37 (zpw fuel).te := EntryOK.tg rfl (zML fuel) (isFn (fn := Tryz.f37) (by kernel_rfl) (by kernel_rfl) (by kernel_rfl))
noncomputable def zzO (fuel : Nat) : IE := vwIE (zpt fuel).te (zyH fuel)
theorem zMN (fuel : Nat) : ISound Tryz.prog 168 (zzO fuel) := zPB (zMI fuel) (zLx fuel)
noncomputable def zzP (fuel : Nat) : Tab := Tab.ofI [] [] [(168, zzO fuel)]
def zzQ : List Norm := []
noncomputable def zzR : C := irOf Tryz.prog Tryz.f118 [8] zzQ []
theorem zMO : lightC Tryz.prog [8] Tryz.f118.ntmps zzQ [] 0 (bodyOf Tryz.f118) = some (zzR, 0) := by kernel_rfl
def zzS : List (Nat × Option (Nat × Bool)) := [(4, none)]
noncomputable def zzT (fuel : Nat) : IE := inlIE 2 (zzP fuel) fuel zzR zzS
theorem zMP (fuel : Nat) : ISound Tryz.prog 118 (zzT fuel) :=
  zx (T := zzP fuel) (c := bodyOf Tryz.f118) (fn := Tryz.f118) (TabOK.ofI (entNil) (methNil) (inlCons (zMN fuel) (inlNil))) mixed (by kernel_rfl) (by kernel_rfl) zMO (by kernel_rfl) (Nat.le_of_ble_eq_true (by kernel_rfl)) (rv := zzS) (by kernel_rfl) (isFn (fn := Tryz.f118) (by kernel_rfl) (by kernel_rfl) (by kernel_rfl))
noncomputable def zzU (fuel : Nat) : Tab := Tab.ofI [] [] [(118, zzT fuel), (119, zyM fuel), (120, zyX fuel), (121, zy8 fuel)]
def zzV : List Norm := []
noncomputable def zzW : C := irOf Tryz.prog Tryz.f72 [8, 12, 16, 20] zzV []
theorem zMQ : lightC Tryz.prog [8, 12, 16, 20] Tryz.f72.ntmps zzV [] 0 (bodyOf Tryz.f72) = some (zzW, 0) := by kernel_rfl
def zzX : List (Nat × Option (Nat × Bool)) := [(4, none)]
noncomputable def zpx (fuel : Nat) : IE := inlIE 2 (zzU fuel) fuel zzW zzX
theorem zzY (fuel : Nat) : ISound Tryz.prog 72 (zpx fuel) :=
  zx (T := zzU fuel) (c := bodyOf Tryz.f72) (fn := Tryz.f72) (TabOK.ofI (entNil) (methNil) (inlCons (zMP fuel) (inlCons (zLz fuel) (inlCons (zLM fuel) (inlCons (zLZ fuel) (inlNil)))))) mixed (by kernel_rfl) (by kernel_rfl) zMQ (by kernel_rfl) (Nat.le_of_ble_eq_true (by kernel_rfl)) (rv := zzX) (by kernel_rfl) (isFn (fn := Tryz.f72) (by kernel_rfl) (by kernel_rfl) (by kernel_rfl))
def zzZ (fuel : Nat) : Tab := Tab.of [] []
abbrev zpy : List Pm := [{ cs := [(Kd.list I6, false)], ag := false }, { cs := [(I6, false)], ag := false }]
abbrev zz0 : List Pm := [{ cs := [(I6, false)], ag := false }]
def zz1 : List Norm := []
noncomputable def zz2 : C := irOf Tryz.prog Tryz.f176 [] zz1 []
theorem zMR : lightC Tryz.prog [] Tryz.f176.ntmps zz1 [] 0 (bodyOf Tryz.f176) = some (zz2, 0) := by kernel_rfl
def zz3 : List (Nat × Option (Nat × Bool)) := [(4, none)]
def zpz (fuel : Nat) (x0 : List Int) (x1 : Int) : Option ((Int × Unit) × Unit) :=
 cond (decide (w64 (x1 - (zz (List.length x0))) < (0 : Int)))
 (some ((((-1 : Int), ()), ())))
 (some (((w64 (x1 - (zz (List.length x0))), ()), ())))
def zcI (fuel : Nat) (x : (((List Int) × Unit) × ((Int × Unit) × Unit))) : Option ((Int × Unit) × Unit) := zpz fuel x.1.1 x.2.1.1
theorem zMS (fuel : Nat) (x : PsT zpy) : run (zzZ fuel) 0 fuel zz2 (env0 (svPs zpy x) 0) [] (endF zz3 zz0) = zcI fuel x := by kernel_rfl
def zkD (fuel : Nat) : TF := ⟨zpy, zz0, true, zcI fuel⟩
theorem zMT (fuel : Nat) : FnSpec Tryz.prog 176 (zkD fuel) :=
  fn_spec (T := zzZ fuel) (c := bodyOf Tryz.f176) (fn := Tryz.f176) (TabOK.of (entNil) (methNil)) mixed (by kernel_rfl) (by kernel_rfl) zMR (by kernel_rfl) (Nat.le_of_ble_eq_true (by kernel_rfl)) (rv := zz3) (by kernel_rfl) (zMS fuel)
theorem zz4 (fuel : Nat) : EntryOK Tryz.prog 176 (zkD fuel).te := EntryOK.tf rfl (zMT fuel) (isFn (fn := Tryz.f176) (by kernel_rfl) (by kernel_rfl) (by kernel_rfl))
def zgN (fuel : Nat) : Tab := Tab.of [(176, (zkD fuel).te)] []
abbrev zkE : List Pm := [{ cs := [(Kd.list (Kd.list I6), false)], ag := false }, { cs := [(I6, false)], ag := false }]
abbrev zgO : List Pm := [{ cs := [(I6, false)], ag := false }]
def zz5 : List Norm := [{ live := [5, 0, 1], fix := [] }]
noncomputable def zgP : C := irOf Tryz.prog Tryz.f175 [] zz5 []
theorem zMU : lightC Tryz.prog [] Tryz.f175.ntmps zz5 [] 0 (bodyOf Tryz.f175) = some (zgP, 1) := by kernel_rfl
def zgQ : List (Nat × Option (Nat × Bool)) := [(4, none)]
abbrev zcJ := (Int) × (List (List Int)) × (Int)
def zz6 (v : zcJ) : Env × Heap := ([(5, SV.int .i64 v.1), (0, SV.es (Kd.list I6) v.2.1), (1, SV.int .i64 v.2.2)], [])
def zgR (fuel : Nat) (g0 : zcJ → Option ((Int × Unit) × Unit)) (v : zcJ) : Option ((Int × Unit) × Unit) :=
 cond (decide (v.1 < (zz (List.length v.2.1))))
 (tst (decide (0 ≤ v.1)) <|
 tst (decide (v.1 < (zz (List.length v.2.1)))) <|
 Option.bind (zcI fuel ((List.getD v.2.1 (Int.toNat v.1) [], ()), (v.2.2, ()), ())) fun y_2 =>
 cond (decide (y_2.1.1 < (0 : Int)))
 (some ((((-1 : Int), ()), ())))
 (g0 (w64 (v.1 + (1 : Int)), v.2.1, y_2.1.1)))
 (some (((v.2.2, ()), ())))
def zkF (fuel : Nat) (g0 : zcJ → Option ((Int × Unit) × Unit)) : zcJ → Option ((Int × Unit) × Unit) := zgR fuel g0
theorem zMV (fuel : Nat) (G) : zgP.lp (zgN fuel) 0 fuel G (endF zgQ zgO) 0 zz6 = iter (zkF fuel) fuel := C.lp_iter fun g v => by kernel_rfl
def zkG (fuel : Nat) (X0 : zcJ → Option ((Int × Unit) × Unit)) (x0 : List (List Int)) (x1 : Int) : Option ((Int × Unit) × Unit) :=
 cond (decide (w64 (x1 - (zz (List.length x0))) < (0 : Int)))
 (some ((((-1 : Int), ()), ())))
 (X0 ((0 : Int), x0, w64 (x1 - (zz (List.length x0)))))
def zkH (fuel : Nat) (x : (((List (List Int)) × Unit) × ((Int × Unit) × Unit))) : Option ((Int × Unit) × Unit) := zkG fuel (iter (zkF fuel) fuel) x.1.1 x.2.1.1
theorem zMW (fuel : Nat) (x : PsT zkE) : run (zgN fuel) 0 fuel zgP (env0 (svPs zkE x) 0) [] (endF zgQ zgO) = zkH fuel x :=
  (show run (zgN fuel) 0 fuel zgP (env0 (svPs zkE x) 0) [] (endF zgQ zgO) = zkG fuel (zgP.lp (zgN fuel) 0 fuel (fun _ _ _ => none) (endF zgQ zgO) 0 zz6) x.1.1 x.2.1.1 by kernel_rfl).trans (by rw [zMV]; rfl)
def zpA (fuel : Nat) : TF := ⟨zkE, zgO, true, zkH fuel⟩
theorem zMX (fuel : Nat) : FnSpec Tryz.prog 175 (zpA fuel) :=
  fn_spec (T := zgN fuel) (c := bodyOf Tryz.f175) (fn := Tryz.f175) (TabOK.of (entCons (zz4 fuel) entNil) (methNil)) mixed (by kernel_rfl) (by kernel_rfl) zMU (by kernel_rfl) (Nat.le_of_ble_eq_true (by kernel_rfl)) (rv := zgQ) (by kernel_rfl) (zMW fuel)
theorem zMY (fuel : Nat) : EntryOK Tryz.prog 175 (zpA fuel).te := EntryOK.tf rfl (zMX fuel) (isFn (fn := Tryz.f175) (by kernel_rfl) (by kernel_rfl) (by kernel_rfl))
def zz7 (fuel : Nat) : Tab := Tab.of [(175, (zpA fuel).te)] []
abbrev zpB : List Pm := [{ cs := [(Kd.list (Kd.list I6), false)], ag := true }, { cs := [(I6, false)], ag := false }]
abbrev zz8 : List Pm := [{ cs := [(I6, false)], ag := false }]
def zz9 : List Norm := []
noncomputable def zAa : C := irOf Tryz.prog Tryz.f126 [] zz9 []
theorem zMZ : lightC Tryz.prog [] Tryz.f126.ntmps zz9 [] 0 (bodyOf Tryz.f126) = some (zAa, 0) := by kernel_rfl
def zAb : List (Nat × Option (Nat × Bool)) := [(4, none)]
def zpC (fuel : Nat) (x0 : List (List Int)) (x1 : Int) : Option ((Int × Unit) × Unit) :=
 Option.bind (zkH fuel ((x0, ()), (x1, ()), ())) fun y_1 =>
 cond (decide (y_1.1.1 < (0 : Int)))
 (some ((((-1 : Int), ()), ())))
 (some (((y_1.1.1, ()), ())))
def zgS (fuel : Nat) (x : (((List (List Int)) × Unit) × ((Int × Unit) × Unit))) : Option ((Int × Unit) × Unit) := zpC fuel x.1.1 x.2.1.1
theorem zM0 (fuel : Nat) (x : PsT zpB) : run (zz7 fuel) 0 fuel zAa (env0 (svPs zpB x) 0) [] (endF zAb zz8) = zgS fuel x := by kernel_rfl
def zpD (fuel : Nat) : TF := ⟨zpB, zz8, true, zgS fuel⟩
theorem zM1 (fuel : Nat) : FnSpec Tryz.prog 126 (zpD fuel) :=
  fn_spec (T := zz7 fuel) (c := bodyOf Tryz.f126) (fn := Tryz.f126) (TabOK.of (entCons (zMY fuel) entNil) (methNil)) mixed (by kernel_rfl) (by kernel_rfl) zMZ (by kernel_rfl) (Nat.le_of_ble_eq_true (by kernel_rfl)) (rv := zAb) (by kernel_rfl) (zM0 fuel)
theorem zM2 (fuel : Nat) : EntryOK Tryz.prog 126 (zpD fuel).te := EntryOK.tf rfl (zM1 fuel) (isFn (fn := Tryz.f126) (by kernel_rfl) (by kernel_rfl) (by kernel_rfl))
def zAc (fuel : Nat) : Tab := Tab.of [(176, (zkD fuel).te)] []
abbrev zpE : List Pm := [{ cs := [(Kd.list I6, false)], ag := true }, { cs := [(I6, false)], ag := false }]
abbrev zAd : List Pm := [{ cs := [(I6, false)], ag := false }]
def zAe : List Norm := []
noncomputable def zAf : C := irOf Tryz.prog Tryz.f127 [] zAe []
theorem zM3 : lightC Tryz.prog [] Tryz.f127.ntmps zAe [] 0 (bodyOf Tryz.f127) = some (zAf, 0) := by kernel_rfl
def zAg : List (Nat × Option (Nat × Bool)) := [(4, none)]
def zpF (fuel : Nat) (x0 : List Int) (x1 : Int) : Option ((Int × Unit) × Unit) :=
 Option.bind (zcI fuel ((x0, ()), (x1, ()), ())) fun y_1 =>
 cond (decide (y_1.1.1 < (0 : Int)))
 (some ((((-1 : Int), ()), ())))
 (some (((y_1.1.1, ()), ())))
def zkI (fuel : Nat) (x : (((List Int) × Unit) × ((Int × Unit) × Unit))) : Option ((Int × Unit) × Unit) := zpF fuel x.1.1 x.2.1.1
theorem zM4 (fuel : Nat) (x : PsT zpE) : run (zAc fuel) 0 fuel zAf (env0 (svPs zpE x) 0) [] (endF zAg zAd) = zkI fuel x := by kernel_rfl
def zpG (fuel : Nat) : TF := ⟨zpE, zAd, true, zkI fuel⟩
theorem zM5 (fuel : Nat) : FnSpec Tryz.prog 127 (zpG fuel) :=
  fn_spec (T := zAc fuel) (c := bodyOf Tryz.f127) (fn := Tryz.f127) (TabOK.of (entCons (zz4 fuel) entNil) (methNil)) mixed (by kernel_rfl) (by kernel_rfl) zM3 (by kernel_rfl) (Nat.le_of_ble_eq_true (by kernel_rfl)) (rv := zAg) (by kernel_rfl) (zM4 fuel)
theorem zM6 (fuel : Nat) : EntryOK Tryz.prog 127 (zpG fuel).te := EntryOK.tf rfl (zM5 fuel) (isFn (fn := Tryz.f127) (by kernel_rfl) (by kernel_rfl) (by kernel_rfl))
def zAh (fuel : Nat) : Tab := Tab.of [] []
abbrev zpH : List Pm := [{ cs := [(Kd.list KP, false)], ag := false }, { cs := [(I6, false)], ag := false }]
abbrev zAi : List Pm := [{ cs := [(I6, false)], ag := false }]
def zAj : List Norm := []
noncomputable def zAk : C := irOf Tryz.prog Tryz.f177 [] zAj []
theorem zM7 : lightC Tryz.prog [] Tryz.f177.ntmps zAj [] 0 (bodyOf Tryz.f177) = some (zAk, 0) := by kernel_rfl
def zAl : List (Nat × Option (Nat × Bool)) := [(4, none)]
def zpI (fuel : Nat) (x0 : LP) (x1 : Int) : Option ((Int × Unit) × Unit) :=
 cond (decide (w64 (x1 - (zz (List.length x0))) < (0 : Int)))
 (some ((((-1 : Int), ()), ())))
 (some (((w64 (x1 - (zz (List.length x0))), ()), ())))
def zkJ (fuel : Nat) (x : ((LP × Unit) × ((Int × Unit) × Unit))) : Option ((Int × Unit) × Unit) := zpI fuel x.1.1 x.2.1.1
theorem zM8 (fuel : Nat) (x : PsT zpH) : run (zAh fuel) 0 fuel zAk (env0 (svPs zpH x) 0) [] (endF zAl zAi) = zkJ fuel x := by kernel_rfl
def zpJ (fuel : Nat) : TF := ⟨zpH, zAi, true, zkJ fuel⟩
theorem zM9 (fuel : Nat) : FnSpec Tryz.prog 177 (zpJ fuel) :=
  fn_spec (T := zAh fuel) (c := bodyOf Tryz.f177) (fn := Tryz.f177) (TabOK.of (entNil) (methNil)) mixed (by kernel_rfl) (by kernel_rfl) zM7 (by kernel_rfl) (Nat.le_of_ble_eq_true (by kernel_rfl)) (rv := zAl) (by kernel_rfl) (zM8 fuel)
theorem zNa (fuel : Nat) : EntryOK Tryz.prog 177 (zpJ fuel).te := EntryOK.tf rfl (zM9 fuel) (isFn (fn := Tryz.f177) (by kernel_rfl) (by kernel_rfl) (by kernel_rfl))
def zAm (fuel : Nat) : Tab := Tab.of [(177, (zpJ fuel).te)] []
abbrev zpK : List Pm := [{ cs := [(Kd.list KP, false), (I6, false), (I6, false)], ag := true }, { cs := [(I6, false)], ag := false }]
abbrev zAn : List Pm := [{ cs := [(I6, false)], ag := false }]
def zAo : List Norm := []
noncomputable def zAp : C := irOf Tryz.prog Tryz.f128 [] zAo []
theorem zNb : lightC Tryz.prog [] Tryz.f128.ntmps zAo [] 0 (bodyOf Tryz.f128) = some (zAp, 0) := by kernel_rfl
def zAq : List (Nat × Option (Nat × Bool)) := [(4, none)]
def zpL (fuel : Nat) (x0 : LP) (x1 : Int) (x2 : Int) (x3 : Int) : Option ((Int × Unit) × Unit) :=
 Option.bind (zkJ fuel ((x0, ()), (x3, ()), ())) fun y_1 =>
 cond (decide (y_1.1.1 < (0 : Int)))
 (some ((((-1 : Int), ()), ())))
 (some (((y_1.1.1, ()), ())))
def zkK (fuel : Nat) (x : ((LP × (Int × (Int × Unit))) × ((Int × Unit) × Unit))) : Option ((Int × Unit) × Unit) := zpL fuel x.1.1 x.1.2.1 x.1.2.2.1 x.2.1.1
theorem zNc (fuel : Nat) (x : PsT zpK) : run (zAm fuel) 0 fuel zAp (env0 (svPs zpK x) 0) [] (endF zAq zAn) = zkK fuel x := by kernel_rfl
def zpM (fuel : Nat) : TF := ⟨zpK, zAn, true, zkK fuel⟩
theorem zNd (fuel : Nat) : FnSpec Tryz.prog 128 (zpM fuel) :=
  fn_spec (T := zAm fuel) (c := bodyOf Tryz.f128) (fn := Tryz.f128) (TabOK.of (entCons (zNa fuel) entNil) (methNil)) mixed (by kernel_rfl) (by kernel_rfl) zNb (by kernel_rfl) (Nat.le_of_ble_eq_true (by kernel_rfl)) (rv := zAq) (by kernel_rfl) (zNc fuel)
theorem zNe (fuel : Nat) : EntryOK Tryz.prog 128 (zpM fuel).te := EntryOK.tf rfl (zNd fuel) (isFn (fn := Tryz.f128) (by kernel_rfl) (by kernel_rfl) (by kernel_rfl))
def zAr (fuel : Nat) : Tab := Tab.of [] []
abbrev zpN : List Pm := [{ cs := [(Kd.list KP, false)], ag := false }, { cs := [(I6, false)], ag := false }]
abbrev zAs : List Pm := [{ cs := [(I6, false)], ag := false }]
def zAt : List Norm := []
noncomputable def zAu : C := irOf Tryz.prog Tryz.f178 [] zAt []
theorem zNf : lightC Tryz.prog [] Tryz.f178.ntmps zAt [] 0 (bodyOf Tryz.f178) = some (zAu, 0) := by kernel_rfl
def zAv : List (Nat × Option (Nat × Bool)) := [(4, none)]
def zpO (fuel : Nat) (x0 : LP) (x1 : Int) : Option ((Int × Unit) × Unit) :=
 cond (decide (w64 (x1 - (zz (List.length x0))) < (0 : Int)))
 (some ((((-1 : Int), ()), ())))
 (some (((w64 (x1 - (zz (List.length x0))), ()), ())))
def zkL (fuel : Nat) (x : ((LP × Unit) × ((Int × Unit) × Unit))) : Option ((Int × Unit) × Unit) := zpO fuel x.1.1 x.2.1.1
theorem zNg (fuel : Nat) (x : PsT zpN) : run (zAr fuel) 0 fuel zAu (env0 (svPs zpN x) 0) [] (endF zAv zAs) = zkL fuel x := by kernel_rfl
def zpP (fuel : Nat) : TF := ⟨zpN, zAs, true, zkL fuel⟩
theorem zNh (fuel : Nat) : FnSpec Tryz.prog 178 (zpP fuel) :=
  fn_spec (T := zAr fuel) (c := bodyOf Tryz.f178) (fn := Tryz.f178) (TabOK.of (entNil) (methNil)) mixed (by kernel_rfl) (by kernel_rfl) zNf (by kernel_rfl) (Nat.le_of_ble_eq_true (by kernel_rfl)) (rv := zAv) (by kernel_rfl) (zNg fuel)
theorem zNi (fuel : Nat) : EntryOK Tryz.prog 178 (zpP fuel).te := EntryOK.tf rfl (zNh fuel) (isFn (fn := Tryz.f178) (by kernel_rfl) (by kernel_rfl) (by kernel_rfl))
def zAw (fuel : Nat) : Tab := Tab.of [(178, (zpP fuel).te)] []
abbrev zpQ : List Pm := [{ cs := [(Kd.list KP, false), (I6, false)], ag := true }, { cs := [(I6, false)], ag := false }]
abbrev zAx : List Pm := [{ cs := [(I6, false)], ag := false }]
def zAy : List Norm := []
noncomputable def zAz : C := irOf Tryz.prog Tryz.f129 [] zAy []
theorem zNj : lightC Tryz.prog [] Tryz.f129.ntmps zAy [] 0 (bodyOf Tryz.f129) = some (zAz, 0) := by kernel_rfl
def zAA : List (Nat × Option (Nat × Bool)) := [(4, none)]
def zpR (fuel : Nat) (x0 : LP) (x1 : Int) (x2 : Int) : Option ((Int × Unit) × Unit) :=
 Option.bind (zkL fuel ((x0, ()), (x2, ()), ())) fun y_1 =>
 cond (decide (y_1.1.1 < (0 : Int)))
 (some ((((-1 : Int), ()), ())))
 (some (((y_1.1.1, ()), ())))
def zkM (fuel : Nat) (x : ((LP × (Int × Unit)) × ((Int × Unit) × Unit))) : Option ((Int × Unit) × Unit) := zpR fuel x.1.1 x.1.2.1 x.2.1.1
theorem zNk (fuel : Nat) (x : PsT zpQ) : run (zAw fuel) 0 fuel zAz (env0 (svPs zpQ x) 0) [] (endF zAA zAx) = zkM fuel x := by kernel_rfl
def zpS (fuel : Nat) : TF := ⟨zpQ, zAx, true, zkM fuel⟩
theorem zNl (fuel : Nat) : FnSpec Tryz.prog 129 (zpS fuel) :=
  fn_spec (T := zAw fuel) (c := bodyOf Tryz.f129) (fn := Tryz.f129) (TabOK.of (entCons (zNi fuel) entNil) (methNil)) mixed (by kernel_rfl) (by kernel_rfl) zNj (by kernel_rfl) (Nat.le_of_ble_eq_true (by kernel_rfl)) (rv := zAA) (by kernel_rfl) (zNk fuel)
theorem zNm (fuel : Nat) : EntryOK Tryz.prog 129 (zpS fuel).te := EntryOK.tf rfl (zNl fuel) (isFn (fn := Tryz.f129) (by kernel_rfl) (by kernel_rfl) (by kernel_rfl))
def zAB (fuel : Nat) : Tab := Tab.of [(126, (zpD fuel).te), (127, (zpG fuel).te), (128, (zpM fuel).te), (129, (zpS fuel).te)] []
abbrev zpT : List Pm := [{ cs := [(Kd.list (Kd.list I6), false), (Kd.list I6, false), (Kd.list KP, false), (I6, false), (I6, false), (Kd.list KP, false), (I6, false)], ag := true }, { cs := [(I6, false)], ag := false }]
abbrev zAC : List Pm := [{ cs := [(I6, false)], ag := false }]
def zAD : List Norm := []
noncomputable def zAE : C := irOf Tryz.prog Tryz.f74 [] zAD []
theorem zNn : lightC Tryz.prog [] Tryz.f74.ntmps zAD [] 0 (bodyOf Tryz.f74) = some (zAE, 0) := by kernel_rfl
def zAF : List (Nat × Option (Nat × Bool)) := [(4, none)]
def zpU (fuel : Nat) (x0 : List (List Int)) (x1 : List Int) (x2 : LP) (x3 : Int) (x4 : Int) (x5 : LP) (x6 : Int) (x7 : Int) : Option ((Int × Unit) × Unit) :=
 Option.bind (zgS fuel ((x0, ()), (x7, ()), ())) fun y_1 =>
 cond (decide (y_1.1.1 < (0 : Int)))
 (some ((((-1 : Int), ()), ())))
 (Option.bind (zkI fuel ((x1, ()), (y_1.1.1, ()), ())) fun y_3 =>
 cond (decide (y_3.1.1 < (0 : Int)))
 (some ((((-1 : Int), ()), ())))
 (Option.bind (zkK fuel ((x2, x3, x4, ()), (y_3.1.1, ()), ())) fun y_5 =>
 cond (decide (y_5.1.1 < (0 : Int)))
 (some ((((-1 : Int), ()), ())))
 (Option.bind (zkM fuel ((x5, x6, ()), (y_5.1.1, ()), ())) fun y_7 =>
 cond (decide (y_7.1.1 < (0 : Int)))
 (some ((((-1 : Int), ()), ())))
 (some (((y_7.1.1, ()), ()))))))
def zgT (fuel : Nat) (x : (SumY × ((Int × Unit) × Unit))) : Option ((Int × Unit) × Unit) := zpU fuel x.1.1 x.1.2.1 x.1.2.2.1 x.1.2.2.2.1 x.1.2.2.2.2.1 x.1.2.2.2.2.2.1 x.1.2.2.2.2.2.2.1 x.2.1.1
theorem zNo (fuel : Nat) (x : PsT zpT) : run (zAB fuel) 0 fuel zAE (env0 (svPs zpT x) 0) [] (endF zAF zAC) = zgT fuel x := by kernel_rfl
def zkN (fuel : Nat) : TF := ⟨zpT, zAC, true, zgT fuel⟩
theorem zNp (fuel : Nat) : FnSpec Tryz.prog 74 (zkN fuel) :=
  fn_spec (T := zAB fuel) (c := bodyOf Tryz.f74) (fn := Tryz.f74) (TabOK.of (entCons (zM2 fuel) (entCons (zM6 fuel) (entCons (zNe fuel) (entCons (zNm fuel) entNil)))) (methNil)) mixed (by kernel_rfl) (by kernel_rfl) zNn (by kernel_rfl) (Nat.le_of_ble_eq_true (by kernel_rfl)) (rv := zAF) (by kernel_rfl) (zNo fuel)
theorem zAG (fuel : Nat) : EntryOK Tryz.prog 74 (zkN fuel).te := EntryOK.tf rfl (zNp fuel) (isFn (fn := Tryz.f74) (by kernel_rfl) (by kernel_rfl) (by kernel_rfl))
def zAH (fuel : Nat) : Tab := Tab.of [(179, (zps fuel).te)] []
def zAI : List Norm := []
noncomputable def zAJ : C := irOf Tryz.prog Tryz.f130 [] zAI []
theorem zNq : lightC Tryz.prog [] Tryz.f130.ntmps zAI [] 0 (bodyOf Tryz.f130) = some (zAJ, 0) := by kernel_rfl
def zAK : List (Nat × Option (Nat × Bool)) := [(2, some (1, true))]
noncomputable def zAL (fuel : Nat) : IE := inlIE 1 (zAH fuel) fuel zAJ zAK
theorem zNr (fuel : Nat) : ISound Tryz.prog 130 (zAL fuel) :=
  zx (T := zAH fuel) (c := bodyOf Tryz.f130) (fn := Tryz.f130) (TabOK.of (entCons (zMG fuel) entNil) (methNil)) mixed (by kernel_rfl) (by kernel_rfl) zNq (by kernel_rfl) (Nat.le_of_ble_eq_true (by kernel_rfl)) (rv := zAK) (by kernel_rfl) (isFn (fn := Tryz.f130) (by kernel_rfl) (by kernel_rfl) (by kernel_rfl))
end Go.Proofs.YtdgdoeknpakmlaaGreat.Den
namespace Go.Proofs.YtdgdoeknpakmlaaGreat.Den
open Go Go.RowKit
def zAM (fuel : Nat) : Tab := Tab.of [(68, (zco fuel).te)] []
def zAN : List Norm := []
noncomputable def zAO : C := irOf Tryz.prog Tryz.f131 [] zAN []
theorem zNs : lightC Tryz.prog [] Tryz.f131.ntmps zAN [] 0 (bodyOf Tryz.f131) = some (zAO, 0) := by kernel_rfl
def zAP : List (Nat × Option (Nat × Bool)) := [(2, some (1, true))]
noncomputable def zAQ (fuel : Nat) : IE := inlIE 1 (zAM fuel) fuel zAO zAP
theorem zNt (fuel : Nat) : ISound Tryz.prog 131 (zAQ fuel) :=
  zx (T := zAM fuel) (c := bodyOf Tryz.f131) (fn := Tryz.f131) (TabOK.of (entCons (zjG fuel) entNil) (methNil)) mixed (by kernel_rfl) (by kernel_rfl) zNs (by kernel_rfl) (Nat.le_of_ble_eq_true (by kernel_rfl)) (rv := zAP) (by kernel_rfl) (isFn (fn := Tryz.f131) (by kernel_rfl) (by kernel_rfl) (by kernel_rfl))
def zAR (fuel : Nat) : Tab := Tab.of [] []
abbrev zpV : List Pm := [{ cs := [(I6, false), (I6, false)], ag := true }]
abbrev zAS : List Pm := [{ cs := [(I6, false), (I6, false)], ag := true }]
def zAT : List Norm := []
noncomputable def zAU : C := irOf Tryz.prog Tryz.f191 [] zAT []
theorem zNu : lightC Tryz.prog [] Tryz.f191.ntmps zAT [] 0 (bodyOf Tryz.f191) = some (zAU, 0) := by kernel_rfl
def zAV : List (Nat × Option (Nat × Bool)) := [(2, some (2, true))]
def zNv (fuel : Nat) (x0 : Int) (x1 : Int) : Option ((Int × (Int × Unit)) × Unit) :=
 some (((x0, x1, ()), ()))
def zkO (fuel : Nat) (x : ((Int × (Int × Unit)) × Unit)) : Option ((Int × (Int × Unit)) × Unit) := zNv fuel x.1.1 x.1.2.1
theorem zNw (fuel : Nat) (x : PsT zpV) : run (zAR fuel) 0 fuel zAU (env0 (svPs zpV x) 0) [] (endF zAV zAS) = zkO fuel x := by kernel_rfl
def zpW (fuel : Nat) : TF := ⟨zpV, zAS, true, zkO fuel⟩
theorem zNx (fuel : Nat) : FnSpec Tryz.prog 191 (zpW fuel) :=
  fn_spec (T := zAR fuel) (c := bodyOf Tryz.f191) (fn := Tryz.f191) (TabOK.of (entNil) (methNil)) mixed (by kernel_rfl) (by kernel_rfl) zNu (by kernel_rfl) (Nat.le_of_ble_eq_true (by kernel_rfl)) (rv := zAV) (by kernel_rfl) (zNw fuel)
theorem zNy (fuel : Nat) : EntryOK Tryz.prog 191 (zpW fuel).te := EntryOK.tf rfl (zNx fuel) (isFn (fn := Tryz.f191) (by kernel_rfl) (by kernel_rfl) (by kernel_rfl))
abbrev zbd := Option ((LP × Unit) × Unit)
def zgU (fuel : Nat) : Tab := Tab.of [(191, (zpW fuel).te)] []
abbrev zkP : List Pm := [{ cs := [(Kd.list KP, false)], ag := false }]
abbrev zgV : List Pm := [{ cs := [(Kd.list KP, true)], ag := false }]
def zAW : List Norm := [{ live := [4, 0, 3], fix := [] }]
noncomputable def zgW : C := irOf Tryz.prog Tryz.f180 [] zAW []
theorem zNz : lightC Tryz.prog [] Tryz.f180.ntmps zAW [] 0 (bodyOf Tryz.f180) = some (zgW, 1) := by kernel_rfl
def zgX : List (Nat × Option (Nat × Bool)) := [(2, none)]
abbrev zcK := (Int) × LP × LP
def zAX (v : zcK) : Env × Heap := ([(4, SV.int .i64 v.1), (0, SV.es KP v.2.1), (3, SV.own 0)], [Blk.arr KP v.2.2 0])
def zgY (fuel : Nat) (g0 : zcK → zbd) (v : zcK) : zbd :=
 cond (decide (v.1 < (zz (List.length v.2.1))))
 (tst (decide (0 ≤ v.1)) <|
 tst (decide (v.1 < (zz (List.length v.2.1)))) <|
 Option.bind (zkO fuel (((List.getD v.2.1 (Int.toNat v.1) (0, (0, ()))).1, (List.getD v.2.1 (Int.toNat v.1) (0, (0, ()))).2.1, ()), ())) fun y_2 =>
 tst (decide (0 ≤ v.1)) <|
 tst (decide (v.1 < (zz (List.length v.2.2)))) <|
 tst (decide (Int.toNat v.1 < List.length v.2.2)) <|
 g0 (w64 (v.1 + (1 : Int)), v.2.1, List.set v.2.2 (Int.toNat v.1) (y_2.1.1, y_2.1.2.1, ())))
 (some (((v.2.2, ()), ())))
def zkQ (fuel : Nat) (g0 : zcK → zbd) : zcK → zbd := zgY fuel g0
theorem zNA (fuel : Nat) (G) : zgW.lp (zgU fuel) 0 fuel G (endF zgX zgV) 0 zAX = iter (zkQ fuel) fuel := C.lp_iter fun g v => by kernel_rfl
def zkR (fuel : Nat) (X0 : zcK → zbd) (x0 : LP) : zbd :=
 tst (decide (0 ≤ (zz (List.length x0)))) <|
 tst (decide ((zz (List.length x0)) ≤ (zz (List.length x0)))) <|
 tst (decide (Int.toNat (zz (List.length x0)) < LIM)) <|
 X0 ((0 : Int), x0, List.replicate (Int.toNat (zz (List.length x0))) (0, (0, ())))
def zcL (fuel : Nat) (x : ((LP × Unit) × Unit)) : zbd := zkR fuel (iter (zkQ fuel) fuel) x.1.1
theorem zNB (fuel : Nat) (x : PsT zkP) : run (zgU fuel) 0 fuel zgW (env0 (svPs zkP x) 0) [] (endF zgX zgV) = zcL fuel x :=
  (show run (zgU fuel) 0 fuel zgW (env0 (svPs zkP x) 0) [] (endF zgX zgV) = zkR fuel (zgW.lp (zgU fuel) 0 fuel (fun _ _ _ => none) (endF zgX zgV) 0 zAX) x.1.1 by kernel_rfl).trans (by rw [zNA]; rfl)
def zkS (fuel : Nat) : TF := ⟨zkP, zgV, true, zcL fuel⟩
theorem zNC (fuel : Nat) : FnSpec Tryz.prog 180 (zkS fuel) :=
  fn_spec (T := zgU fuel) (c := bodyOf Tryz.f180) (fn := Tryz.f180) (TabOK.of (entCons (zNy fuel) entNil) (methNil)) mixed (by kernel_rfl) (by kernel_rfl) zNz (by kernel_rfl) (Nat.le_of_ble_eq_true (by kernel_rfl)) (rv := zgX) (by kernel_rfl) (zNB fuel)
theorem zAY (fuel : Nat) : EntryOK Tryz.prog 180 (zkS fuel).te := EntryOK.tf rfl (zNC fuel) (isFn (fn := Tryz.f180) (by kernel_rfl) (by kernel_rfl) (by kernel_rfl))
def zAZ (fuel : Nat) : Tab := Tab.of [(180, (zkS fuel).te)] []
def zA0 : List Norm := []
noncomputable def zA1 : C := irOf Tryz.prog Tryz.f132 [] zA0 []
theorem zND : lightC Tryz.prog [] Tryz.f132.ntmps zA0 [] 0 (bodyOf Tryz.f132) = some (zA1, 0) := by kernel_rfl
def zA2 : List (Nat × Option (Nat × Bool)) := [(2, some (3, true))]
noncomputable def zA3 (fuel : Nat) : IE := inlIE 1 (zAZ fuel) fuel zA1 zA2
theorem zNE (fuel : Nat) : ISound Tryz.prog 132 (zA3 fuel) :=
  zx (T := zAZ fuel) (c := bodyOf Tryz.f132) (fn := Tryz.f132) (TabOK.of (entCons (zAY fuel) entNil) (methNil)) mixed (by kernel_rfl) (by kernel_rfl) zND (by kernel_rfl) (Nat.le_of_ble_eq_true (by kernel_rfl)) (rv := zA2) (by kernel_rfl) (isFn (fn := Tryz.f132) (by kernel_rfl) (by kernel_rfl) (by kernel_rfl))
def zA4 (fuel : Nat) : Tab := Tab.of [] []
abbrev zpX : List Pm := [{ cs := [(I6, false), (I6, false)], ag := true }]
abbrev zA5 : List Pm := [{ cs := [(I6, false), (I6, false)], ag := true }]
def zA6 : List Norm := []
noncomputable def zA7 : C := irOf Tryz.prog Tryz.f192 [] zA6 []
theorem zNF : lightC Tryz.prog [] Tryz.f192.ntmps zA6 [] 0 (bodyOf Tryz.f192) = some (zA7, 0) := by kernel_rfl
def zA8 : List (Nat × Option (Nat × Bool)) := [(2, some (2, true))]
def zNG (fuel : Nat) (x0 : Int) (x1 : Int) : Option ((Int × (Int × Unit)) × Unit) :=
 some (((x0, x1, ()), ()))
def zkT (fuel : Nat) (x : ((Int × (Int × Unit)) × Unit)) : Option ((Int × (Int × Unit)) × Unit) := zNG fuel x.1.1 x.1.2.1
theorem zNH (fuel : Nat) (x : PsT zpX) : run (zA4 fuel) 0 fuel zA7 (env0 (svPs zpX x) 0) [] (endF zA8 zA5) = zkT fuel x := by kernel_rfl
def zpY (fuel : Nat) : TF := ⟨zpX, zA5, true, zkT fuel⟩
theorem zNI (fuel : Nat) : FnSpec Tryz.prog 192 (zpY fuel) :=
  fn_spec (T := zA4 fuel) (c := bodyOf Tryz.f192) (fn := Tryz.f192) (TabOK.of (entNil) (methNil)) mixed (by kernel_rfl) (by kernel_rfl) zNF (by kernel_rfl) (Nat.le_of_ble_eq_true (by kernel_rfl)) (rv := zA8) (by kernel_rfl) (zNH fuel)
theorem zNJ (fuel : Nat) : EntryOK Tryz.prog 192 (zpY fuel).te := EntryOK.tf rfl (zNI fuel) (isFn (fn := Tryz.f192) (by kernel_rfl) (by kernel_rfl) (by kernel_rfl))
abbrev zbe := Option ((LP × Unit) × Unit)
def zgZ (fuel : Nat) : Tab := Tab.of [(192, (zpY fuel).te)] []
abbrev zkU : List Pm := [{ cs := [(Kd.list KP, false)], ag := false }]
abbrev zg0 : List Pm := [{ cs := [(Kd.list KP, true)], ag := false }]
def zA9 : List Norm := [{ live := [4, 0, 3], fix := [] }]
noncomputable def zg1 : C := irOf Tryz.prog Tryz.f181 [] zA9 []
theorem zNK : lightC Tryz.prog [] Tryz.f181.ntmps zA9 [] 0 (bodyOf Tryz.f181) = some (zg1, 1) := by kernel_rfl
def zg2 : List (Nat × Option (Nat × Bool)) := [(2, none)]
abbrev zcM := (Int) × LP × LP
def zBa (v : zcM) : Env × Heap := ([(4, SV.int .i64 v.1), (0, SV.es KP v.2.1), (3, SV.own 0)], [Blk.arr KP v.2.2 0])
def zg3 (fuel : Nat) (g0 : zcM → zbe) (v : zcM) : zbe :=
 cond (decide (v.1 < (zz (List.length v.2.1))))
 (tst (decide (0 ≤ v.1)) <|
 tst (decide (v.1 < (zz (List.length v.2.1)))) <|
 Option.bind (zkT fuel (((List.getD v.2.1 (Int.toNat v.1) (0, (0, ()))).1, (List.getD v.2.1 (Int.toNat v.1) (0, (0, ()))).2.1, ()), ())) fun y_2 =>
 tst (decide (0 ≤ v.1)) <|
 tst (decide (v.1 < (zz (List.length v.2.2)))) <|
 tst (decide (Int.toNat v.1 < List.length v.2.2)) <|
 g0 (w64 (v.1 + (1 : Int)), v.2.1, List.set v.2.2 (Int.toNat v.1) (y_2.1.1, y_2.1.2.1, ())))
 (some (((v.2.2, ()), ())))
def zkV (fuel : Nat) (g0 : zcM → zbe) : zcM → zbe := zg3 fuel g0
theorem zNL (fuel : Nat) (G) : zg1.lp (zgZ fuel) 0 fuel G (endF zg2 zg0) 0 zBa = iter (zkV fuel) fuel := C.lp_iter fun g v => by kernel_rfl
def zkW (fuel : Nat) (X0 : zcM → zbe) (x0 : LP) : zbe :=
 tst (decide (0 ≤ (zz (List.length x0)))) <|
 tst (decide ((zz (List.length x0)) ≤ (zz (List.length x0)))) <|
 tst (decide (Int.toNat (zz (List.length x0)) < LIM)) <|
 X0 ((0 : Int), x0, List.replicate (Int.toNat (zz (List.length x0))) (0, (0, ())))
def zcN (fuel : Nat) (x : ((LP × Unit) × Unit)) : zbe := zkW fuel (iter (zkV fuel) fuel) x.1.1
theorem zNM (fuel : Nat) (x : PsT zkU) : run (zgZ fuel) 0 fuel zg1 (env0 (svPs zkU x) 0) [] (endF zg2 zg0) = zcN fuel x :=
  (show run (zgZ fuel) 0 fuel zg1 (env0 (svPs zkU x) 0) [] (endF zg2 zg0) = zkW fuel (zg1.lp (zgZ fuel) 0 fuel (fun _ _ _ => none) (endF zg2 zg0) 0 zBa) x.1.1 by kernel_rfl).trans (by rw [zNL]; rfl)
def zkX (fuel : Nat) : TF := ⟨zkU, zg0, true, zcN fuel⟩
theorem zNN (fuel : Nat) : FnSpec Tryz.prog 181 (zkX fuel) :=
  fn_spec (T := zgZ fuel) (c := bodyOf Tryz.f181) (fn := Tryz.f181) (TabOK.of (entCons (zNJ fuel) entNil) (methNil)) mixed (by kernel_rfl) (by kernel_rfl) zNK (by kernel_rfl) (Nat.le_of_ble_eq_true (by kernel_rfl)) (rv := zg2) (by kernel_rfl) (zNM fuel)
theorem zBb (fuel : Nat) : EntryOK Tryz.prog 181 (zkX fuel).te := EntryOK.tf rfl (zNN fuel) (isFn (fn := Tryz.f181) (by kernel_rfl) (by kernel_rfl) (by kernel_rfl))
def zBc (fuel : Nat) : Tab := Tab.of [(181, (zkX fuel).te)] []
def zBd : List Norm := []
noncomputable def zBe : C := irOf Tryz.prog Tryz.f133 [] zBd []
theorem zNO : lightC Tryz.prog [] Tryz.f133.ntmps zBd [] 0 (bodyOf Tryz.f133) = some (zBe, 0) := by kernel_rfl
def zBf : List (Nat × Option (Nat × Bool)) := [(2, some (2, true))]
noncomputable def zBg (fuel : Nat) : IE := inlIE 1 (zBc fuel) fuel zBe zBf
theorem zNP (fuel : Nat) : ISound Tryz.prog 133 (zBg fuel) :=
  zx (T := zBc fuel) (c := bodyOf Tryz.f133) (fn := Tryz.f133) (TabOK.of (entCons (zBb fuel) entNil) (methNil)) mixed (by kernel_rfl) (by kernel_rfl) zNO (by kernel_rfl) (Nat.le_of_ble_eq_true (by kernel_rfl)) (rv := zBf) (by kernel_rfl) (isFn (fn := Tryz.f133) (by kernel_rfl) (by kernel_rfl) (by kernel_rfl))
noncomputable def zBh (fuel : Nat) : Tab := Tab.ofI [] [] [(130, zAL fuel), (131, zAQ fuel), (132, zA3 fuel), (133, zBg fuel)]
def zBi : List Norm := []
noncomputable def zBj : C := irOf Tryz.prog Tryz.f75 [6, 10, 14, 18] zBi []
theorem zNQ : lightC Tryz.prog [6, 10, 14, 18] Tryz.f75.ntmps zBi [] 0 (bodyOf Tryz.f75) = some (zBj, 0) := by kernel_rfl
def zBk : List (Nat × Option (Nat × Bool)) := [(2, some (7, true))]
noncomputable def zpZ (fuel : Nat) : IE := inlIE 1 (zBh fuel) fuel zBj zBk
theorem zBl (fuel : Nat) : ISound Tryz.prog 75 (zpZ fuel) :=
  zx (T := zBh fuel) (c := bodyOf Tryz.f75) (fn := Tryz.f75) (TabOK.ofI (entNil) (methNil) (inlCons (zNr fuel) (inlCons (zNt fuel) (inlCons (zNE fuel) (inlCons (zNP fuel) (inlNil)))))) mixed (by kernel_rfl) (by kernel_rfl) zNQ (by kernel_rfl) (Nat.le_of_ble_eq_true (by kernel_rfl)) (rv := zBk) (by kernel_rfl) (isFn (fn := Tryz.f75) (by kernel_rfl) (by kernel_rfl) (by kernel_rfl))
abbrev zbf := Option (((List (List Int)) × Unit) × Unit)
def zg4 (fuel : Nat) : Tab := Tab.of [(68, (zco fuel).te)] []
abbrev zkY : List Pm := [{ cs := [(Kd.list (Kd.list I6), false)], ag := false }]
abbrev zg5 : List Pm := [{ cs := [(Kd.list (Kd.list I6), false)], ag := false }]
def zBm : List Norm := [{ live := [4, 0, 3], fix := [] }]
noncomputable def zg6 : C := irOf Tryz.prog Tryz.f179 [] zBm []
theorem zNR : lightC Tryz.prog [] Tryz.f179.ntmps zBm [] 0 (bodyOf Tryz.f179) = some (zg6, 1) := by kernel_rfl
def zg7 : List (Nat × Option (Nat × Bool)) := [(2, none)]
abbrev zcO := (Int) × (List (List Int)) × (List (List Int))
def zBn (v : zcO) : Env × Heap := ([(4, SV.int .i64 v.1), (0, SV.es (Kd.list I6) v.2.1), (3, SV.own 0)], [Blk.arr (Kd.list I6) v.2.2 0])
def zg8 (fuel : Nat) (g0 : zcO → zbf) (v : zcO) : zbf :=
 cond (decide (v.1 < (zz (List.length v.2.1))))
 (tst (decide (0 ≤ v.1)) <|
 tst (decide (v.1 < (zz (List.length v.2.1)))) <|
 Option.bind (zY fuel ((List.getD v.2.1 (Int.toNat v.1) [], ()), ())) fun y_2 =>
 tst (decide (0 ≤ v.1)) <|
 tst (decide (v.1 < (zz (List.length v.2.2)))) <|
 tst (decide (Int.toNat v.1 < List.length v.2.2)) <|
 g0 (w64 (v.1 + (1 : Int)), v.2.1, List.set v.2.2 (Int.toNat v.1) y_2.1.1))
 (some (((v.2.2, ()), ())))
def zkZ (fuel : Nat) (g0 : zcO → zbf) : zcO → zbf := zg8 fuel g0
theorem zNS (fuel : Nat) (G) : zg6.lp (zg4 fuel) 0 fuel G (endF zg7 zg5) 0 zBn = iter (zkZ fuel) fuel := C.lp_iter fun g v => by kernel_rfl
def zk0 (fuel : Nat) (X0 : zcO → zbf) (x0 : List (List Int)) : zbf :=
 tst (decide (0 ≤ (zz (List.length x0)))) <|
 tst (decide ((zz (List.length x0)) ≤ (zz (List.length x0)))) <|
 tst (decide (Int.toNat (zz (List.length x0)) < LIM)) <|
 X0 ((0 : Int), x0, List.replicate (Int.toNat (zz (List.length x0))) [])
def zk1 (fuel : Nat) (x : (((List (List Int)) × Unit) × Unit)) : zbf := zk0 fuel (iter (zkZ fuel) fuel) x.1.1
theorem zNT (fuel : Nat) (x : PsT zkY) : run (zg4 fuel) 0 fuel zg6 (env0 (svPs zkY x) 0) [] (endF zg7 zg5) = zk1 fuel x :=
  (show run (zg4 fuel) 0 fuel zg6 (env0 (svPs zkY x) 0) [] (endF zg7 zg5) = zk0 fuel (zg6.lp (zg4 fuel) 0 fuel (fun _ _ _ => none) (endF zg7 zg5) 0 zBn) x.1.1 by kernel_rfl).trans (by rw [zNS]; rfl)
def zp0 (fuel : Nat) : TF := ⟨zkY, zg5, false, zk1 fuel⟩
theorem zNU (fuel : Nat) : FnSpec Tryz.prog 179 (zp0 fuel) :=
  fn_spec (T := zg4 fuel) (c := bodyOf Tryz.f179) (fn := Tryz.f179) (TabOK.of (entCons (zjG fuel) entNil) (methNil)) mixed (by kernel_rfl) (by kernel_rfl) zNR (by kernel_rfl) (Nat.le_of_ble_eq_true (by kernel_rfl)) (rv := zg7) (by kernel_rfl) (zNT fuel)
theorem zNV (fuel : Nat) : EntryOK Tryz.prog 179 (zp0 fuel).te := EntryOK.tf rfl (zNU fuel) (isFn (fn := Tryz.f179) (by kernel_rfl) (by kernel_rfl) (by kernel_rfl))
def zBo (fuel : Nat) : Tab := Tab.of [(179, (zp0 fuel).te)] []
abbrev zp1 : List Pm := [{ cs := [(Kd.list (Kd.list I6), false)], ag := true }]
abbrev zBp : List Pm := [{ cs := [(Kd.list (Kd.list I6), false)], ag := true }]
def zBq : List Norm := []
noncomputable def zBr : C := irOf Tryz.prog Tryz.f130 [] zBq []
theorem zNW : lightC Tryz.prog [] Tryz.f130.ntmps zBq [] 0 (bodyOf Tryz.f130) = some (zBr, 0) := by kernel_rfl
def zBs : List (Nat × Option (Nat × Bool)) := [(2, some (1, true))]
def zp2 (fuel : Nat) (x0 : List (List Int)) : Option (((List (List Int)) × Unit) × Unit) :=
 Option.bind (zk1 fuel ((x0, ()), ())) fun y_1 =>
 some (((y_1.1.1, ()), ()))
def zk2 (fuel : Nat) (x : (((List (List Int)) × Unit) × Unit)) : Option (((List (List Int)) × Unit) × Unit) := zp2 fuel x.1.1
theorem zNX (fuel : Nat) (x : PsT zp1) : run (zBo fuel) 0 fuel zBr (env0 (svPs zp1 x) 0) [] (endF zBs zBp) = zk2 fuel x := by kernel_rfl
def zp3 (fuel : Nat) : TF := ⟨zp1, zBp, false, zk2 fuel⟩
theorem zNY (fuel : Nat) : FnSpec Tryz.prog 130 (zp3 fuel) :=
  fn_spec (T := zBo fuel) (c := bodyOf Tryz.f130) (fn := Tryz.f130) (TabOK.of (entCons (zNV fuel) entNil) (methNil)) mixed (by kernel_rfl) (by kernel_rfl) zNW (by kernel_rfl) (Nat.le_of_ble_eq_true (by kernel_rfl)) (rv := zBs) (by kernel_rfl) (zNX fuel)
theorem zNZ (fuel : Nat) : EntryOK Tryz.prog 130 (zp3 fuel).te := EntryOK.tf rfl (zNY fuel) (isFn (fn := Tryz.f130) (by kernel_rfl) (by kernel_rfl) (by kernel_rfl))
def zBt (fuel : Nat) : Tab := Tab.of [(68, (zco fuel).te)] []
abbrev zp4 : List Pm := [{ cs := [(Kd.list I6, false)], ag := true }]
abbrev zBu : List Pm := [{ cs := [(Kd.list I6, true)], ag := true }]
def zBv : List Norm := []
noncomputable def zBw : C := irOf Tryz.prog Tryz.f131 [] zBv []
theorem zN0 : lightC Tryz.prog [] Tryz.f131.ntmps zBv [] 0 (bodyOf Tryz.f131) = some (zBw, 0) := by kernel_rfl
def zBx : List (Nat × Option (Nat × Bool)) := [(2, some (1, true))]
def zp5 (fuel : Nat) (x0 : List Int) : Option (((List Int) × Unit) × Unit) :=
 Option.bind (zY fuel ((x0, ()), ())) fun y_1 =>
 some (((y_1.1.1, ()), ()))
def zk3 (fuel : Nat) (x : (((List Int) × Unit) × Unit)) : Option (((List Int) × Unit) × Unit) := zp5 fuel x.1.1
theorem zN1 (fuel : Nat) (x : PsT zp4) : run (zBt fuel) 0 fuel zBw (env0 (svPs zp4 x) 0) [] (endF zBx zBu) = zk3 fuel x := by kernel_rfl
def zp6 (fuel : Nat) : TF := ⟨zp4, zBu, true, zk3 fuel⟩
theorem zN2 (fuel : Nat) : FnSpec Tryz.prog 131 (zp6 fuel) :=
  fn_spec (T := zBt fuel) (c := bodyOf Tryz.f131) (fn := Tryz.f131) (TabOK.of (entCons (zjG fuel) entNil) (methNil)) mixed (by kernel_rfl) (by kernel_rfl) zN0 (by kernel_rfl) (Nat.le_of_ble_eq_true (by kernel_rfl)) (rv := zBx) (by kernel_rfl) (zN1 fuel)
theorem zN3 (fuel : Nat) : EntryOK Tryz.prog 131 (zp6 fuel).te := EntryOK.tf rfl (zN2 fuel) (isFn (fn := Tryz.f131) (by kernel_rfl) (by kernel_rfl) (by kernel_rfl))
def zBy (fuel : Nat) : Tab := Tab.of [(180, (zkS fuel).te)] []
abbrev zp7 : List Pm := [{ cs := [(Kd.list KP, false), (I6, false), (I6, false)], ag := true }]
abbrev zBz : List Pm := [{ cs := [(Kd.list KP, true), (I6, false), (I6, false)], ag := true }]
def zBA : List Norm := []
noncomputable def zBB : C := irOf Tryz.prog Tryz.f132 [] zBA []
theorem zN4 : lightC Tryz.prog [] Tryz.f132.ntmps zBA [] 0 (bodyOf Tryz.f132) = some (zBB, 0) := by kernel_rfl
def zBC : List (Nat × Option (Nat × Bool)) := [(2, some (3, true))]
def zp8 (fuel : Nat) (x0 : LP) (x1 : Int) (x2 : Int) : Option ((LP × (Int × (Int × Unit))) × Unit) :=
 Option.bind (zcL fuel ((x0, ()), ())) fun y_1 =>
 some (((y_1.1.1, x1, x2, ()), ()))
def zk4 (fuel : Nat) (x : ((LP × (Int × (Int × Unit))) × Unit)) : Option ((LP × (Int × (Int × Unit))) × Unit) := zp8 fuel x.1.1 x.1.2.1 x.1.2.2.1
theorem zN5 (fuel : Nat) (x : PsT zp7) : run (zBy fuel) 0 fuel zBB (env0 (svPs zp7 x) 0) [] (endF zBC zBz) = zk4 fuel x := by kernel_rfl
def zp9 (fuel : Nat) : TF := ⟨zp7, zBz, true, zk4 fuel⟩
theorem zN6 (fuel : Nat) : FnSpec Tryz.prog 132 (zp9 fuel) :=
  fn_spec (T := zBy fuel) (c := bodyOf Tryz.f132) (fn := Tryz.f132) (TabOK.of (entCons (zAY fuel) entNil) (methNil)) mixed (by kernel_rfl) (by kernel_rfl) zN4 (by kernel_rfl) (Nat.le_of_ble_eq_true (by kernel_rfl)) (rv := zBC) (by kernel_rfl) (zN5 fuel)
theorem zN7 (fuel : Nat) : EntryOK Tryz.prog 132 (zp9 fuel).te := EntryOK.tf rfl (zN6 fuel) (isFn (fn := Tryz.f132) (by kernel_rfl) (by kernel_rfl) (by kernel_rfl))
def zBD (fuel : Nat) : Tab := Tab.of [(181, (zkX fuel).te)] []
abbrev zqa : List Pm := [{ cs := [(Kd.list KP, false), (I6, false)], ag := true }]
abbrev zBE : List Pm := [{ cs := [(Kd.list KP, true), (I6, false)], ag := true }]
def zBF : List Norm := []
noncomputable def zBG : C := irOf Tryz.prog Tryz.f133 [] zBF []
theorem zN8 : lightC Tryz.prog [] Tryz.f133.ntmps zBF [] 0 (bodyOf Tryz.f133) = some (zBG, 0) := by kernel_rfl
def zBH : List (Nat × Option (Nat × Bool)) := [(2, some (2, true))]
def zqb (fuel : Nat) (x0 : LP) (x1 : Int) : Option ((LP × (Int × Unit)) × Unit) :=
 Option.bind (zcN fuel ((x0, ()), ())) fun y_1 =>
 some (((y_1.1.1, x1, ()), ()))
def zk5 (fuel : Nat) (x : ((LP × (Int × Unit)) × Unit)) : Option ((LP × (Int × Unit)) × Unit) := zqb fuel x.1.1 x.1.2.1
theorem zN9 (fuel : Nat) (x : PsT zqa) : run (zBD fuel) 0 fuel zBG (env0 (svPs zqa x) 0) [] (endF zBH zBE) = zk5 fuel x := by kernel_rfl
def zqc (fuel : Nat) : TF := ⟨zqa, zBE, true, zk5 fuel⟩
theorem zOa (fuel : Nat) : FnSpec Tryz.prog 133 (zqc fuel) :=
  fn_spec (T := zBD fuel) (c := bodyOf Tryz.f133) (fn := Tryz.f133) (TabOK.of (entCons (zBb fuel) entNil) (methNil)) mixed (by kernel_rfl) (by kernel_rfl) zN8 (by kernel_rfl) (Nat.le_of_ble_eq_true (by kernel_rfl)) (rv := zBH) (by kernel_rfl) (zN9 fuel)
theorem zOb (fuel : Nat) : EntryOK Tryz.prog 133 (zqc fuel).te := EntryOK.tf rfl (zOa fuel) (isFn (fn := Tryz.f133) (by kernel_rfl) (by kernel_rfl) (by kernel_rfl))
def zBI (fuel : Nat) : Tab := Tab.of [(130, (zp3 fuel).te), (131, (zp6 fuel).te), (132, (zp9 fuel).te), (133, (zqc fuel).te)] []
abbrev zqd : List Pm := [{ cs := [(Kd.list (Kd.list I6), false), (Kd.list I6, false), (Kd.list KP, false), (I6, false), (I6, false), (Kd.list KP, false), (I6, false)], ag := true }]
abbrev zBJ : List Pm := [{ cs := [(Kd.list (Kd.list I6), false), (Kd.list I6, false), (Kd.list KP, false), (I6, false), (I6, false), (Kd.list KP, false), (I6, false)], ag := true }]
def zBK : List Norm := []
noncomputable def zBL : C := irOf Tryz.prog Tryz.f75 [] zBK []
theorem zOc : lightC Tryz.prog [] Tryz.f75.ntmps zBK [] 0 (bodyOf Tryz.f75) = some (zBL, 0) := by kernel_rfl
def zBM : List (Nat × Option (Nat × Bool)) := [(2, some (7, true))]
def zqe (fuel : Nat) (x0 : List (List Int)) (x1 : List Int) (x2 : LP) (x3 : Int) (x4 : Int) (x5 : LP) (x6 : Int) : Option (SumY × Unit) :=
 Option.bind (zk2 fuel ((x0, ()), ())) fun y_1 =>
 Option.bind (zk3 fuel ((x1, ()), ())) fun y_2 =>
 Option.bind (zk4 fuel ((x2, x3, x4, ()), ())) fun y_3 =>
 Option.bind (zk5 fuel ((x5, x6, ()), ())) fun y_4 =>
 some (((y_1.1.1, y_2.1.1, y_3.1.1, y_3.1.2.1, y_3.1.2.2.1, y_4.1.1, y_4.1.2.1, ()), ()))
def zam (fuel : Nat) (x : (SumY × Unit)) : Option (SumY × Unit) := zqe fuel x.1.1 x.1.2.1 x.1.2.2.1 x.1.2.2.2.1 x.1.2.2.2.2.1 x.1.2.2.2.2.2.1 x.1.2.2.2.2.2.2.1
theorem zOd (fuel : Nat) (x : PsT zqd) : run (zBI fuel) 0 fuel zBL (env0 (svPs zqd x) 0) [] (endF zBM zBJ) = zam fuel x := by kernel_rfl
def zk6 (fuel : Nat) : TF := ⟨zqd, zBJ, false, zam fuel⟩
theorem zOe (fuel : Nat) : FnSpec Tryz.prog 75 (zk6 fuel) :=
  fn_spec (T := zBI fuel) (c := bodyOf Tryz.f75) (fn := Tryz.f75) (TabOK.of (entCons (zNZ fuel) (entCons (zN3 fuel) (entCons (zN7 fuel) (entCons (zOb fuel) entNil)))) (methNil)) mixed (by kernel_rfl) (by kernel_rfl) zOc (by kernel_rfl) (Nat.le_of_ble_eq_true (by kernel_rfl)) (rv := zBM) (by kernel_rfl) (zOd fuel)
theorem zBN (fuel : Nat) : EntryOK Tryz.prog 75 (zk6 fuel).te := EntryOK.tf rfl (zOe fuel) (isFn (fn := Tryz.f75) (by kernel_rfl) (by kernel_rfl) (by kernel_rfl))
end Go.Proofs.YtdgdoeknpakmlaaGreat.Den
namespace Go.Proofs.YtdgdoeknpakmlaaGreat.Den
open Go Go.RowKit
def zBO (fuel : Nat) : Tab := Tab.of [(82, (zei fuel).te), (104, (zmG fuel).te), (233, (zm0 fuel).te), (235, (zm8 fuel).te), (237, (znO fuel).te), (239, (znZ fuel).te)] [(27, "loop.example/inkling/impl.with", 233), (29, "loop.example/inkling/impl.with", 235), (32, "loop.example/inkling/impl.with", 237), (35, "loop.example/inkling/impl.with", 239)]
abbrev zqf : Sh := (.agg (.cell (Kd.list (Kd.list I6)) 0 (.cell (Kd.list I6) 0 (.cell (Kd.list KP) 0 (.cell I6 0 (.cell I6 0 (.cell (Kd.list KP) 0 (.cell I6 0 .nil))))))) (.cell I6 0 .nil))
abbrev zBP : Sh := (.agg (.nls (.nls (.nls (.cell I6 0 (.cell I6 0 (.nls (.cell I6 0 .nil))))))) (.cell Kd.bool 0 .nil))
def zBQ : List Norm := [{ live := [14, 13, 1, 4, 6], fix := [] }]
noncomputable def zBR : C := irOf Tryz.prog Tryz.f80 [] zBQ []
theorem zOf : lightC Tryz.prog [] Tryz.f80.ntmps zBQ [] 0 (bodyOf Tryz.f80) = some (zBR, 1) := by kernel_rfl
def zBS : List (Nat × Option (Nat × Bool)) := [(4, some (7, true)), (5, none)]
def zqg (fuel : Nat) (x0 : List (List Int)) (x1 : List Int) (x2 : LP) (x3 : Int) (x4 : Int) (x5 : LP) (x6 : Int) (x7 : Int) : Option ((Int × (Int × (Int × Unit))) × (Bool × Unit)) :=
 Option.bind (zaw fuel ((x0, x1, x2, x3, x4, x5, x6, ()), ())) fun y_1 =>
 Option.bind (ziy fuel ((y_1.1.1.1.1, ()), x7, ())) fun y_2 =>
 cond (!y_2.2.1)
 (some ((((0 : Int), (0 : Int), (0 : Int), ()), false, ())))
 (Option.bind (zm7 fuel ((y_1.1.2.1.1.1, ()), x7, ())) fun y_4 =>
 cond (!y_4.2.1)
 (some ((((0 : Int), (0 : Int), (0 : Int), ()), false, ())))
 (Option.bind (znN fuel ((y_1.1.2.2.1.1.1, y_1.1.2.2.1.1.2.1, y_1.1.2.2.1.1.2.2.1, ()), x7, ())) fun y_6 =>
 cond (!y_6.2.1)
 (some ((((0 : Int), (0 : Int), (0 : Int), ()), false, ())))
 (Option.bind (znY fuel ((y_1.1.2.2.2.1.1.1, y_1.1.2.2.2.1.1.2.1, ()), x7, ())) fun y_8 =>
 cond (!y_8.2.1)
 (some ((((0 : Int), (0 : Int), (0 : Int), ()), false, ())))
 (Option.bind (zmF fuel ((((y_2.1.1.1, ()), ()), ((y_4.1.1.1, ()), ()), ((y_6.1.1.1, y_6.1.1.2.1, y_6.1.1.2.2.1, ()), ()), ((y_8.1.1.1, y_8.1.1.2.1, ()), ()), ()), ())) fun y_10 =>
 none))))
def zk7 (fuel : Nat) (x : (SumY × (Int × Unit))) : Option ((Int × (Int × (Int × Unit))) × (Bool × Unit)) := zqg fuel x.1.1 x.1.2.1 x.1.2.2.1 x.1.2.2.2.1 x.1.2.2.2.2.1 x.1.2.2.2.2.2.1 x.1.2.2.2.2.2.2.1 x.2.1
theorem zOg (fuel : Nat) (x : Sh.T zqf) : run (zBO fuel) 0 (fuel + 6) zBR (env0 (svS zqf x) 0) [] (endG zBS zBP) = zk7 fuel x := by kernel_rfl
def zqh (fuel : Nat) : TG := ⟨zqf, zBP, true, zk7 fuel⟩
theorem zOh (fuel : Nat) : FnSpecG Tryz.prog 80 (zqh fuel) :=
  zd (T := zBO fuel) (c := bodyOf Tryz.f80) (fn := Tryz.f80) (TabOK.of (entCons (zmD fuel) (entCons (zGJ fuel) (entCons (zHq fuel) (entCons (zHG fuel) (entCons (zJa fuel) (entCons (zJy fuel) entNil)))))) (methCons (fun v args w => by kernel_rfl) (methCons (fun v args w => by kernel_rfl) (methCons (fun v args w => by kernel_rfl) (methCons (fun v args w => by kernel_rfl) (methNil)))))) mixed (by kernel_rfl) (by kernel_rfl) zOf (by kernel_rfl) (Nat.le_of_ble_eq_true (by kernel_rfl)) (rv := zBS) (by kernel_rfl) (fun x y h => (zOg fuel x).trans h)
theorem zOi (fuel : Nat) : EntryOK Tryz.prog 80 (zqh fuel).te := EntryOK.tg rfl (zOh fuel) (isFn (fn := Tryz.f80) (by kernel_rfl) (by kernel_rfl) (by kernel_rfl))
def zBT (fuel : Nat) : Tab := Tab.of [(34, (zjr fuel).te), (80, (zqh fuel).te)] []
abbrev zqi : Sh := (.agg (.cell (Kd.list (Kd.list I6)) 0 (.cell (Kd.list I6) 0 (.cell (Kd.list KP) 0 (.cell I6 0 (.cell I6 0 (.cell (Kd.list KP) 0 (.cell I6 0 .nil))))))) (.cell I6 0 .nil))
abbrev zBU : Sh := (.agg (.nls (.nls (.nls (.cell I6 0 (.cell I6 0 (.nls (.cell I6 0 .nil))))))) (.cell Kd.bool 0 .nil))
def zBV : List Norm := []
noncomputable def zBW : C := irOf Tryz.prog Tryz.f37 [] zBV []
theorem zOj : lightC Tryz.prog [] Tryz.f37.ntmps zBV [] 0 (bodyOf Tryz.f37) = some (zBW, 0) := by kernel_rfl
def zBX : List (Nat × Option (Nat × Bool)) := [(4, some (7, true)), (5, none)]
def zg9 (fuel : Nat) (x0 : List (List Int)) (x1 : List Int) (x2 : LP) (x3 : Int) (x4 : Int) (x5 : LP) (x6 : Int) (x7 : Int) : Option ((Int × (Int × (Int × Unit))) × (Bool × Unit)) :=
 Option.bind (zcl fuel ((x0, x1, x2, x3, x4, x5, x6, ()), ())) fun y_1 =>
 cond (!y_1.1.1)
 (some ((((0 : Int), (0 : Int), (0 : Int), ()), false, ())))
 (Option.bind (zk7 fuel ((x0, x1, x2, x3, x4, x5, x6, ()), x7, ())) fun y_3 =>
 some (((y_3.1.1, y_3.1.2.1, y_3.1.2.2.1, ()), y_3.2.1, ())))
def zha (fuel : Nat) (x : (SumY × (Int × Unit))) : Option ((Int × (Int × (Int × Unit))) × (Bool × Unit)) := zg9 fuel x.1.1 x.1.2.1 x.1.2.2.1 x.1.2.2.2.1 x.1.2.2.2.2.1 x.1.2.2.2.2.2.1 x.1.2.2.2.2.2.2.1 x.2.1
theorem zOk (fuel : Nat) (x : Sh.T zqi) : run (zBT fuel) 0 fuel zBW (env0 (svS zqi x) 0) [] (endG zBX zBU) = zha fuel x := by kernel_rfl
def zqj (fuel : Nat) : TG := ⟨zqi, zBU, true, zha fuel⟩
theorem zOl (fuel : Nat) : FnSpecG Tryz.prog 37 (zqj fuel) :=
  zd (T := zBT fuel) (c := bodyOf Tryz.f37) (fn := Tryz.f37) (TabOK.of (entCons (zwX fuel) (entCons (zOi fuel) entNil)) (methNil)) mixed (by kernel_rfl) (by kernel_rfl) zOj (by kernel_rfl) (Nat.le_of_ble_eq_true (by kernel_rfl)) (rv := zBX) (by kernel_rfl) (fun x y h => (zOk fuel x).trans h)
theorem zOm (fuel : Nat) : EntryOK Tryz.prog 37 (zqj fuel).te := EntryOK.tg rfl (zOl fuel) (isFn (fn := Tryz.f37) (by kernel_rfl) (by kernel_rfl) (by kernel_rfl))
end Go.Proofs.YtdgdoeknpakmlaaGreat.Den
namespace Go.Proofs.YtdgdoeknpakmlaaGreat.Den
open Go Go.RowKit
noncomputable def zBY (fuel : Nat) : Tab := Tab.ofI [(37, (zpw fuel).te), (61, (zig fuel).te), (69, (zj3 fuel).te), (73, (zkC fuel).te), (74, (zkN fuel).te), (75, (zk6 fuel).te)] [] [(72, zpx fuel), (75, zpZ fuel)]
abbrev zk8 : List Pm := [{ cs := [(Kd.list (Kd.list I6), false), (Kd.list I6, false), (Kd.list KP, false), (I6, false), (I6, false), (Kd.list KP, false), (I6, false)], ag := true }, { cs := [(I6, false)], ag := false }]
abbrev zBZ : List Pm := [{ cs := [(Kd.bool, false)], ag := false }]
def zB0 : List Norm := []
noncomputable def zB1 : C := irOf Tryz.prog Tryz.f27 [29, 52, 68] zB0 []
theorem zOn : lightC Tryz.prog [29, 52, 68] Tryz.f27.ntmps zB0 [] 0 (bodyOf Tryz.f27) = some (zB1, 0) := by kernel_rfl
def zB2 : List (Nat × Option (Nat × Bool)) := [(4, none)]
def zqk (fuel : Nat) (x0 : List (List Int)) (x1 : List Int) (x2 : LP) (x3 : Int) (x4 : Int) (x5 : LP) (x6 : Int) (x7 : Int) : Option ((Bool × Unit) × Unit) :=
 Option.bind (zgT fuel ((x0, x1, x2, x3, x4, x5, x6, ()), ((1048576 : Int), ()), ())) fun y_1 =>
 cond (decide (y_1.1.1 < (0 : Int)))
 (some (((true, ()), ())))
 (Option.bind (zam fuel ((x0, x1, x2, x3, x4, x5, x6, ()), ())) fun y_3 =>
 Option.bind (zbI fuel ((y_3.1.1, y_3.1.2.1, y_3.1.2.2.1, y_3.1.2.2.2.1, y_3.1.2.2.2.2.1, y_3.1.2.2.2.2.2.1, y_3.1.2.2.2.2.2.2.1, ()), (x7, ()), ())) fun y_4 =>
 Option.bind (zbc fuel (x0, ())) fun y_5 =>
 Option.bind (zY fuel ((x1, ()), ())) fun y_6 =>
 Option.bind (zcL fuel ((x2, ()), ())) fun y_7 =>
 Option.bind (zcN fuel ((x5, ()), ())) fun y_8 =>
 Option.bind (zgM fuel ((List.map (fun xs => xs) y_5, y_6.1.1, y_7.1.1, x3, x4, y_8.1.1, x6, ()), x7, ())) fun y_9 =>
 Option.bind (zu fuel (([List.getD y_9.1.1 0 [], List.getD y_9.1.1 1 [], List.getD y_9.1.1 2 []], y_9.1.2.1, y_9.1.2.2.1, y_9.1.2.2.2.1, y_9.1.2.2.2.2.1, y_9.1.2.2.2.2.2.1, y_9.1.2.2.2.2.2.2.1, ()), (y_4.1.1, y_4.1.2.1, y_4.1.2.2.1, y_4.1.2.2.2.1, y_4.1.2.2.2.2.1, y_4.1.2.2.2.2.2.1, y_4.1.2.2.2.2.2.2.1, ()), ())) fun y_10 =>
 cond (!y_10.1.1)
 (some (((false, ()), ())))
 (cond (!y_9.2.1 == y_4.2.1.1)
 (some (((false, ()), ())))
 (Option.bind (zam fuel ((x0, x1, x2, x3, x4, x5, x6, ()), ())) fun y_13 =>
 Option.bind (zu fuel ((List.map (fun xs => xs) y_5, y_6.1.1, y_7.1.1, x3, x4, y_8.1.1, x6, ()), (y_13.1.1, y_13.1.2.1, y_13.1.2.2.1, y_13.1.2.2.2.1, y_13.1.2.2.2.2.1, y_13.1.2.2.2.2.2.1, y_13.1.2.2.2.2.2.2.1, ()), ())) fun y_14 =>
 cond (!y_14.1.1)
 (some (((false, ()), ())))
 (Option.bind (zaG fuel (y_5, (1 : Int))) fun y_16 =>
 Option.bind (zJ fuel (y_6.1.1, (), (y_16.2, ()), ())) fun y_17 =>
 Option.bind (zcw fuel (y_7.1.1, (), (y_17.2.1.1, ()), ())) fun y_18 =>
 Option.bind (zcz fuel (y_8.1.1, (), (y_18.2.1.1, ()), ())) fun y_19 =>
 cond (decide (y_19.2.1.1 < (0 : Int)))
 (some (((false, ()), ())))
 (Option.bind (zu fuel (([List.getD y_9.1.1 0 [], List.getD y_9.1.1 1 [], List.getD y_9.1.1 2 []], y_9.1.2.1, y_9.1.2.2.1, y_9.1.2.2.2.1, y_9.1.2.2.2.2.1, y_9.1.2.2.2.2.2.1, y_9.1.2.2.2.2.2.2.1, ()), (y_4.1.1, y_4.1.2.1, y_4.1.2.2.1, y_4.1.2.2.2.1, y_4.1.2.2.2.2.1, y_4.1.2.2.2.2.2.1, y_4.1.2.2.2.2.2.2.1, ()), ())) fun y_21 =>
 cond (!y_21.1.1)
 (some (((false, ()), ())))
 (cond (!y_9.2.1 == y_4.2.1.1)
 (some (((false, ()), ())))
 (Option.bind (zJ fuel (List.getD y_9.1.1 0 [], (), ((1 : Int), ()), ())) fun y_24 =>
 Option.bind (zJ fuel (List.getD y_9.1.1 1 [], (), (y_24.2.1.1, ()), ())) fun y_25 =>
 Option.bind (zJ fuel (List.getD y_9.1.1 2 [], (), (y_25.2.1.1, ()), ())) fun y_26 =>
 Option.bind (zJ fuel (y_9.1.2.1, (), (y_26.2.1.1, ()), ())) fun y_27 =>
 Option.bind (zcw fuel (y_9.1.2.2.1, (), (y_27.2.1.1, ()), ())) fun y_28 =>
 Option.bind (zcz fuel (y_9.1.2.2.2.2.2.1, (), (y_28.2.1.1, ()), ())) fun y_29 =>
 Option.bind (zaF fuel (([y_24.1, y_25.1, y_26.1], y_27.1, y_28.1, y_9.1.2.2.2.1, y_9.1.2.2.2.2.1, y_29.1, y_9.1.2.2.2.2.2.2.1, ()), ((1 : Int), ()), ())) fun y_30 =>
 cond (decide (y_30.1.1 < (0 : Int)))
 (some (((false, ()), ())))
 (cond (y_30.1.1 != y_29.2.1.1)
 (some (((false, ()), ())))
 (Option.bind (zam fuel ((x0, x1, x2, x3, x4, x5, x6, ()), ())) fun y_33 =>
 Option.bind (zgM fuel ((y_33.1.1, y_33.1.2.1, y_33.1.2.2.1, y_33.1.2.2.2.1, y_33.1.2.2.2.2.1, y_33.1.2.2.2.2.2.1, y_33.1.2.2.2.2.2.2.1, ()), x7, ())) fun y_34 =>
 Option.bind (zu fuel (([List.getD y_34.1.1 0 [], List.getD y_34.1.1 1 [], List.getD y_34.1.1 2 []], y_34.1.2.1, y_34.1.2.2.1, y_34.1.2.2.2.1, y_34.1.2.2.2.2.1, y_34.1.2.2.2.2.2.1, y_34.1.2.2.2.2.2.2.1, ()), (y_4.1.1, y_4.1.2.1, y_4.1.2.2.1, y_4.1.2.2.2.1, y_4.1.2.2.2.2.1, y_4.1.2.2.2.2.2.1, y_4.1.2.2.2.2.2.2.1, ()), ())) fun y_35 =>
 cond (!y_35.1.1)
 (some (((false, ()), ())))
 (cond (!y_34.2.1 == y_4.2.1.1)
 (some (((false, ()), ())))
 (Option.bind (zaF fuel (([y_24.1, y_25.1, y_26.1], y_27.1, y_28.1, y_9.1.2.2.2.1, y_9.1.2.2.2.2.1, y_29.1, y_9.1.2.2.2.2.2.2.1, ()), ((1 : Int), ()), ())) fun y_38 =>
 cond (decide (y_38.1.1 < (0 : Int)))
 (some (((false, ()), ())))
 (cond (y_38.1.1 != y_29.2.1.1)
 (some (((false, ()), ())))
 (some (((true, ()), ())))))))))))))))
def zk9 (fuel : Nat) (x : (SumY × ((Int × Unit) × Unit))) : Option ((Bool × Unit) × Unit) := zqk fuel x.1.1 x.1.2.1 x.1.2.2.1 x.1.2.2.2.1 x.1.2.2.2.2.1 x.1.2.2.2.2.2.1 x.1.2.2.2.2.2.2.1 x.2.1.1
theorem zOo (fuel : Nat) (x : PsT zk8) : run (zBY fuel) 0 fuel zB1 (env0 (svPs zk8 x) 0) [] (endF zB2 zBZ) = zk9 fuel x := by kernel_rfl
def zOp (fuel : Nat) : TF := ⟨zk8, zBZ, true, zk9 fuel⟩
theorem zOq (fuel : Nat) : FnSpec Tryz.prog 27 (zOp fuel) :=
  fn_spec (T := zBY fuel) (c := bodyOf Tryz.f27) (fn := Tryz.f27) (TabOK.ofI (entCons (zMM fuel) (entCons (ztd fuel) (entCons (zyz fuel) (entCons (zzH fuel) (entCons (zAG fuel) (entCons (zBN fuel) entNil)))))) (methNil) (inlCons (zzY fuel) (inlCons (zBl fuel) (inlNil)))) mixed (by kernel_rfl) (by kernel_rfl) zOn (by kernel_rfl) (Nat.le_of_ble_eq_true (by kernel_rfl)) (rv := zB2) (by kernel_rfl) (zOo fuel)
noncomputable def zB3 (fuel : Nat) : Tab := Tab.ofI [(37, (zqj fuel).te), (61, (zig fuel).te), (69, (zj3 fuel).te), (73, (zkC fuel).te), (74, (zkN fuel).te), (75, (zk6 fuel).te)] [] [(72, zpx fuel), (75, zpZ fuel)]
abbrev zla : List Pm := [{ cs := [(Kd.list (Kd.list I6), false), (Kd.list I6, false), (Kd.list KP, false), (I6, false), (I6, false), (Kd.list KP, false), (I6, false)], ag := true }, { cs := [(I6, false)], ag := false }]
abbrev zB4 : List Pm := [{ cs := [(Kd.bool, false)], ag := false }]
def zB5 : List Norm := []
noncomputable def zB6 : C := irOf Tryz.prog Tryz.f27 [29, 52, 68] zB5 []
theorem zOr : lightC Tryz.prog [29, 52, 68] Tryz.f27.ntmps zB5 [] 0 (bodyOf Tryz.f27) = some (zB6, 0) := by kernel_rfl
def zB7 : List (Nat × Option (Nat × Bool)) := [(4, none)]
def zql (fuel : Nat) (x0 : List (List Int)) (x1 : List Int) (x2 : LP) (x3 : Int) (x4 : Int) (x5 : LP) (x6 : Int) (x7 : Int) : Option ((Bool × Unit) × Unit) :=
 Option.bind (zgT fuel ((x0, x1, x2, x3, x4, x5, x6, ()), ((1048576 : Int), ()), ())) fun y_1 =>
 cond (decide (y_1.1.1 < (0 : Int)))
 (some (((true, ()), ())))
 (Option.bind (zam fuel ((x0, x1, x2, x3, x4, x5, x6, ()), ())) fun y_3 =>
 Option.bind (zbI fuel ((y_3.1.1, y_3.1.2.1, y_3.1.2.2.1, y_3.1.2.2.2.1, y_3.1.2.2.2.2.1, y_3.1.2.2.2.2.2.1, y_3.1.2.2.2.2.2.2.1, ()), (x7, ()), ())) fun y_4 =>
 Option.bind (zbc fuel (x0, ())) fun y_5 =>
 Option.bind (zY fuel ((x1, ()), ())) fun y_6 =>
 Option.bind (zcL fuel ((x2, ()), ())) fun y_7 =>
 Option.bind (zcN fuel ((x5, ()), ())) fun y_8 =>
 Option.bind (zha fuel ((List.map (fun xs => xs) y_5, y_6.1.1, y_7.1.1, x3, x4, y_8.1.1, x6, ()), x7, ())) fun y_9 =>
 Option.bind (zu fuel (([], [], [], y_9.1.1, y_9.1.2.1, [], y_9.1.2.2.1, ()), (y_4.1.1, y_4.1.2.1, y_4.1.2.2.1, y_4.1.2.2.2.1, y_4.1.2.2.2.2.1, y_4.1.2.2.2.2.2.1, y_4.1.2.2.2.2.2.2.1, ()), ())) fun y_10 =>
 cond (!y_10.1.1)
 (some (((false, ()), ())))
 (cond (!y_9.2.1 == y_4.2.1.1)
 (some (((false, ()), ())))
 (Option.bind (zam fuel ((x0, x1, x2, x3, x4, x5, x6, ()), ())) fun y_13 =>
 Option.bind (zu fuel ((List.map (fun xs => xs) y_5, y_6.1.1, y_7.1.1, x3, x4, y_8.1.1, x6, ()), (y_13.1.1, y_13.1.2.1, y_13.1.2.2.1, y_13.1.2.2.2.1, y_13.1.2.2.2.2.1, y_13.1.2.2.2.2.2.1, y_13.1.2.2.2.2.2.2.1, ()), ())) fun y_14 =>
 cond (!y_14.1.1)
 (some (((false, ()), ())))
 (Option.bind (zaG fuel (y_5, (1 : Int))) fun y_16 =>
 Option.bind (zJ fuel (y_6.1.1, (), (y_16.2, ()), ())) fun y_17 =>
 Option.bind (zcw fuel (y_7.1.1, (), (y_17.2.1.1, ()), ())) fun y_18 =>
 Option.bind (zcz fuel (y_8.1.1, (), (y_18.2.1.1, ()), ())) fun y_19 =>
 cond (decide (y_19.2.1.1 < (0 : Int)))
 (some (((false, ()), ())))
 (Option.bind (zu fuel (([], [], [], y_9.1.1, y_9.1.2.1, [], y_9.1.2.2.1, ()), (y_4.1.1, y_4.1.2.1, y_4.1.2.2.1, y_4.1.2.2.2.1, y_4.1.2.2.2.2.1, y_4.1.2.2.2.2.2.1, y_4.1.2.2.2.2.2.2.1, ()), ())) fun y_21 =>
 cond (!y_21.1.1)
 (some (((false, ()), ())))
 (cond (!y_9.2.1 == y_4.2.1.1)
 (some (((false, ()), ())))
 (Option.bind (zj8 fuel ((1 : Int), ())) fun y_24 =>
 Option.bind (zkd fuel (y_24.1, ())) fun y_25 =>
 Option.bind (zki fuel (y_25.1, ())) fun y_26 =>
 Option.bind (zaF fuel (([], [], [], y_9.1.1, y_9.1.2.1, [], y_9.1.2.2.1, ()), ((1 : Int), ()), ())) fun y_27 =>
 cond (decide (y_27.1.1 < (0 : Int)))
 (some (((false, ()), ())))
 (cond (y_27.1.1 != y_26.1)
 (some (((false, ()), ())))
 (Option.bind (zam fuel ((x0, x1, x2, x3, x4, x5, x6, ()), ())) fun y_30 =>
 Option.bind (zha fuel ((y_30.1.1, y_30.1.2.1, y_30.1.2.2.1, y_30.1.2.2.2.1, y_30.1.2.2.2.2.1, y_30.1.2.2.2.2.2.1, y_30.1.2.2.2.2.2.2.1, ()), x7, ())) fun y_31 =>
 Option.bind (zu fuel (([], [], [], y_31.1.1, y_31.1.2.1, [], y_31.1.2.2.1, ()), (y_4.1.1, y_4.1.2.1, y_4.1.2.2.1, y_4.1.2.2.2.1, y_4.1.2.2.2.2.1, y_4.1.2.2.2.2.2.1, y_4.1.2.2.2.2.2.2.1, ()), ())) fun y_32 =>
 cond (!y_32.1.1)
 (some (((false, ()), ())))
 (cond (!y_31.2.1 == y_4.2.1.1)
 (some (((false, ()), ())))
 (Option.bind (zaF fuel (([], [], [], y_9.1.1, y_9.1.2.1, [], y_9.1.2.2.1, ()), ((1 : Int), ()), ())) fun y_35 =>
 cond (decide (y_35.1.1 < (0 : Int)))
 (some (((false, ()), ())))
 (cond (y_35.1.1 != y_26.1)
 (some (((false, ()), ())))
 (some (((true, ()), ())))))))))))))))
def zlb (fuel : Nat) (x : (SumY × ((Int × Unit) × Unit))) : Option ((Bool × Unit) × Unit) := zql fuel x.1.1 x.1.2.1 x.1.2.2.1 x.1.2.2.2.1 x.1.2.2.2.2.1 x.1.2.2.2.2.2.1 x.1.2.2.2.2.2.2.1 x.2.1.1
theorem zOs (fuel : Nat) (x : PsT zla) : run (zB3 fuel) 0 fuel zB6 (env0 (svPs zla x) 0) [] (endF zB7 zB4) = zlb fuel x := by kernel_rfl
def zOt (fuel : Nat) : TF := ⟨zla, zB4, true, zlb fuel⟩
theorem zOu (fuel : Nat) : FnSpec Tryz.prog 27 (zOt fuel) :=
  fn_spec (T := zB3 fuel) (c := bodyOf Tryz.f27) (fn := Tryz.f27) (TabOK.ofI (entCons (zOm fuel) (entCons (ztd fuel) (entCons (zyz fuel) (entCons (zzH fuel) (entCons (zAG fuel) (entCons (zBN fuel) entNil)))))) (methNil) (inlCons (zzY fuel) (inlCons (zBl fuel) (inlNil)))) mixed (by kernel_rfl) (by kernel_rfl) zOr (by kernel_rfl) (Nat.le_of_ble_eq_true (by kernel_rfl)) (rv := zB7) (by kernel_rfl) (zOs fuel)
end Go.Proofs.YtdgdoeknpakmlaaGreat.Den


namespace Go.Proofs.YtdgdoeknpakmlaaGreat.Den
open Go
abbrev Knot := Int × Int × Unit
theorem in_eq (f : Nat) (n lo hi : Int) : zf f ((n, ()), (lo, ()), (hi, ()), ()) = some ((decide (lo ≤ n ∧ n ≤ hi), ()), ()) := by
  unfold zf zrz
  by_cases h : lo ≤ n
  · simp [h]
  · simp [h]
theorem zDp (f : Nat) (n : Int) : zo f ((n, ()), ()) = some ((decide (0 ≤ n ∧ n ≤ 63), ()), ()) := by
  unfold zo zrL
  by_cases h : 0 ≤ n
  · have e : (n < 64) ↔ (n ≤ 63) := by omega
    simp [h, e]
  · simp [h]
def okGo (all : Int) : List Knot → Int → Int → Bool
  | [], _, sum => sum == all
  | k :: r, before, sum => if k.1 ≤ before ∨ 128 ≤ k.1 ∨ k.2.1 < 1 ∨ 2000 < k.2.1 ∨ (k.1 < 64 ∧ w64 (all.tdiv 8) < k.2.1) then false else okGo all r k.1 (w64 (sum + k.2.1))
def okB (ks : List Knot) (all : Int) : Bool := if all < 0 ∨ 2000 < all then false else okGo all ks 0 0
theorem zcZ {α : Type} {ks : List α} {i : Nat} (d : α) (h : i < ks.length) : ks.drop i = ks.getD i d :: ks.drop (i + 1) := by
  rw [List.drop_eq_getElem_cons h, List.getD_eq_getElem?_getD, List.getElem?_eq_getElem h]; rfl
theorem zB8 (f : Nat) (ks : List Knot) (all : Int) (hl : ks.length < 4294967296) : ∀ (d i : Nat) (before sum : Int) (fuel : Nat), i + d = ks.length → d < fuel →
    iter (zhF f) fuel ((i : Int), (ks.length : Int), ks, before, sum, ks, all) = some ((okGo all (ks.drop i) before sum, ()), ())
  | 0, i, before, sum, fuel + 1, hi, hf => by
    rw [iter]
    show zdf f _ _ = _
    unfold zdf
    have h1 : ¬ ((i : Int) < (ks.length : Int)) := by omega
    have h2 : ks.drop i = [] := List.drop_eq_nil_of_le (by omega)
    simp [h1, h2, okGo]
  | d + 1, i, before, sum, fuel + 1, hi, hf => by
    rw [iter]
    show zdf f _ _ = _
    unfold zdf
    have h1 : (i : Int) < (ks.length : Int) := by omega
    have h2 : (0 : Int) ≤ (i : Int) := by omega
    have h3 : w64 ((i : Int) + 1) = (i : Int) + 1 := by rw [w64_id] <;> omega
    have ih : ∀ before sum, iter (zhF f) fuel ((i : Int) + 1, (ks.length : Int), ks, before, sum, ks, all) = some ((okGo all (ks.drop (i + 1)) before sum, ()), ()) := fun b s => by
      exact_mod_cast zB8 f ks all hl d (i + 1) b s fuel (by omega) (by omega)
    rw [zcZ (0, 0, ()) (show i < ks.length by omega)]
    simp only [h1, h2, h3, zz_eq, Int.toNat_natCast, decide_true, cond_true]
    obtain ⟨k, hk⟩ : ∃ k : Knot, ks.getD i (0, 0, ()) = k := ⟨_, rfl⟩
    simp only [hk]
    unfold okGo
    by_cases c1 : k.1 ≤ before
    · simp [c1]
    by_cases c2 : 128 ≤ k.1
    · simp [c1, c2]
    by_cases c3 : k.2.1 < 1
    · simp [c1, c2, c3]
    by_cases c4 : 2000 < k.2.1
    · simp [c1, c2, c3, c4]
    by_cases c5 : k.1 < 64
    · by_cases c6 : w64 (all.tdiv 8) < k.2.1
      · simp [c1, c2, c3, c4, c5, c6]
      · simp [c1, c2, c3, c4, c5, c6, ih]
    · simp [c1, c2, c3, c4, c5, ih]
theorem zDq (f : Nat) (ks : List Knot) (all : Int) (hl : ks.length < 4294967296) (hf : ks.length < f) : zbn f ((ks, all, ()), ()) = some ((okB ks all, ()), ()) := by
  unfold zbn zlR okB
  by_cases c1 : all < 0
  · simp [c1]
  by_cases c2 : 2000 < all
  · simp [c1, c2]
  have := zB8 f ks all hl ks.length 0 0 0 f (by omega) hf
  simp [c1, c2, zz_eq]
  simpa using this
theorem zB9 (f : Nat) (ks : List Knot) (all : Int) (hl : ks.length < 4294967296) : ∀ (d i : Nat) (before sum : Int) (fuel : Nat), i + d = ks.length → (i = 0 → before = 0) → (0 < i → before = (ks.getD (i - 1) (0, 0, ())).1 ∧ 1 ≤ before) → d < fuel →
    iter (zhC f) fuel ((i : Int), sum, ks, all) = some ((okGo all (ks.drop i) before sum, ()), ())
  | 0, i, before, sum, fuel + 1, hi, hb0, hb1, hf => by
    rw [iter]
    show zda f _ _ = _
    unfold zda
    have h1 : ¬ ((i : Int) < (ks.length : Int)) := by omega
    have h2 : ks.drop i = [] := List.drop_eq_nil_of_le (by omega)
    simp [h1, h2, okGo, zz_eq]
  | d + 1, i, before, sum, fuel + 1, hi, hb0, hb1, hf => by
    rw [iter]
    show zda f _ _ = _
    unfold zda
    have h1 : (i : Int) < (ks.length : Int) := by omega
    have h2 : (0 : Int) ≤ (i : Int) := by omega
    have h3 : w64 ((i : Int) + 1) = (i : Int) + 1 := by rw [w64_id] <;> omega
    have ih : ∀ sum, 1 ≤ (ks.getD i (0, 0, ())).1 → iter (zhC f) fuel ((i : Int) + 1, sum, ks, all) = some ((okGo all (ks.drop (i + 1)) (ks.getD i (0, 0, ())).1 sum, ()), ()) := fun sum h => by
      exact_mod_cast zB9 f ks all hl d (i + 1) _ sum fuel (by omega) (by omega) (fun _ => ⟨rfl, h⟩) (by omega)
    rw [zcZ (0, 0, ()) (show i < ks.length by omega)]
    simp only [h1, h2, h3, zz_eq, Int.toNat_natCast, decide_true, cond_true, in_eq, Option.bind_some]
    have hpos : (decide ((i : Int) > 0) = true → 0 < i ∧ (0 : Int) ≤ w64 ((i : Int) - 1) ∧ w64 ((i : Int) - 1) < (ks.length : Int) ∧ (w64 ((i : Int) - 1)).toNat = i - 1) := by
      intro h
      have h0 : 0 < i := by simpa using h
      have e : w64 ((i : Int) - 1) = ((i - 1 : Nat) : Int) := by rw [w64_id] <;> omega
      rw [e]; omega
    obtain ⟨k, hk⟩ : ∃ k : Knot, ks.getD i (0, 0, ()) = k := ⟨_, rfl⟩
    simp only [hk] at ih ⊢
    unfold okGo
    by_cases c1 : 1 ≤ k.1 ∧ k.1 ≤ 127
    · by_cases c2 : 1 ≤ k.2.1 ∧ k.2.1 ≤ 2000
      · have d2 : ¬ 128 ≤ k.1 := by omega
        have d3 : ¬ k.2.1 < 1 := by omega
        have d4 : ¬ 2000 < k.2.1 := by omega
        have ih' := fun s => ih s c1.1
        simp only [c1, c2, and_self, decide_true, Bool.not_true, cond_false, d2, d3, d4, false_or]
        cases hz : decide ((i : Int) > 0) with
        | true =>
          obtain ⟨g0, g1, g2, g3⟩ := hpos hz
          obtain ⟨g4, g5⟩ := hb1 g0
          simp only [cond_true, g1, g2, g3, decide_true, ← g4]
          by_cases c3 : k.1 ≤ before
          · simp [c3]
          · by_cases c5 : k.1 < 64
            · by_cases c6 : w64 (all.tdiv 8) < k.2.1
              · simp [c3, c5, c6]
              · simp [c3, c5, c6, ih']
            · simp [c3, c5, ih']
        | false =>
          have g0 : i = 0 := by have : ¬ (i : Int) > 0 := of_decide_eq_false hz; omega
          have g1 := hb0 g0
          have c3 : ¬ k.1 ≤ before := by omega
          by_cases c5 : k.1 < 64
          · by_cases c6 : w64 (all.tdiv 8) < k.2.1
            · simp [c3, c5, c6]
            · simp [c3, c5, c6, ih']
          · simp [c3, c5, ih']
      · have : k.1 ≤ before ∨ 128 ≤ k.1 ∨ k.2.1 < 1 ∨ 2000 < k.2.1 ∨ (k.1 < 64 ∧ w64 (all.tdiv 8) < k.2.1) := by omega
        simp [c1, c2, this]
    · have hbp : 0 ≤ before := by
        rcases Nat.eq_zero_or_pos i with h | h
        · rw [hb0 h]; omega
        · have := (hb1 h).2; omega
      have : k.1 ≤ before ∨ 128 ≤ k.1 ∨ k.2.1 < 1 ∨ 2000 < k.2.1 ∨ (k.1 < 64 ∧ w64 (all.tdiv 8) < k.2.1) := by omega
      simp [c1, this]
theorem zDr (f : Nat) (ks : List Knot) (all : Int) (hl : ks.length < 4294967296) (hf : ks.length < f) : zbl f ((ks, all, ()), ()) = some ((okB ks all, ()), ()) := by
  unfold zbl zlQ okB
  simp only [in_eq, Option.bind_some]
  by_cases c : 0 ≤ all ∧ all ≤ 2000
  · have c1 : ¬ (all < 0 ∨ 2000 < all) := by omega
    have := zB9 f ks all hl ks.length 0 0 0 f (by omega) (fun _ => rfl) (by omega) hf
    simp only [c, c1, and_self, decide_true, Bool.not_true, cond_false, if_false]
    simpa using this
  · have c1 : all < 0 ∨ 2000 < all := by omega
    simp [c, c1]
end Go.Proofs.YtdgdoeknpakmlaaGreat.Den
namespace Go.Proofs.YtdgdoeknpakmlaaGreat.Den
open Go
def isum (l : List Int) : Int := l.foldl (fun s x => w64 (s + x)) 0
def rng (x : Int) : Bool := decide (0 ≤ x ∧ x ≤ 2000)
theorem isum_eq (f : Nat) (l : List Int) (hl : l.length < 4294967296) (hf : l.length < f) : zR f ((l, ()), ()) = some ((isum l, ()), ()) := by
  show iter (zhI f) f ((0 : Int), l, (0 : Int)) = _
  refine (zO (st := zhI f) (enc := fun i s => ((i : Int), l, s)) (fun x k s => k (w64 (s + x))) (fun s => some ((s, ()), ())) l 0 ?_ ?_ f 0 hf).trans (fold_go (fun s x => w64 (s + x)) (fun _ _ _ => rfl) l 0)
  · intro i s g hi
    show zdk f g _ = _
    unfold zdk
    simp only [zz_eq, lt_cast hi, le_cast, decide_true, cond_true, Int.toNat_natCast, w64_up (Nat.lt_trans hi hl)]
  · intro s g
    show zdk f g _ = _
    unfold zdk
    simp only [zz_eq, zc, decide_false, cond_false]
def rowB (row : List Int) : Bool := decide (row.length = 8) && (row.all rng && decide (isum row ≤ 2000))
def roughB (rs : List (List Int)) : Bool := decide (rs.length = 3) && rs.all fun row => rowB row && (isum row == isum (rs.getD 0 []))
theorem zq2 (f : Nat) (l : List Int) (hf : 8 < f) : zbK f ((l, ()), ()) = some (cond (decide (l.length = 8) && l.all rng) ((isum l, ()), (decide (isum l ≤ 2000), ()), ()) ((0, ()), (false, ()), ())) := by
  show zil f (iter (zik f) f) l = _
  unfold zil
  by_cases h : l.length = 8
  · have hl : l.length < 4294967296 := by omega
    have e : (zz l.length != (8 : Int)) = false := by simp [zz_eq, h]
    rw [e, cond_false, zz_eq]
    have := zO (st := zik f) (enc := fun i s => ((i : Int), (l.length : Int), l, s)) (fun x k s => cond (rng x) (k (w64 (s + x))) (some ((0, ()), (false, ()), ()))) (fun s => some ((s, ()), (decide (s ≤ 2000), ()), ())) l 0 ?_ ?_ f 0 (by omega)
    · refine this.trans ?_
      have : ∀ (l : List Int) (s : Int), goL (R := ((Int × Unit) × ((Bool × Unit) × Unit))) (fun x k s => cond (rng x) (k (w64 (s + x))) (some ((0, ()), (false, ()), ()))) (fun s => some ((s, ()), (decide (s ≤ 2000), ()), ())) l s = some (cond (l.all rng) ((l.foldl (fun s x => w64 (s + x)) s, ()), (decide (l.foldl (fun s x => w64 (s + x)) s ≤ 2000), ()), ()) ((0, ()), (false, ()), ())) := by
        intro l
        induction l with
        | nil => intro s; rfl
        | cons x l ih =>
          intro s
          show cond (rng x) (goL _ _ l _) _ = _
          rw [ih, List.all_cons]
          cases rng x <;> rfl
      rw [this]
      simp only [h, decide_true, Bool.true_and]
      rfl
    · intro i s g hi
      show zen f g _ = _
      unfold zen
      simp only [zz_eq, lt_cast hi, le_cast, decide_true, cond_true, Int.toNat_natCast, w64_up (Nat.lt_trans hi hl)]
      obtain ⟨x, hx⟩ : ∃ x : Int, l.getD i 0 = x := ⟨_, rfl⟩
      simp only [hx]
      unfold rng
      by_cases c1 : x < 0
      · have : ¬ (0 ≤ x ∧ x ≤ 2000) := by omega
        simp [c1, this]
      · by_cases c2 : x > 2000
        · have : ¬ (0 ≤ x ∧ x ≤ 2000) := by omega
          simp [c1, c2, this]
        · have : (0 ≤ x ∧ x ≤ 2000) := by omega
          simp [c1, c2, this]
    · intro s g
      show zen f g _ = _
      unfold zen
      simp only [zc, decide_false, cond_false]
  · have e : (zz l.length != (8 : Int)) = true := by simp [zz_eq]; omega
    rw [e, cond_true]
    simp [h]
theorem three {α : Type} {rs : List α} (h : rs.length = 3) : ∃ a b c, rs = [a, b, c] := by
  match rs, h with
  | [a, b, c], _ => exact ⟨a, b, c, rfl⟩
theorem zq3 (f : Nat) (rs : List (List Int)) (hf : 8 < f) : zaW f ((rs, ()), ()) = some ((roughB rs, ()), ()) := by
  show ziq f (iter (zio f) f) rs = _
  unfold ziq
  by_cases h : rs.length = 3
  · have e : ((rs.length : Int) != (3 : Int)) = false := by simp [h]
    have e0 : (0 : Int) < (rs.length : Int) := by omega
    simp only [zz_eq, e, cond_false, e0, decide_true, cond_true, zq2 f _ hf, Option.bind_some]
    obtain ⟨w, hw⟩ : ∃ w : Int, (cond (decide ((rs.getD (Int.toNat 0) []).length = 8) && (rs.getD (Int.toNat 0) []).all rng) ((isum (rs.getD (Int.toNat 0) []), ()), (decide (isum (rs.getD (Int.toNat 0) []) ≤ 2000), ()), ()) ((0, ()), (false, ()), ()) : ((Int × Unit) × ((Bool × Unit) × Unit))).fst.fst = w := ⟨_, rfl⟩
    rw [hw]
    have := zO (st := zio f) (enc := fun i (s : Unit) => ((i : Int), (rs.length : Int), rs, w)) (fun row k s => cond (rowB row && (isum row == w)) (k s) (some ((false, ()), ()))) (fun s => some ((true, ()), ())) rs [] ?_ ?_ f () (by omega)
    · refine this.trans ?_
      rw [all_go _ _ (fun _ _ _ => rfl)]
      obtain ⟨a, b, c, rfl⟩ := three h
      unfold roughB
      simp only [List.all_cons, List.all_nil, List.getD_cons_zero, Int.toNat_zero, decide_true, Bool.true_and, List.length_cons, List.length_nil, Bool.and_true] at hw ⊢
      by_cases ha : rowB a = true
      · have ha' := ha
        unfold rowB at ha'
        have : (decide (a.length = 8) && a.all rng) = true := by
          revert ha'; cases decide (a.length = 8) <;> cases a.all rng <;> simp
        rw [this, cond_true] at hw
        rw [← hw, ha]
        simp only [beq_self_eq_true, Bool.and_self, Bool.true_and]
        cases (rowB b && (isum b == isum a)) <;> cases (rowB c && (isum c == isum a)) <;> rfl
      · have : rowB a = false := by simpa using ha
        simp [this]
    · intro i s g hi
      show zes f g _ = _
      unfold zes
      simp only [zz_eq, lt_cast hi, le_cast, decide_true, cond_true, Int.toNat_natCast, w64_up (show i < 4294967296 by omega), zq2 f _ hf, Option.bind_some]
      obtain ⟨x, hx⟩ : ∃ x : List Int, rs.getD i [] = x := ⟨_, rfl⟩
      simp only [hx]
      unfold rowB
      rw [← Bool.and_assoc]
      cases (decide (x.length = 8) && x.all rng) with
      | false => rfl
      | true =>
        simp only [cond_true, bne]
        cases decide (isum x ≤ 2000) <;> cases (isum x == w) <;> rfl
    · intro s g
      show zes f g _ = _
      unfold zes
      simp only [zc, decide_false, cond_false]
  · have e : (zz rs.length != (3 : Int)) = true := by simp [zz_eq]; omega
    rw [e, cond_true]
    unfold roughB
    simp [h]
theorem zq4 (f : Nat) (rs : List (List Int)) (hf : 8 < f) (hr : ∀ r ∈ rs, r.length < f ∧ r.length < 4294967296) : zbt f ((rs, ()), ()) = some ((roughB rs, ()), ()) := by
  show zhL f (iter (zhK f) f) rs = _
  unfold zhL
  by_cases h : rs.length = 3
  · have e : (zz rs.length != (3 : Int)) = false := by simp [zz_eq, h]
    rw [e, cond_false]
    have := zO (st := zhK f) (enc := fun i (s : Unit) => ((i : Int), rs)) (fun row k s => cond (rowB row && (isum row == isum (rs.getD 0 []))) (k s) (some ((false, ()), ()))) (fun s => some ((true, ()), ())) rs [] ?_ ?_ f () (by omega)
    · refine this.trans ?_
      rw [all_go _ _ (fun _ _ _ => rfl)]
      unfold roughB
      simp only [h, decide_true, Bool.true_and]
      cases (rs.all fun row => rowB row && (isum row == isum (rs.getD 0 []))) <;> rfl
    · intro i s g hi
      show zbs f _ g _ = _
      unfold zbs
      have l3 : (i : Int) < 3 := by omega
      simp only [zz_eq, lt_cast hi, l3, le_cast, decide_true, cond_true, Int.toNat_natCast]
      obtain ⟨x, hx⟩ : ∃ x : List Int, rs.getD i [] = x := ⟨_, rfl⟩
      simp only [hx]
      by_cases c1 : x.length = 8
      · have e8 : ((x.length : Int) != 8) = false := by simp [c1]
        rw [e8, cond_false]
        have := zO (st := zlU f g) (enc := fun k (s : Unit) => ((k : Int), (i : Int), rs)) (fun y k s => cond (rng y) (k s) (some ((false, ()), ()))) (fun s => cond (isum x == isum (rs.getD 0 []) && decide (isum x ≤ 2000)) (g (((i + 1 : Nat) : Int), rs)) (some ((false, ()), ()))) x 0 ?_ ?_ f () (by omega)
        · refine this.trans ?_
          rw [all_go _ _ (fun _ _ _ => rfl)]
          unfold rowB
          simp only [c1, decide_true, Bool.true_and]
          cases x.all rng <;> cases (isum x == isum (rs.getD 0 [])) <;> cases decide (isum x ≤ 2000) <;> rfl
        · intro k s g' hk
          show zbr f _ g' _ = _
          unfold zbr
          have l8 : (k : Int) < 8 := by omega
          simp only [zz_eq, lt_cast hi, lt_cast hk, l8, le_cast, decide_true, cond_true, Int.toNat_natCast, hx, in_eq, Option.bind_some, w64_up (show k < 4294967296 by omega)]
          unfold rng
          cases decide (0 ≤ x.getD k 0 ∧ x.getD k 0 ≤ 2000) <;> rfl
        · intro s g'
          show zbr f _ g' _ = _
          unfold zbr
          have l8 : ¬ ((x.length : Int) < 8) := by omega
          have l0 : (0 : Int) < (rs.length : Int) := by omega
          have ix : zR f ((x, ()), ()) = some ((isum x, ()), ()) := isum_eq f x (by omega) (by omega)
          simp only [zz_eq, l8, decide_false, cond_false, lt_cast hi, l0, le_cast, decide_true, cond_true, Int.toNat_natCast, hx, ix, Option.bind_some, w64_up (show i < 4294967296 by omega)]
          obtain ⟨g1, g2⟩ : (rs.getD 0 []).length < f ∧ (rs.getD 0 []).length < 4294967296 := by
            obtain ⟨a, b, c, rfl⟩ := three h
            exact hr a (by simp)
          have i0 : zR f ((rs.getD 0 [], ()), ()) = some ((isum (rs.getD 0 []), ()), ()) := isum_eq f _ g2 g1
          simp only [Int.toNat_zero, i0, Option.bind_some]
          by_cases c3 : isum x = isum (rs.getD 0 [])
          · simp only [c3, bne_self_eq_false, cond_false, beq_self_eq_true, Bool.true_and]
            by_cases c : isum (rs.getD 0 []) ≤ 2000
            · have : ¬ isum (rs.getD 0 []) > 2000 := by omega
              simp only [c, this, decide_true, decide_false, cond_true, cond_false]
            · have : isum (rs.getD 0 []) > 2000 := by omega
              simp only [c, this, decide_true, decide_false, cond_true, cond_false]
          · have c4 : (isum x == isum (rs.getD 0 [])) = false := by simpa using c3
            simp only [bne, c4, Bool.not_false, Bool.false_and, cond_true, cond_false]
      · have e8 : ((x.length : Int) != 8) = true := by simp; omega
        rw [e8, cond_true]
        unfold rowB
        simp [c1]
    · intro s g
      show zbs f _ g _ = _
      unfold zbs
      have l3 : ¬ ((rs.length : Int) < 3) := by omega
      simp only [l3, decide_false, cond_false]
  · have e : (zz rs.length != (3 : Int)) = true := by simp [zz_eq]; omega
    rw [e, cond_true]
    unfold roughB
    simp [h]
end Go.Proofs.YtdgdoeknpakmlaaGreat.Den
namespace Go.Proofs.YtdgdoeknpakmlaaGreat.Den
open Go
def fewGo : List Int → Int → Bool
  | [], _ => true
  | x :: r, p => decide (p < x ∧ x ≤ 63) && fewGo r x
def fewB (l : List Int) : Bool := decide (l.length ≤ 6) && fewGo l (-1)
theorem zDs (f : Nat) (l : List Int) (hf : 8 < f) : zeH f ((l, ()), ()) = some ((fewB l, ()), ()) := by
  show ziB f (iter (ziA f) f) l = _
  unfold ziB fewB
  by_cases h : l.length ≤ 6
  · have e : ¬ ((l.length : Int) > 6) := by omega
    simp only [zz_eq, e, decide_false, cond_false, h, decide_true, Bool.true_and]
    refine (zO (st := ziA f) (enc := fun i (p : Int) => ((i : Int), (l.length : Int), l, p)) (fun x k p => cond (decide (p < x ∧ x ≤ 63)) (k x) (some ((false, ()), ()))) (fun s => some ((true, ()), ())) l 0 ?_ ?_ f (-1) (by omega)).trans ?_
    · intro i p g hi
      show zeG f g _ = _
      unfold zeG
      simp only [zz_eq, lt_cast hi, le_cast, decide_true, cond_true, Int.toNat_natCast, w64_up (show i < 4294967296 by omega)]
      obtain ⟨x, hx⟩ : ∃ x : Int, l.getD i 0 = x := ⟨_, rfl⟩
      simp only [hx]
      by_cases c1 : x ≤ p
      · have : ¬ (p < x ∧ x ≤ 63) := by omega
        simp only [c1, this, and_self, and_true, true_and, and_false, false_and, decide_true, decide_false, cond_true, cond_false]
      · by_cases c2 : x ≥ 64
        · have : ¬ (p < x ∧ x ≤ 63) := by omega
          simp only [c1, c2, this, and_self, and_true, true_and, and_false, false_and, decide_true, decide_false, cond_true, cond_false]
        · have : p < x ∧ x ≤ 63 := by omega
          simp only [c1, c2, this, and_self, and_true, true_and, and_false, false_and, decide_true, decide_false, cond_true, cond_false]
    · intro s g
      show zeG f g _ = _
      unfold zeG
      simp only [zc, decide_false, cond_false]
    · have : ∀ (l : List Int) (p : Int), goL (R := ((Bool × Unit) × Unit)) (fun x k p => cond (decide (p < x ∧ x ≤ 63)) (k x) (some ((false, ()), ()))) (fun s => some ((true, ()), ())) l p = some ((fewGo l p, ()), ()) := by
        intro l
        induction l with
        | nil => intro p; rfl
        | cons x l ih =>
          intro p
          show cond _ (goL _ _ l x) _ = _
          rw [ih]
          show _ = some ((decide (p < x ∧ x ≤ 63) && fewGo l x, ()), ())
          cases decide (p < x ∧ x ≤ 63) <;> rfl
      exact this l (-1)
  · have e : ((l.length : Int) > 6) := by omega
    simp only [zz_eq, e, decide_true, cond_true, h, decide_false, Bool.false_and]
theorem zDt (f : Nat) (l : List Int) (hl : l.length < 4294967296) (hf : l.length < f) : zds f ((l, ()), ()) = some ((fewB l, ()), ()) := by
  show iter (zhN f) f ((0 : Int), l) = _
  refine (zC4 (st := zhN f) (enc := fun i (s : Unit) => ((i : Int), l)) (fun x p k s => cond (decide (p < x ∧ 0 ≤ x ∧ x ≤ 63)) (k s) (some ((false, ()), ()))) (fun s => some ((decide (l.length ≤ 6), ()), ())) l 0 (-1) id ?_ ?_ f () hf).trans ?_
  · intro i s g hi
    show zdr f g _ = _
    unfold zdr
    simp only [zz_eq, lt_cast hi, le_cast, decide_true, cond_true, Int.toNat_natCast, w64_up (show i < 4294967296 by omega), in_eq, Option.bind_some, id]
    obtain ⟨x, hx⟩ : ∃ x : Int, l.getD i 0 = x := ⟨_, rfl⟩
    simp only [hx]
    by_cases c1 : 0 ≤ x ∧ x ≤ 63
    · by_cases z : i = 0
      · have : -1 < x ∧ 0 ≤ x ∧ x ≤ 63 := by omega
        simp only [zC6 z, c1, this, z, and_self, if_true, decide_true, decide_false, cond_true, cond_false, Bool.not_true]
        subst z; rfl
      · have g1 : i - 1 < l.length := by omega
        simp only [zC7 z, w64_dn z (show i < 4294967296 by omega), lt_cast g1, le_cast, c1, z, and_self, if_false, decide_true, decide_false, cond_true, cond_false, Bool.not_true, Int.toNat_natCast]
        obtain ⟨y, hy⟩ : ∃ y : Int, l.getD (i - 1) 0 = y := ⟨_, rfl⟩
        simp only [hy]
        by_cases c2 : y ≥ x
        · have : ¬ (y < x ∧ True) := fun h => by have := h.1; omega
          simp only [c2, this, and_self, and_true, true_and, and_false, false_and, decide_true, decide_false, cond_true, cond_false]
        · have : (y < x ∧ True) := ⟨by omega, trivial⟩
          simp only [c2, this, and_self, and_true, true_and, and_false, false_and, decide_true, decide_false, cond_true, cond_false]
    · have : ∀ p : Int, ¬ (p < x ∧ 0 ≤ x ∧ x ≤ 63) := fun p h => c1 h.2
      simp only [c1, this, and_self, and_true, true_and, and_false, false_and, decide_true, decide_false, cond_true, cond_false, Bool.not_false]
  · intro s g
    show zdr f g _ = _
    unfold zdr
    have : ((l.length : Int) ≤ 6) = (l.length ≤ 6) := by apply propext; omega
    simp only [zz_eq, zc, decide_false, cond_false, this]
  · have : ∀ (q : Bool) (l : List Int) (p : Int), -1 ≤ p → goL (R := ((Bool × Unit) × Unit)) (fun x k (ps : Int × Unit) => cond (decide (ps.1 < x ∧ 0 ≤ x ∧ x ≤ 63)) (k (id x, ps.2)) (some ((false, ()), ()))) (fun s => some ((q, ()), ())) l (p, ()) = some ((q && fewGo l p, ()), ()) := by
      intro q l
      induction l with
      | nil => intro p _; cases q <;> rfl
      | cons x l ih =>
        intro p hp
        show cond _ (goL _ _ l (x, ())) _ = _
        unfold fewGo
        by_cases c : p < x ∧ x ≤ 63
        · have : p < x ∧ 0 ≤ x ∧ x ≤ 63 := by omega
          rw [ih x (by omega)]
          simp only [c, this, and_self, decide_true, cond_true, Bool.true_and]
        · have : ¬ (p < x ∧ 0 ≤ x ∧ x ≤ 63) := by omega
          simp only [c, this, decide_false, cond_false, Bool.false_and, Bool.and_false]
    unfold fewB
    exact this _ l (-1) (by omega)
def topGo (all : Int) : List Knot → Int → Int → Bool
  | [], _, s => decide (s ≤ all)
  | x :: r, p, s => decide (p < x.1 ∧ x.1 ≤ 63 ∧ 1 ≤ x.2.1 ∧ x.2.1 ≤ 2000) && topGo all r x.1 (w64 (s + x.2.1))
def topB (l : List Knot) (lost all : Int) : Bool := decide (l.length ≤ 4 ∧ 0 ≤ lost ∧ lost ≤ 2000 ∧ 0 ≤ all ∧ all ≤ 2000) && topGo all l (-1) (lost * 5)
theorem zDu (f : Nat) (l : List Knot) (lost all : Int) (hf : 8 < f) : zbT f ((l, lost, all, ()), ()) = some ((topB l lost all, ()), ()) := by
  show ziH f (iter (ziG f) f) l lost all = _
  unfold ziH topB
  simp only [zz_eq]
  by_cases h : l.length ≤ 4 ∧ 0 ≤ lost ∧ lost ≤ 2000 ∧ 0 ≤ all ∧ all ≤ 2000
  · have e1 : ¬ ((l.length : Int) > 4) := by omega
    have e2 : ¬ (lost < 0) := by omega
    have e3 : ¬ (lost > 2000) := by omega
    have e4 : ¬ (all < 0) := by omega
    have e5 : ¬ (all > 2000) := by omega
    have e6 : w64 (lost * 5) = lost * 5 := by rw [w64_id] <;> omega
    simp only [e1, e2, e3, e4, e5, e6, decide_false, cond_false, h, and_self, decide_true, Bool.true_and]
    refine (zO (st := ziG f) (enc := fun i (p : Int × Int) => ((i : Int), (l.length : Int), l, p.1, p.2, l, lost, all)) (fun x k p => cond (decide (p.1 < x.1 ∧ x.1 ≤ 63 ∧ 1 ≤ x.2.1 ∧ x.2.1 ≤ 2000)) (k (x.1, w64 (p.2 + x.2.1))) (some ((false, ()), ()))) (fun p => some ((decide (p.2 ≤ all), ()), ())) l (0, 0, ()) ?_ ?_ f (-1, lost * 5) (by omega)).trans ?_
    · intro i p g hi
      show zeN f g _ = _
      unfold zeN
      simp only [zz_eq, lt_cast hi, le_cast, decide_true, cond_true, Int.toNat_natCast, w64_up (show i < 4294967296 by omega)]
      obtain ⟨x, hx⟩ : ∃ x : Knot, l.getD i (0, 0, ()) = x := ⟨_, rfl⟩
      simp only [hx]
      by_cases c1 : x.1 ≤ p.1
      · have : ¬ (p.1 < x.1 ∧ x.1 ≤ 63 ∧ 1 ≤ x.2.1 ∧ x.2.1 ≤ 2000) := by omega
        simp only [c1, this, and_self, and_true, true_and, and_false, false_and, decide_true, decide_false, cond_true, cond_false]
      by_cases c2 : x.1 ≥ 64
      · have : ¬ (p.1 < x.1 ∧ x.1 ≤ 63 ∧ 1 ≤ x.2.1 ∧ x.2.1 ≤ 2000) := by omega
        simp only [c1, c2, this, and_self, and_true, true_and, and_false, false_and, decide_true, decide_false, cond_true, cond_false]
      by_cases c3 : x.2.1 < 1
      · have : ¬ (p.1 < x.1 ∧ x.1 ≤ 63 ∧ 1 ≤ x.2.1 ∧ x.2.1 ≤ 2000) := by omega
        simp only [c1, c2, c3, this, and_self, and_true, true_and, and_false, false_and, decide_true, decide_false, cond_true, cond_false]
      by_cases c4 : x.2.1 > 2000
      · have : ¬ (p.1 < x.1 ∧ x.1 ≤ 63 ∧ 1 ≤ x.2.1 ∧ x.2.1 ≤ 2000) := by omega
        simp only [c1, c2, c3, c4, this, and_self, and_true, true_and, and_false, false_and, decide_true, decide_false, cond_true, cond_false]
      have : (p.1 < x.1 ∧ x.1 ≤ 63 ∧ 1 ≤ x.2.1 ∧ x.2.1 ≤ 2000) := by omega
      simp only [c1, c2, c3, c4, this, and_self, and_true, true_and, and_false, false_and, decide_true, decide_false, cond_true, cond_false]
    · intro s g
      show zeN f g _ = _
      unfold zeN
      simp only [zc, decide_false, cond_false]
    · have : ∀ (l : List Knot) (p : Int × Int), goL (R := ((Bool × Unit) × Unit)) (fun (x : Knot) k p => cond (decide (p.1 < x.1 ∧ x.1 ≤ 63 ∧ 1 ≤ x.2.1 ∧ x.2.1 ≤ 2000)) (k (x.1, w64 (p.2 + x.2.1))) (some ((false, ()), ()))) (fun p => some ((decide (p.2 ≤ all), ()), ())) l p = some ((topGo all l p.1 p.2, ()), ()) := by
        intro l
        induction l with
        | nil => intro p; rfl
        | cons x l ih =>
          intro p
          show cond _ (goL _ _ l _) _ = _
          rw [ih]
          show _ = some ((decide (p.1 < x.1 ∧ x.1 ≤ 63 ∧ 1 ≤ x.2.1 ∧ x.2.1 ≤ 2000) && topGo all l x.1 (w64 (p.2 + x.2.1)), ()), ())
          cases decide (p.1 < x.1 ∧ x.1 ≤ 63 ∧ 1 ≤ x.2.1 ∧ x.2.1 ≤ 2000) <;> rfl
      exact this l _
  · simp only [h, decide_false, Bool.false_and]
    by_cases c1 : (l.length : Int) > 4
    · simp only [c1, decide_true, cond_true]
    by_cases c2 : lost < 0
    · simp only [c1, c2, decide_true, cond_true, decide_false, cond_false]
    by_cases c3 : lost > 2000
    · simp only [c1, c2, c3, decide_true, cond_true, decide_false, cond_false]
    by_cases c4 : all < 0
    · simp only [c1, c2, c3, c4, decide_true, cond_true, decide_false, cond_false]
    by_cases c5 : all > 2000
    · simp only [c1, c2, c3, c4, c5, decide_true, cond_true, decide_false, cond_false]
    exact absurd ⟨by omega, by omega, by omega, by omega, by omega⟩ h
def tsum (l : List Knot) : Int := l.foldl (fun s x => w64 (s + x.2.1)) 0
theorem tsum_eq (f : Nat) (l : List Knot) (hl : l.length < 4294967296) (hf : l.length < f) : zhR f ((l, ()), ()) = some ((tsum l, ()), ()) := by
  show iter (zhQ f) f ((0 : Int), l, (0 : Int)) = _
  refine (zO (st := zhQ f) (enc := fun i s => ((i : Int), l, s)) (fun (x : Knot) k s => k (w64 (s + x.2.1))) (fun s => some ((s, ()), ())) l (0, 0, ()) ?_ ?_ f 0 hf).trans (fold_go (fun s x => w64 (s + x.2.1)) (fun _ _ _ => rfl) l 0)
  · intro i s g hi
    show zdx f g _ = _
    unfold zdx
    simp only [zz_eq, lt_cast hi, le_cast, decide_true, cond_true, Int.toNat_natCast, w64_up (Nat.lt_trans hi hl)]
  · intro s g
    show zdx f g _ = _
    unfold zdx
    simp only [zz_eq, zc, decide_false, cond_false]
def topAsc : List Knot → Int → Bool
  | [], _ => true
  | x :: r, p => decide (p < x.1 ∧ x.1 ≤ 63 ∧ 1 ≤ x.2.1 ∧ x.2.1 ≤ 2000) && topAsc r x.1
def psum : List Knot → Int
  | [] => 0
  | x :: r => x.2.1 + psum r
theorem zDv (all : Int) : ∀ (l : List Knot) (p s : Int), 0 ≤ s → s + 2000 * l.length ≤ 1000000000000 → topGo all l p s = (topAsc l p && decide (s + psum l ≤ all))
  | [], p, s, _, _ => by simp [topGo, topAsc, psum]
  | x :: l, p, s, h0, h1 => by
    unfold topGo topAsc psum
    simp only [List.length_cons] at h1
    by_cases c : p < x.1 ∧ x.1 ≤ 63 ∧ 1 ≤ x.2.1 ∧ x.2.1 ≤ 2000
    · have e : w64 (s + x.2.1) = s + x.2.1 := by rw [w64_id] <;> omega
      rw [e, zDv all l x.1 _ (by omega) (by omega)]
      simp only [c, and_self, decide_true, Bool.true_and, Int.add_assoc]
    · simp only [c, decide_false, Bool.false_and]
theorem tsum_go : ∀ (l : List Knot) (p s : Int), 0 ≤ s → s + 2000 * l.length ≤ 1000000000000 → topAsc l p = true → l.foldl (fun s x => w64 (s + x.2.1)) s = s + psum l ∧ 0 ≤ psum l ∧ psum l ≤ 2000 * l.length
  | [], p, s, _, _, _ => by simp [psum]
  | x :: l, p, s, h0, h1, h2 => by
    unfold topAsc at h2
    simp only [Bool.and_eq_true, decide_eq_true_eq] at h2
    simp only [List.length_cons] at h1 ⊢
    have e : w64 (s + x.2.1) = s + x.2.1 := by rw [w64_id] <;> omega
    obtain ⟨a, b, c⟩ := tsum_go l x.1 (s + x.2.1) (by omega) (by omega) h2.2
    unfold psum
    simp only [List.foldl_cons, e, a]
    omega
theorem zDw (f : Nat) (l : List Knot) (lost all : Int) (hl : l.length < 4294967296) (hf : l.length < f) : zdD f ((l, lost, all, ()), ()) = some ((topB l lost all, ()), ()) := by
  show iter (zhT f) f ((0 : Int), l, lost, all) = _
  refine (zC4 (st := zhT f) (enc := fun i (s : Unit) => ((i : Int), l, lost, all)) (fun x p k s => cond (decide (p < x.1 ∧ 0 ≤ x.1 ∧ x.1 ≤ 63 ∧ 1 ≤ x.2.1 ∧ x.2.1 ≤ 2000)) (k s) (some ((false, ()), ()))) (fun s => some ((decide (l.length ≤ 4 ∧ 0 ≤ lost ∧ lost ≤ 2000 ∧ 0 ≤ all ∧ all ≤ 2000) && decide (w64 (tsum l + w64 (5 * lost)) ≤ all), ()), ())) l (0, 0, ()) (-1) (fun x => x.1) ?_ ?_ f () hf).trans ?_
  · intro i s g hi
    show zdC f g _ = _
    unfold zdC
    simp only [zz_eq, lt_cast hi, le_cast, decide_true, cond_true, Int.toNat_natCast, w64_up (show i < 4294967296 by omega), in_eq, Option.bind_some]
    obtain ⟨x, hx⟩ : ∃ x : Knot, l.getD i (0, 0, ()) = x := ⟨_, rfl⟩
    simp only [hx]
    by_cases c1 : 0 ≤ x.1 ∧ x.1 ≤ 63
    · by_cases c3 : 1 ≤ x.2.1 ∧ x.2.1 ≤ 2000
      · by_cases z : i = 0
        · have : -1 < x.1 ∧ 0 ≤ x.1 ∧ x.1 ≤ 63 ∧ 1 ≤ x.2.1 ∧ x.2.1 ≤ 2000 := by omega
          simp only [zC6 z, c1, c3, this, z, and_self, if_true, decide_true, decide_false, cond_true, cond_false, Bool.not_true]
          subst z; rfl
        · have g1 : i - 1 < l.length := by omega
          simp only [zC7 z, w64_dn z (show i < 4294967296 by omega), lt_cast g1, le_cast, c1, c3, z, and_self, if_false, decide_true, decide_false, cond_true, cond_false, Bool.not_true, Int.toNat_natCast]
          obtain ⟨y, hy⟩ : ∃ y : Knot, l.getD (i - 1) (0, 0, ()) = y := ⟨_, rfl⟩
          simp only [hy]
          by_cases c2 : y.1 ≥ x.1
          · have : ¬ (y.1 < x.1 ∧ True) := fun h => by have := h.1; omega
            simp only [c2, this, and_self, and_true, true_and, and_false, false_and, decide_true, decide_false, cond_true, cond_false]
          · have : (y.1 < x.1 ∧ True) := ⟨by omega, trivial⟩
            simp only [c2, this, and_self, and_true, true_and, and_false, false_and, decide_true, decide_false, cond_true, cond_false]
      · have : ∀ p : Int, ¬ (p < x.1 ∧ 0 ≤ x.1 ∧ x.1 ≤ 63 ∧ 1 ≤ x.2.1 ∧ x.2.1 ≤ 2000) := fun p h => c3 h.2.2.2
        simp only [c1, c3, this, and_self, and_true, true_and, and_false, false_and, decide_true, decide_false, cond_true, cond_false, Bool.not_false, Bool.not_true]
    · have : ∀ p : Int, ¬ (p < x.1 ∧ 0 ≤ x.1 ∧ x.1 ≤ 63 ∧ 1 ≤ x.2.1 ∧ x.2.1 ≤ 2000) := fun p h => c1 ⟨h.2.1, h.2.2.1⟩
      simp only [c1, this, and_self, and_true, true_and, and_false, false_and, decide_true, decide_false, cond_true, cond_false, Bool.not_false]
  · intro s g
    show zdC f g _ = _
    unfold zdC
    simp only [zz_eq, zc, decide_false, cond_false, in_eq, Option.bind_some, tsum_eq f l hl hf]
    by_cases h1 : l.length ≤ 4
    · have e1 : ((l.length : Int) ≤ 4) := by omega
      by_cases h2 : 0 ≤ all ∧ all ≤ 2000
      · by_cases h3 : 0 ≤ lost ∧ lost ≤ 2000
        · simp only [h1, e1, h2, h3, and_self, decide_true, cond_true, Bool.true_and]
        · have : ¬ (l.length ≤ 4 ∧ 0 ≤ lost ∧ lost ≤ 2000 ∧ 0 ≤ all ∧ all ≤ 2000) := by omega
          rw [decide_eq_false this]
          simp only [e1, h2, h3, and_self, decide_true, cond_true, decide_false, cond_false, Bool.false_and]
      · have : ¬ (l.length ≤ 4 ∧ 0 ≤ lost ∧ lost ≤ 2000 ∧ 0 ≤ all ∧ all ≤ 2000) := by omega
        rw [decide_eq_false this]
        simp only [e1, h2, and_self, decide_true, cond_true, decide_false, cond_false, Bool.false_and]
    · have e1 : ¬ ((l.length : Int) ≤ 4) := by omega
      have : ¬ (l.length ≤ 4 ∧ 0 ≤ lost ∧ lost ≤ 2000 ∧ 0 ≤ all ∧ all ≤ 2000) := by omega
      simp only [e1, this, and_self, decide_true, cond_true, decide_false, cond_false, Bool.false_and]
  · have : ∀ (q : Bool) (l : List Knot) (p : Int), -1 ≤ p → goL (R := ((Bool × Unit) × Unit)) (fun (x : Knot) k (ps : Int × Unit) => cond (decide (ps.1 < x.1 ∧ 0 ≤ x.1 ∧ x.1 ≤ 63 ∧ 1 ≤ x.2.1 ∧ x.2.1 ≤ 2000)) (k (x.1, ps.2)) (some ((false, ()), ()))) (fun s => some ((q, ()), ())) l (p, ()) = some ((topAsc l p && q, ()), ()) := by
      intro q l
      induction l with
      | nil => intro p _; rfl
      | cons x l ih =>
        intro p hp
        show cond _ (goL _ _ l (x.1, ())) _ = _
        unfold topAsc
        by_cases c : p < x.1 ∧ x.1 ≤ 63 ∧ 1 ≤ x.2.1 ∧ x.2.1 ≤ 2000
        · have : p < x.1 ∧ 0 ≤ x.1 ∧ x.1 ≤ 63 ∧ 1 ≤ x.2.1 ∧ x.2.1 ≤ 2000 := by omega
          rw [ih x.1 (by omega)]
          simp only [c, this, and_self, decide_true, cond_true, Bool.true_and]
        · have : ¬ (p < x.1 ∧ 0 ≤ x.1 ∧ x.1 ≤ 63 ∧ 1 ≤ x.2.1 ∧ x.2.1 ≤ 2000) := by omega
          simp only [c, this, decide_false, cond_false, Bool.false_and, Bool.and_false]
    refine (this _ l (-1) (by omega)).trans ?_
    unfold topB
    by_cases h : l.length ≤ 4 ∧ 0 ≤ lost ∧ lost ≤ 2000 ∧ 0 ≤ all ∧ all ≤ 2000
    · rw [zDv all l (-1) (lost * 5) (by omega) (by omega)]
      simp only [h, and_self, decide_true, Bool.true_and]
      cases ht : topAsc l (-1)
      · rfl
      · obtain ⟨a, b, c⟩ := tsum_go l (-1) 0 (by omega) (by omega) ht
        have e : w64 (tsum l + w64 (5 * lost)) = lost * 5 + psum l := by
          have e1 : tsum l = psum l := by unfold tsum; rw [a]; omega
          rw [e1, w64_id (x := 5 * lost) (by omega) (by omega), w64_id (by omega) (by omega)]; omega
        rw [e]
    · simp only [h, decide_false, Bool.false_and, Bool.and_false]
def allR (rs : List (List Int)) : Int := cond (roughB rs) (isum (rs.getD 0 [])) (-1)
theorem zDx (f : Nat) (rs : List (List Int)) (hf : 8 < f) : zbN f ((rs, ()), ()) = some ((allR rs, ()), ()) := by
  show zmK f rs = _
  unfold zmK allR
  rw [zq3 f rs hf, Option.bind_some]
  cases h : roughB rs
  · rfl
  · have h' := h
    unfold roughB at h'
    simp only [Bool.and_eq_true, decide_eq_true_eq] at h'
    obtain ⟨h3, h4⟩ := h'
    obtain ⟨a, b, c, rfl⟩ := three h3
    simp only [List.all_cons, Bool.and_eq_true, rowB] at h4
    have : (decide (a.length = 8) && a.all rng) = true := by simp [h4.1.1]
    simp only [zz_eq, Bool.not_true, cond_false, List.length_cons, List.length_nil, zq2 f _ hf, Int.toNat_zero, List.getD_cons_zero, this, cond_true, Option.bind_some]
    rfl
theorem zPK (f : Nat) (rs : List (List Int)) (hf : 8 < f) (hr : ∀ r ∈ rs, r.length < f ∧ r.length < 4294967296) : zhV f ((rs, ()), ()) = some ((allR rs, ()), ()) := by
  show zlY f rs = _
  unfold zlY allR
  rw [zq4 f rs hf hr, Option.bind_some]
  cases h : roughB rs
  · rfl
  · have h' := h
    unfold roughB at h'
    simp only [Bool.and_eq_true, decide_eq_true_eq] at h'
    obtain ⟨h3, h4⟩ := h'
    obtain ⟨a, b, c, rfl⟩ := three h3
    have := hr a (by simp)
    simp only [zz_eq, Bool.not_true, cond_false, List.length_cons, List.length_nil, Int.toNat_zero, List.getD_cons_zero, isum_eq f a this.2 this.1, cond_true, Option.bind_some]
    rfl
def sumB (rs : List (List Int)) (ms : List Int) (ps : List Knot) (lost tall : Int) (ks : List Knot) (rall : Int) : Bool :=
  roughB rs && (fewB ms && (topB ps lost tall && (okB ks rall && ((allR rs == tall) && ((tall == rall) && (decide ((ms.length : Int) > 0) == decide (tall > 0)))))))
theorem zPL (f : Nat) (rs : List (List Int)) (ms : List Int) (ps : List Knot) (lost tall : Int) (ks : List Knot) (rall : Int) (hf : 8 < f)
    (hr : ∀ r ∈ rs, r.length < f ∧ r.length < 4294967296) (hm : ms.length < 4294967296 ∧ ms.length < f) (hp : ps.length < 4294967296 ∧ ps.length < f) (hk : ks.length < 4294967296 ∧ ks.length < f) :
    zdE f ((rs, ms, ps, lost, tall, ks, rall, ()), ()) = some ((sumB rs ms ps lost tall ks rall, ()), ()) := by
  show zl1 f rs ms ps lost tall ks rall = _
  unfold zl1 sumB
  simp only [zq4 f rs hf hr, zDt f ms hm.1 hm.2, zDw f ps lost tall hp.1 hp.2, zDr f ks rall hk.1 hk.2, zPK f rs hf hr, Option.bind_some, zz_eq]
  cases roughB rs <;> cases fewB ms <;> cases topB ps lost tall <;> cases okB ks rall <;> cases allR rs == tall <;> cases tall == rall <;> rfl
theorem zPM (f : Nat) (rs : List (List Int)) (ms : List Int) (ps : List Knot) (lost tall : Int) (ks : List Knot) (rall : Int) (hf : 8 < f) (hk : ks.length < 4294967296 ∧ ks.length < f) :
    zcl f ((rs, ms, ps, lost, tall, ks, rall, ()), ()) = some ((sumB rs ms ps lost tall ks rall, ()), ()) := by
  show zod f rs ms ps lost tall ks rall = _
  unfold zod sumB
  have e0 : zaw f ((rs, ms, ps, lost, tall, ks, rall, ()), ()) = some (((((rs, ()), ()), ((ms, ()), ()), ((ps, lost, tall, ()), ()), ((ks, rall, ()), ()), ()), ())) := rfl
  have e1 : zjn f ((rs, ()), ()) = some ((roughB rs, ()), ()) := by
    show zn1 f rs = _
    unfold zn1
    rw [zq3 f rs hf]; rfl
  have e2 : zjo f ((ms, ()), ()) = some ((fewB ms, ()), ()) := by
    show zn4 f ms = _
    unfold zn4
    rw [zDs f ms hf]; rfl
  have e3 : zjp f ((ps, lost, tall, ()), ()) = some ((topB ps lost tall, ()), ()) := by
    show zn7 f ps lost tall = _
    unfold zn7
    rw [zDu f ps lost tall hf]; rfl
  have e4 : zjq f ((ks, rall, ()), ()) = some ((okB ks rall, ()), ()) := by
    show zoa f ks rall = _
    unfold zoa
    rw [zDq f ks rall hk.1 hk.2]; rfl
  simp only [e0, e1, e2, e3, e4, zDx f rs hf, Option.bind_some, zz_eq]
  cases roughB rs <;> cases fewB ms <;> cases topB ps lost tall <;> cases okB ks rall <;> try rfl
  by_cases c1 : tall = allR rs
  · subst c1
    simp only [beq_self_eq_true, cond_true, Bool.true_and, Bool.not_true, cond_false]
    by_cases c2 : rall = allR rs
    · subst c2
      simp only [beq_self_eq_true, cond_true, Bool.true_and]
      rfl
    · have g1 : (rall == allR rs) = false := by simpa using c2
      have g2 : (allR rs == rall) = false := by simpa using fun h => c2 h.symm
      simp only [g1, g2, cond_false, Bool.false_and]
  · have g1 : (tall == allR rs) = false := by simpa using c1
    have g2 : (allR rs == tall) = false := by simpa using fun h => c1 h.symm
    simp only [g1, g2, cond_false, Bool.false_and, Bool.not_true, Bool.and_false]
end Go.Proofs.YtdgdoeknpakmlaaGreat.Den
namespace Go.Proofs.YtdgdoeknpakmlaaGreat.Den
open Go
def szR (n l : Int) : Int := if n - l < 0 then -1 else n - l
theorem szR_le {n l : Int} (h : 0 ≤ l) (hn : 0 ≤ n) : szR n l ≤ n ∧ -1 ≤ szR n l ∧ (0 ≤ szR n l → l ≤ n) := by
  unfold szR; split <;> omega
def Mes (o : Option ((Int × Unit) × Unit)) (n : Int) (P : Prop) : Prop := ∃ v : Int, o = some ((v, ()), ()) ∧ v ≤ n ∧ (0 ≤ v → P)
def Short (rs : List (List Int)) (ms : List Int) (ps ks : List Knot) (n : Nat) : Prop := rs.length ≤ n ∧ (∀ r ∈ rs, r.length ≤ n) ∧ ms.length ≤ n ∧ ps.length ≤ n ∧ ks.length ≤ n
theorem lim_of {n : Nat} (h : n ≤ 1048576) : n < LIM := by simp only [LIM]; omega
end Go.Proofs.YtdgdoeknpakmlaaGreat.Den
namespace Go.Proofs.YtdgdoeknpakmlaaGreat.Den
open Go
def thingB (t : Int) : Bool := decide (0 ≤ t ∧ t ≤ 63)
theorem zhr (f : Nat) (n : Int) : zo f ((n, ()), ()) = some ((thingB n, ()), ()) := zDp f n
theorem zhs (f : Nat) (n : Int) : zf f ((n, ()), ((0 : Int), ()), ((63 : Int), ()), ()) = some ((thingB n, ()), ()) := in_eq f n 0 63
def mark (t : Int) : Int := cond (thingB t) (Int.tmod (w64 (w64 (t * 37) + 11)) 64) (-1)
theorem zPN (f : Nat) (t : Int) : zhZ f ((t, ()), ()) = some ((mark t, ()), ()) := by
  show zmd f t = _
  unfold zmd mark
  rw [zhs, Option.bind_some]
  cases thingB t <;> rfl
theorem zPO (f : Nat) (t : Int) : ziD f ((t, ()), ()) = some ((mark t, ()), ()) := by
  show zm2 f t = _
  unfold zm2 mark
  rw [zhr, Option.bind_some, Int.mul_comm]
  cases thingB t <;> rfl
theorem six {ms : List Int} (h : fewB ms = true) : ms.length ≤ 6 := by
  unfold fewB at h
  simp only [Bool.and_eq_true, decide_eq_true_eq] at h
  exact h.1
def pl (i : Nat) (t : Int) : Nat := match i with
  | 0 => ((3 * t + t / 8) % 8).toNat
  | 1 => ((5 * t + t / 16 + 1) % 8).toNat
  | _ => ((t + t / 4 + 2) % 8).toNat
theorem pl_lt (i : Nat) (t : Int) : pl i t < 8 := by
  unfold pl; split <;> omega
theorem tmod8 {x : Int} (h : 0 ≤ x) : Int.tmod x 8 = x % 8 := Int.tmod_eq_emod_of_nonneg h
theorem tdivP {x y : Int} (h : 0 ≤ x) : Int.tdiv x y = x / y := Int.tdiv_eq_ediv_of_nonneg h
theorem zc0 {t : Int} (h : thingB t = true) : 0 ≤ t ∧ t ≤ 63 := by unfold thingB at h; simpa using h
theorem zq5 (f : Nat) (i : Nat) (t : Int) (hi : i < 3) (ht : thingB t = true) : z8 f ((((i : Nat) : Int), ()), (t, ()), ()) = some (((pl i t : Int), ()), ()) := by
  have h := zc0 ht
  show zl6 f (i : Int) t = _
  unfold zl6 pl
  match i, hi with
  | 0, _ =>
    simp only [List.length_cons, List.length_nil, Int.natCast_zero, Int.toNat_zero, List.getD_cons_zero]
    have e1 : w64 (t * 3) = t * 3 := by rw [w64_id] <;> omega
    have e2 : w64 (Int.tdiv t 8) = t / 8 := by rw [tdivP h.1, w64_id] <;> omega
    have e3 : w64 (t * 3 + t / 8) = t * 3 + t / 8 := by rw [w64_id] <;> omega
    have e4 : w64 (t * 3 + t / 8 + 0) = t * 3 + t / 8 := by rw [w64_id] <;> omega
    rw [e1, e2, e3, e4, tmod8 (by omega)]
    have e5 : (t * 3 + t / 8) % 8 = (((3 * t + t / 8) % 8).toNat : Int) := by omega
    rw [e5]; rfl
  | 1, _ =>
    simp only [List.length_cons, List.length_nil]
    have e1 : w64 (t * 5) = t * 5 := by rw [w64_id] <;> omega
    have e2 : w64 (Int.tdiv t 16) = t / 16 := by rw [tdivP h.1, w64_id] <;> omega
    have e3 : w64 (t * 5 + t / 16) = t * 5 + t / 16 := by rw [w64_id] <;> omega
    have e4 : w64 (t * 5 + t / 16 + 1) = t * 5 + t / 16 + 1 := by rw [w64_id] <;> omega
    have g1 : List.getD [(3 : Int), (5 : Int), (1 : Int)] (Int.toNat ((1 : Nat) : Int)) 0 = 5 := rfl
    have g2 : List.getD [(8 : Int), (16 : Int), (4 : Int)] (Int.toNat ((1 : Nat) : Int)) 0 = 16 := rfl
    rw [g1, g2, e1, e2, e3, show ((1 : Nat) : Int) = 1 from rfl, e4, tmod8 (by omega)]
    have e5 : (t * 5 + t / 16 + 1) % 8 = (((5 * t + t / 16 + 1) % 8).toNat : Int) := by omega
    rw [e5]; rfl
  | 2, _ =>
    simp only [List.length_cons, List.length_nil]
    have e1 : w64 (t * 1) = t := by rw [w64_id] <;> omega
    have e2 : w64 (Int.tdiv t 4) = t / 4 := by rw [tdivP h.1, w64_id] <;> omega
    have e3 : w64 (t + t / 4) = t + t / 4 := by rw [w64_id] <;> omega
    have e4 : w64 (t + t / 4 + 2) = t + t / 4 + 2 := by rw [w64_id] <;> omega
    have g1 : List.getD [(3 : Int), (5 : Int), (1 : Int)] (Int.toNat ((2 : Nat) : Int)) 0 = 1 := rfl
    have g2 : List.getD [(8 : Int), (16 : Int), (4 : Int)] (Int.toNat ((2 : Nat) : Int)) 0 = 4 := rfl
    rw [g1, g2, e1, e2, e3, show ((2 : Nat) : Int) = 2 from rfl, e4, tmod8 (by omega)]
    have e5 : (t + t / 4 + 2) % 8 = (((t + t / 4 + 2) % 8).toNat : Int) := by omega
    rw [e5]; rfl
theorem zq6 (f : Nat) (i : Nat) (t : Int) (hi : i < 3) (ht : thingB t = true) : zab f ((((i : Nat) : Int), ()), (t, ()), ()) = some (((pl i t : Int), ()), ()) := by
  have h := zc0 ht
  show zmI f (i : Int) t = _
  unfold zmI pl
  rw [zhr, Option.bind_some, ht]
  match i, hi with
  | 0, _ =>
    have e1 : w64 (3 * t) = 3 * t := by rw [w64_id] <;> omega
    have e2 : w64 (Int.tdiv t 8) = t / 8 := by rw [tdivP h.1, w64_id] <;> omega
    have e3 : w64 (3 * t + t / 8) = 3 * t + t / 8 := by rw [w64_id] <;> omega
    rw [e1, e2, e3, tmod8 (by omega)]
    have e5 : (3 * t + t / 8) % 8 = (((3 * t + t / 8) % 8).toNat : Int) := by omega
    rw [e5]; rfl
  | 1, _ =>
    have e1 : w64 (5 * t) = 5 * t := by rw [w64_id] <;> omega
    have e2 : w64 (Int.tdiv t 16) = t / 16 := by rw [tdivP h.1, w64_id] <;> omega
    have e3 : w64 (5 * t + t / 16) = 5 * t + t / 16 := by rw [w64_id] <;> omega
    have e4 : w64 (5 * t + t / 16 + 1) = 5 * t + t / 16 + 1 := by rw [w64_id] <;> omega
    rw [e1, e2, e3, e4, tmod8 (x := 5 * t + t / 16 + 1) (by omega)]
    have e5 : (5 * t + t / 16 + 1) % 8 = (((5 * t + t / 16 + 1) % 8).toNat : Int) := by omega
    rw [e5]; rfl
  | 2, _ =>
    have e2 : w64 (Int.tdiv t 4) = t / 4 := by rw [tdivP h.1, w64_id] <;> omega
    have e3 : w64 (t + t / 4) = t + t / 4 := by rw [w64_id] <;> omega
    have e4 : w64 (t + t / 4 + 2) = t + t / 4 + 2 := by rw [w64_id] <;> omega
    rw [e2, e3, e4, tmod8 (x := t + t / 4 + 2) (by omega)]
    have e5 : (t + t / 4 + 2) % 8 = (((t + t / 4 + 2) % 8).toNat : Int) := by omega
    rw [e5]; rfl
theorem zaP {rs : List (List Int)} (h : roughB rs = true) : ∃ a b c, rs = [a, b, c] ∧ rowB a = true ∧ rowB b = true ∧ rowB c = true ∧ isum b = isum a ∧ isum c = isum a := by
  unfold roughB at h
  simp only [Bool.and_eq_true, decide_eq_true_eq] at h
  obtain ⟨h3, h4⟩ := h
  obtain ⟨a, b, c, rfl⟩ := three h3
  simp only [List.all_cons, List.all_nil, Bool.and_eq_true, List.getD_cons_zero, beq_iff_eq] at h4
  exact ⟨a, b, c, rfl, h4.1.1, h4.2.1.1, h4.2.2.1.1, h4.2.1.2, h4.2.2.1.2⟩
theorem row_len {a : List Int} (h : rowB a = true) : a.length = 8 := by
  unfold rowB at h
  simp only [Bool.and_eq_true, decide_eq_true_eq] at h
  exact h.1
end Go.Proofs.YtdgdoeknpakmlaaGreat.Den
namespace Go.Proofs.YtdgdoeknpakmlaaGreat.Den
open Go
def GoodK (ks : List Knot) : Prop := ∀ k ∈ ks, 1 ≤ k.1 ∧ k.1 ≤ 127 ∧ 1 ≤ k.2.1 ∧ k.2.1 ≤ 2000
theorem zDy {all : Int} : ∀ {ks : List Knot} {before sum : Int}, 0 ≤ before → okGo all ks before sum = true → GoodK ks
  | [], _, _, _, _ => fun k hk => by cases hk
  | k :: r, before, sum, hb, h => by
    unfold okGo at h
    split at h
    · cases h
    · rename_i c
      have ih := zDy (by omega) h
      intro k' hk'
      rcases List.mem_cons.1 hk' with rfl | hk'
      · omega
      · exact ih k' hk'
theorem zlD {ks : List Knot} {all : Int} (h : okB ks all = true) : GoodK ks := by
  unfold okB at h
  split at h
  · cases h
  · exact zDy (Int.le_refl _) h
def numsGo : List Knot → List Int → List Int
  | [], a => a
  | k :: r, a => numsGo r (a.set k.1.toNat (w64 (a.getD k.1.toNat 0 + k.2.1)))
def zeros : List Int := List.replicate 128 0
theorem zlE : ∀ {ks : List Knot} {a : List Int}, (numsGo ks a).length = a.length
  | [], a => rfl
  | k :: r, a => by rw [numsGo, zlE]; simp
def sq1 (all : Int) (n : Nat) (a : List Int) : List Int :=
  if 0 < w64 (a.getD (2 * n) 0 + a.getD (2 * n + 1) 0) ∧ w64 (w64 (a.getD (2 * n) 0 + a.getD (2 * n + 1) 0) + a.getD n 0) ≤ w64 (all.tdiv 8) then
    ((a.set n (w64 (a.getD n 0 + w64 (a.getD (2 * n) 0 + a.getD (2 * n + 1) 0)))).set (2 * n) 0).set (2 * n + 1) 0
  else a
def sqGo (all : Int) : Nat → List Int → List Int
  | 0, a => a
  | n + 1, a => sqGo all n (sq1 all (n + 1) a)
theorem sq1_len {all : Int} {n : Nat} {a : List Int} : (sq1 all n a).length = a.length := by
  unfold sq1; split <;> simp
theorem zq7 {all : Int} : ∀ {n : Nat} {a : List Int}, (sqGo all n a).length = a.length
  | 0, a => rfl
  | n + 1, a => by rw [sqGo, zq7, sq1_len]
def listGo : Nat → List Int → List Knot
  | _, [] => []
  | i, x :: r => if 0 < x then ((i : Int), x, ()) :: listGo (i + 1) r else listGo (i + 1) r
theorem zCa (f : Nat) (ks : List Knot) (hl : ks.length < 4294967296) (hg : GoodK ks) : ∀ (d i : Nat) (a : List Int) (fuel : Nat), i + d = ks.length → a.length = 128 → d < fuel →
    iter (zib f) fuel ((i : Int), ks, a) = some ((numsGo (ks.drop i) a, ()), ())
  | 0, i, a, fuel + 1, hi, ha, hf => by
    rw [iter]
    show zd2 f _ _ = _
    unfold zd2
    have h1 : ¬ ((i : Int) < (ks.length : Int)) := by omega
    have h2 : ks.drop i = [] := List.drop_eq_nil_of_le (by omega)
    simp [h1, h2, numsGo, zz_eq]
  | d + 1, i, a, fuel + 1, hi, ha, hf => by
    rw [iter]
    show zd2 f _ _ = _
    unfold zd2
    have h1 : (i : Int) < (ks.length : Int) := by omega
    have h2 : (0 : Int) ≤ (i : Int) := by omega
    have h3 : w64 ((i : Int) + 1) = (i : Int) + 1 := by rw [w64_id] <;> omega
    have ih : ∀ a : List Int, a.length = 128 → iter (zib f) fuel ((i : Int) + 1, ks, a) = some ((numsGo (ks.drop (i + 1)) a, ()), ()) := fun a ha => by
      exact_mod_cast zCa f ks hl hg d (i + 1) a fuel (by omega) ha (by omega)
    have hk := hg (ks.getD i (0, 0, ())) (by
      rw [List.getD_eq_getElem?_getD, List.getElem?_eq_getElem (by omega)]; exact List.getElem_mem _)
    rw [zcZ (0, 0, ()) (show i < ks.length by omega)]
    simp only [h1, h2, h3, zz_eq, Int.toNat_natCast, decide_true, cond_true]
    obtain ⟨k, hk'⟩ : ∃ k : Knot, ks.getD i (0, 0, ()) = k := ⟨_, rfl⟩
    simp only [hk'] at hk ⊢
    have c1 : 0 ≤ k.1 := by omega
    have c2 : k.1 < ((a.length : Nat) : Int) := by omega
    have c3 : k.1.toNat < a.length := by omega
    simp only [c1, c2, c3, decide_true, cond_true]
    rw [ih _ (by simpa using ha)]
    rfl
theorem zPP (f : Nat) (ks : List Knot) (hl : ks.length < 4294967296) (hg : GoodK ks) (hf : ks.length < f) : zd3 f ((ks, ()), ()) = some ((numsGo ks zeros, ()), ()) := by
  unfold zd3 zms
  have := zCa f ks hl hg ks.length 0 zeros f (by omega) (by simp [zeros]) hf
  simpa [zeros] using this
theorem tdiv2 (n : Nat) : Int.tdiv (2 * (n : Int)) 2 = n := by
  rw [Int.tdiv_eq_ediv_of_nonneg (by omega)]; omega
theorem zCb (f : Nat) (all : Int) : ∀ (n : Nat) (a : List Int) (fuel : Nat), n ≤ 63 → a.length = 128 → n < fuel →
    iter (zif f) fuel (2 * (n : Int), all, a) = some (sqGo all n a, ())
  | 0, a, fuel + 1, hn, ha, hf => by
    rw [iter]
    show zee f _ _ = _
    unfold zee
    simp [sqGo]
  | n + 1, a, fuel + 1, hn, ha, hf => by
    rw [iter]
    show zee f _ _ = _
    unfold zee
    have ih : ∀ a : List Int, a.length = 128 → iter (zif f) fuel (2 * (n : Int), all, a) = some (sqGo all n a, ()) := fun a ha =>
      zCb f all n a fuel (by omega) ha (by omega)
    have h1 : (2 * ((n + 1 : Nat) : Int)) ≥ 2 := by omega
    have h2 : (0 : Int) ≤ 2 * ((n + 1 : Nat) : Int) := by omega
    have h3 : 2 * ((n + 1 : Nat) : Int) < 128 := by omega
    have h4 : w64 (2 * ((n + 1 : Nat) : Int) + 1) = ((2 * (n + 1) + 1 : Nat) : Int) := by rw [w64_id] <;> omega
    have h5 : w64 (Int.tdiv (2 * ((n + 1 : Nat) : Int)) 2) = ((n + 1 : Nat) : Int) := by rw [tdiv2, w64_id] <;> omega
    have h6 : w64 (2 * ((n + 1 : Nat) : Int) - 2) = 2 * (n : Int) := by rw [w64_id] <;> omega
    have h7 : (2 * ((n + 1 : Nat) : Int)).toNat = 2 * (n + 1) := by omega
    have l1 : 2 * (n + 1) < 128 := by omega
    have l2 : 2 * (n + 1) + 1 < 128 := by omega
    have l3 : n + 1 < 128 := by omega
    have l4 : ((2 * (n + 1) + 1 : Nat) : Int) < 128 := by omega
    have l5 : ((n + 1 : Nat) : Int) < 128 := by omega
    simp only [h1, h2, h4, h5, h6, h7, zz_eq, List.length_set, ha, Int.toNat_natCast, Int.natCast_nonneg, decide_true, cond_true, l1, l2, l3, show (((128 : Nat) : Int)) = 128 from rfl, h3, l4, l5]
    unfold sqGo sq1
    by_cases c1 : 0 < w64 (a.getD (2 * (n + 1)) 0 + a.getD (2 * (n + 1) + 1) 0)
    · by_cases c2 : w64 (w64 (a.getD (2 * (n + 1)) 0 + a.getD (2 * (n + 1) + 1) 0) + a.getD (n + 1) 0) ≤ w64 (all.tdiv 8)
      · rw [if_pos ⟨c1, c2⟩]
        simp only [c1, c2, gt_iff_lt, decide_true, cond_true]
        exact ih _ (by simpa using ha)
      · rw [if_neg (fun h => c2 h.2)]
        simp only [c1, c2, gt_iff_lt, decide_true, decide_false, cond_true, cond_false]
        exact ih _ ha
    · rw [if_neg (fun h => c1 h.1)]
      simp only [c1, gt_iff_lt, decide_false, cond_false]
      exact ih _ ha
theorem zPQ (f : Nat) (a : List Int) (all : Int) (ha : a.length = 128) (hf : 63 < f) : zef f (a, (), (all, ()), ()) = some (sqGo all 63 a, ()) := by
  unfold zef zmw
  have := zCb f all 63 a f (by omega) ha hf
  have e : w64 ((zz a.length) - 2) = 2 * ((63 : Nat) : Int) := by rw [zz_eq, ha, w64_id] <;> omega
  simp only [e]
  exact this
theorem zCc (f : Nat) (a : List Int) (ha : a.length = 128) : ∀ (d i : Nat) (out : List Knot) (fuel : Nat), i + d = 128 → out.length ≤ i → d < fuel →
    iter (zid f) fuel ((i : Int), a, out) = some ((out ++ listGo i (a.drop i), ()), ())
  | 0, i, out, fuel + 1, hi, ho, hf => by
    rw [iter]
    show zd8 f _ _ = _
    unfold zd8
    have h1 : ¬ ((i : Int) < (a.length : Int)) := by omega
    have h2 : a.drop i = [] := List.drop_eq_nil_of_le (by omega)
    simp [h1, h2, listGo, zz_eq]
  | d + 1, i, out, fuel + 1, hi, ho, hf => by
    rw [iter]
    show zd8 f _ _ = _
    unfold zd8
    have h1 : (i : Int) < (a.length : Int) := by omega
    have h2 : (0 : Int) ≤ (i : Int) := by omega
    have h3 : w64 ((i : Int) + 1) = (i : Int) + 1 := by rw [w64_id] <;> omega
    have ih : ∀ out : List Knot, out.length ≤ i + 1 → iter (zid f) fuel ((i : Int) + 1, a, out) = some ((out ++ listGo (i + 1) (a.drop (i + 1)), ()), ()) := fun out ho => by
      exact_mod_cast zCc f a ha d (i + 1) out fuel (by omega) ho (by omega)
    have h4 : out.length + 1 < LIM := by simp only [LIM]; omega
    rw [zcZ 0 (show i < a.length by omega)]
    simp only [h1, h2, h3, zz_eq, Int.toNat_natCast, decide_true, cond_true, listGo, List.length_singleton, h4]
    by_cases c : 0 < a.getD i 0
    · simp only [c, gt_iff_lt, decide_true, cond_true, if_true]
      rw [ih _ (by simp; omega)]
      simp
    · simp only [c, gt_iff_lt, decide_false, cond_false, if_false]
      exact ih _ (by omega)
theorem zPR (f : Nat) (a : List Int) (ha : a.length = 128) (hf : 128 < f) : zd9 f ((a, ()), ()) = some ((listGo 1 (a.drop 1), ()), ()) := by
  unfold zd9 zmu
  have := zCc f a ha 127 1 [] f (by omega) (by simp) (by omega)
  simpa using this
def addB (ks : List Knot) (all t : Int) : Bool := okB ks all && decide (0 ≤ t ∧ t ≤ 63 ∧ all < 2000)
def addS (ks : List Knot) (all t : Int) : List Knot := listGo 1 ((sqGo (w64 (all + 1)) 63 ((numsGo ks zeros).set (64 + t).toNat (w64 ((numsGo ks zeros).getD (64 + t).toNat 0 + 1)))).drop 1)
theorem zPS (f : Nat) (ks : List Knot) (all t : Int) (hl : ks.length < 4294967296) (hf : ks.length < f) (hf2 : 128 < f) :
    zbH f ((ks, all, ()), (t, ()), ()) = some (if addB ks all t = true then ((addS ks all t, w64 (all + 1), ()), (true, ()), ()) else (([], 0, ()), (false, ()), ())) := by
  unfold zbH zs7 addB addS
  simp only [zDr f ks all hl hf, Option.bind_some, in_eq]
  by_cases c : okB ks all = true
  · by_cases c2 : 0 ≤ t ∧ t ≤ 63
    · by_cases c3 : all ≥ 2000
      · have c4 : ¬ all < 2000 := by omega
        simp [c, c2, c3, c4]
      · have c4 : all < 2000 := by omega
        have e1 : w64 (64 + t) = 64 + t := by rw [w64_id] <;> omega
        have hn : (numsGo ks zeros).length = 128 := by rw [zlE]; simp [zeros]
        have e2 : 0 ≤ 64 + t := by omega
        have e3 : 64 + t < ((128 : Nat) : Int) := by omega
        have e4 : (64 + t).toNat < 128 := by omega
        simp only [c, c2, c3, c4, and_self, decide_true, decide_false, Bool.not_true, cond_false, zPP f ks hl (zlD c) hf, Option.bind_some, e1, zz_eq, hn, e2, e3, e4, cond_true, Bool.and_true]
        rw [zPQ f _ _ (by simpa using hn) (by omega)]
        simp only [Option.bind_some]
        rw [zPR f _ (by rw [zq7]; simpa using hn) hf2]
        simp
    · have : ¬ (0 ≤ t ∧ t ≤ 63 ∧ all < 2000) := by omega
      simp [c, c2, this]
  · simp [c]
def sumK (ka : List Knot) (kb : List Knot) (all : Int) : List Knot := listGo 0 (sqGo all 63 (numsGo kb (numsGo ka zeros)))
theorem zht : ∀ {ks : List Knot} {a : List Int}, GoodK ks → (numsGo ks a).getD 0 0 = a.getD 0 0
  | [], a, _ => rfl
  | k :: r, a, hg => by
    have hk := hg k (by simp)
    rw [numsGo, zht fun x hx => hg x (by simp [hx])]
    simp only [List.getD_eq_getElem?_getD]
    rw [List.getElem?_set_ne (by omega)]
theorem zPT {all : Int} {n : Nat} {a : List Int} (hn : 0 < n) : (sq1 all n a).getD 0 0 = a.getD 0 0 := by
  unfold sq1
  split
  · simp only [List.getD_eq_getElem?_getD]
    rw [List.getElem?_set_ne (by omega), List.getElem?_set_ne (by omega), List.getElem?_set_ne (by omega)]
  · rfl
theorem zq8 {all : Int} : ∀ {n : Nat} {a : List Int}, (sqGo all n a).getD 0 0 = a.getD 0 0
  | 0, a => rfl
  | n + 1, a => by rw [sqGo, zq8, zPT (by omega)]
theorem zDz {a : List Int} (h : a.getD 0 0 ≤ 0) : listGo 0 a = listGo 1 (a.drop 1) := by
  cases a with
  | nil => rfl
  | cons x r =>
    have : ¬ 0 < x := by simpa using h
    simp [listGo, this]
abbrev RankR := (List Knot × Int × Unit) × (Bool × Unit) × Unit
def noRank : RankR := (([], 0, ()), (false, ()), ())
theorem okB_all {ks : List Knot} {all : Int} (h : okB ks all = true) : 0 ≤ all ∧ all ≤ 2000 := by
  unfold okB at h
  split at h
  · cases h
  · omega
theorem zDA {ks : List Knot} {all t : Int} (h : addB ks all t = true) : addS ks all t = sumK ks [(64 + t, 1, ())] (all + 1) ∧ w64 (all + 1) = all + 1 := by
  unfold addB at h
  simp only [Bool.and_eq_true, decide_eq_true_eq] at h
  have b := okB_all h.1
  have e : w64 (all + 1) = all + 1 := by rw [w64_id] <;> omega
  refine ⟨?_, e⟩
  unfold addS sumK
  rw [e]
  have g1 : GoodK [((64 + t, 1, ()) : Knot)] := fun k hk => by
    simp only [List.mem_singleton] at hk
    subst hk
    show 1 ≤ 64 + t ∧ 64 + t ≤ 127 ∧ (1 : Int) ≤ 1 ∧ (1 : Int) ≤ 2000
    omega
  rw [← zDz]
  · rfl
  · rw [zq8]
    have := zht (ks := [((64 + t, 1, ()) : Knot)]) (a := numsGo ks zeros) g1
    rw [zht (zlD h.1)] at this
    show (numsGo [((64 + t, 1, ()) : Knot)] (numsGo ks zeros)).getD 0 0 ≤ 0
    rw [this]; decide
end Go.Proofs.YtdgdoeknpakmlaaGreat.Den
namespace Go.Proofs.YtdgdoeknpakmlaaGreat.Den
open Go
def Bytes (b : List Int) : Prop := b.length ≤ 2000 ∧ ∀ x ∈ b, 0 ≤ x ∧ x ≤ 255
theorem Bytes.getD {b : List Int} (h : Bytes b) (i : Nat) : 0 ≤ b.getD i 0 ∧ b.getD i 0 ≤ 255 := by
  rw [List.getD_eq_getElem?_getD]
  cases hi : b[i]? with
  | none => simp
  | some x => simpa using h.2 x (List.mem_of_getElem? hi)
def Rd (b : List Int) (p q : Int) (s : List Int × Int × Unit) : Prop := s.1 = b ∧ p ≤ s.2.1 ∧ s.2.1 ≤ q
theorem Rd.trans {b : List Int} {p q r : Int} {s t : List Int × Int × Unit} (h1 : Rd b p q s) (h2 : Rd b s.2.1 (s.2.1 + r) t) : Rd b p (q + r) t := ⟨h2.1, by have := h1.2; have := h2.2; omega, by have := h1.2; have := h2.2; omega⟩
end Go.Proofs.YtdgdoeknpakmlaaGreat.Den
namespace Go.Proofs.YtdgdoeknpakmlaaGreat.Den
open Go
def add1 (l : List Int) (i : Nat) (n : Int) : List Int := l.set i (w64 (l.getD i 0 + n))
def roughAdd (rs : List (List Int)) (t n : Int) : List (List Int) × Bool :=
  cond (roughB rs && (thingB t && decide (0 ≤ n ∧ n ≤ w64 (2000 - isum (rs.getD 0 []))))) ([add1 (rs.getD 0 []) (pl 0 t) n, add1 (rs.getD 1 []) (pl 1 t) n, add1 (rs.getD 2 []) (pl 2 t) n], true) ([], false)
theorem copy_eq (f : Nat) (a b c : List Int) (ha : a.length = 8) (hb : b.length = 8) (hc : c.length = 8) : zl3 f (([a, b, c], ()), ()) = some (([a, b, c], ()), ()) := by
  show zdF f a b c = _
  unfold zdF
  simp only [ha, hb, hc, LIM, List.nil_append]
  rfl
theorem zPU (f : Nat) (rs : List (List Int)) (t n : Int) (hf : 8 < f) (hr : ∀ r ∈ rs, r.length < f ∧ r.length < 4294967296) : zhW f ((rs, ()), (t, ()), (n, ()), ()) = some (((roughAdd rs t n).1, ()), ((roughAdd rs t n).2, ()), ()) := by
  show zl9 f rs t n = _
  unfold zl9 roughAdd
  simp only [zq4 f rs hf hr, zhs, Option.bind_some]
  cases h : roughB rs
  · rfl
  cases ht : thingB t
  · rfl
  obtain ⟨a, b, c, rfl, ha, hb, hc, -, -⟩ := zaP h
  have l0 := row_len ha
  have l1 := row_len hb
  have l2 := row_len hc
  have i0 := isum_eq f a (by omega) (by omega)
  have g0 : decide ((0 : Int) < zz ([a, b, c] : List (List Int)).length) = true := rfl
  have g1 : ([a, b, c] : List (List Int)).getD (Int.toNat 0) [] = a := rfl
  simp only [Bool.not_true, cond_false, g0, cond_true, g1, i0, in_eq, Option.bind_some, List.getD_cons_zero, Bool.true_and]
  by_cases cn : 0 ≤ n ∧ n ≤ w64 (2000 - isum a)
  · have p0 := zq5 f 0 t (by omega) ht
    have p1 := zq5 f 1 t (by omega) ht
    have p2 := zq5 f 2 t (by omega) ht
    rw [show ((0 : Nat) : Int) = 0 from rfl] at p0
    rw [show ((1 : Nat) : Int) = 1 from rfl] at p1
    rw [show ((2 : Nat) : Int) = 2 from rfl] at p2
    have q0 := pl_lt 0 t
    have q1 := pl_lt 1 t
    have q2 := pl_lt 2 t
    have d1 : ([a, b, c] : List (List Int)).getD 1 [] = b := rfl
    have d2 : ([a, b, c] : List (List Int)).getD 2 [] = c := rfl
    have z0 : (pl 0 t : Int) < 8 := by omega
    have z1 : (pl 1 t : Int) < 8 := by omega
    have z2 : (pl 2 t : Int) < 8 := by omega
    simp only [cn, and_self, decide_true, Bool.not_true, cond_false, copy_eq f a b c l0 l1 l2, p0, p1, p2, Option.bind_some, List.getD_cons_zero, d1, d2, zz_eq, l0, l1, l2, le_cast, show ((8 : Nat) : Int) = 8 from rfl, z0, z1, z2, q0, q1, q2, Int.toNat_natCast, cond_true]
    rfl
  · simp only [cn, decide_false, Bool.not_false, cond_true, cond_false]
def zipAdd (a b : List Int) : List Int := List.zipWith (fun u v => w64 (u + v)) a b
def putM (m : Int) : List Int → Bool → List Int
  | [], done => cond done [] [m]
  | x :: r, done => cond (!done && decide (x ≥ m)) (m :: cond (x != m) (x :: putM m r true) (putM m r true)) (cond (x != m) (x :: putM m r done) (putM m r done))
def few6 (l : List Int) (m : Int) : List Int := (putM m l false).take 6
theorem zPV {l : List Int} : List.take (Int.toNat (if (6 : Int) < zz l.length then (6 : Int) else zz l.length) - 0) (List.drop 0 l) = l.take 6 := by
  rw [List.drop_zero, Nat.sub_zero]
  split
  · rfl
  · rename_i h
    rw [zz_eq] at h
    rw [zz_eq, Int.toNat_natCast, List.take_of_length_le (Nat.le_refl _), List.take_of_length_le (by omega)]
theorem min_nn {n : Nat} : (0 : Int) ≤ if (6 : Int) < zz n then (6 : Int) else zz n := by
  have := zz_eq n
  split <;> omega
theorem min_le {n : Nat} : (if (6 : Int) < zz n then (6 : Int) else zz n) ≤ zz n := by split <;> omega
theorem zDB (f : Nat) (l : List Int) (m : Int) (hl : l.length < 100000000) : ∀ (d i : Nat) (done : Bool) (out : List Int) (fuel : Nat), i + d = l.length → out.length ≤ 2 * i → d < fuel →
    iter (zdL f) fuel ((i : Int), l, done, m, out) = some (((out ++ putM m (l.drop i) done).take 6, ()), ())
  | 0, i, done, out, fuel + 1, hi, ho, hf => by
    rw [iter]
    show zdK f _ _ = _
    unfold zdK
    obtain rfl : i = l.length := by omega
    have h1 : out.length + 1 < LIM := by simp only [LIM]; omega
    simp only [zPV, min_nn, min_le, h1, decide_true, cond_true]
    simp only [zz_eq, zc, decide_false, cond_false, List.drop_eq_nil_of_le (Nat.le_refl _)]
    cases done
    · rfl
    · simp only [putM, cond_true, Bool.not_true, cond_false, List.append_nil]
  | d + 1, i, done, out, fuel + 1, hi, ho, hf => by
    rw [iter]
    show zdK f _ _ = _
    unfold zdK
    have hlt : i < l.length := by omega
    have ih : ∀ done (out : List Int), out.length ≤ 2 * (i + 1) → iter (zdL f) fuel (((i + 1 : Nat) : Int), l, done, m, out) = some (((out ++ putM m (l.drop (i + 1)) done).take 6, ()), ()) := fun done out h =>
      zDB f l m hl d (i + 1) done out fuel (by omega) h (by omega)
    have h1 : out.length + 1 < LIM := by simp only [LIM]; omega
    have h2 : out.length + 1 + 1 < LIM := by simp only [LIM]; omega
    simp only [zz_eq, lt_cast hlt, le_cast, decide_true, cond_true, Int.toNat_natCast, w64_up (show i < 4294967296 by omega), h1, List.length_append, List.length_singleton, h2]
    rw [zaN 0 hlt]
    obtain ⟨x, hx⟩ : ∃ x : Int, l.getD i 0 = x := ⟨_, rfl⟩
    simp only [hx]
    have e1 := ih true (out ++ [m] ++ [x]) (by simp; omega)
    have e2 := ih true (out ++ [m]) (by simp; omega)
    have e3 := ih done (out ++ [x]) (by simp; omega)
    have e4 := ih done out (by omega)
    simp only [e1, e2, e3, e4]
    simp only [putM, List.append_assoc, List.singleton_append, List.cons_append, List.nil_append]
    cases done
    · by_cases c : x ≥ m
      · simp only [c, decide_true, Bool.not_false, Bool.true_and, cond_true]
        cases (x != m) <;> rfl
      · simp only [c, decide_false, Bool.not_false, Bool.true_and, cond_true, cond_false]
        cases (x != m) <;> rfl
    · simp only [Bool.not_true, Bool.false_and, cond_false]
      cases (x != m) <;> rfl
theorem zPW (f : Nat) (l : List Int) (m : Int) (hl : l.length < 100000000) (hf : l.length < f) : zhY f ((l, ()), (m, ()), ()) = some ((few6 l m, ()), ()) := by
  show iter (zdL f) f ((0 : Int), l, false, m, []) = _
  exact (zDB f l m hl l.length 0 false [] f (by omega) (by simp) hf).trans rfl
def fewAdd (ms : List Int) (t : Int) : List Int × Bool := cond (fewB ms && thingB t) (few6 ms (mark t), true) ([], false)
theorem zPX (f : Nat) (l : List Int) (t : Int) (hl : l.length < 100000000) (hf : l.length < f) : zh0 f ((l, ()), (t, ()), ()) = some (((fewAdd l t).1, ()), ((fewAdd l t).2, ()), ()) := by
  show zmg f l t = _
  unfold zmg fewAdd
  simp only [zDt f l (by omega) hf, zhs, zPN, zPW f l _ hl hf, Option.bind_some]
  cases fewB l <;> cases thingB t <;> rfl
end Go.Proofs.YtdgdoeknpakmlaaGreat.Den
namespace Go.Proofs.YtdgdoeknpakmlaaGreat.Den
open Go
def putP (t n : Int) : List Knot → Bool → List Knot
  | [], done => cond done [] [(t, n, ())]
  | x :: r, done => cond (!done && decide (x.1 ≥ t)) (cond (x.1 == t) ((t, w64 (n + x.2.1), ()) :: putP t n r true) ((t, n, ()) :: (x.1, x.2.1, ()) :: putP t n r true)) ((x.1, x.2.1, ()) :: putP t n r done)
theorem zhu (t n : Int) : ∀ (l : List Knot) (done : Bool), (putP t n l done).length ≤ l.length + 1
  | [], done => by cases done <;> simp [putP]
  | x :: r, done => by
    have h1 := zhu t n r true
    have h2 := zhu t n r done
    have h3 : ∀ (l : List Knot), (putP t n l true).length = l.length := by
      intro l
      induction l with
      | nil => rfl
      | cons x l ih => simp [putP, ih]
    unfold putP
    cases (!done && decide (x.1 ≥ t)) <;> cases (x.1 == t) <;> simp only [cond_true, cond_false, List.length_cons, h3] <;> omega
theorem zDC (f : Nat) (l : List Knot) (t n : Int) (hl : l.length < 100000000) : ∀ (d i : Nat) (done : Bool) (out : List Knot) (fuel : Nat), i + d = l.length → out.length ≤ 2 * i → d < fuel →
    iter (zdR f) fuel ((i : Int), l, done, t, n, out) = some ((out ++ putP t n (l.drop i) done, ()), ())
  | 0, i, done, out, fuel + 1, hi, ho, hf => by
    rw [iter]
    show zdQ f _ _ = _
    unfold zdQ
    obtain rfl : i = l.length := by omega
    have h1 : out.length + 1 < LIM := by simp only [LIM]; omega
    simp only [h1, decide_true, cond_true]
    simp only [zz_eq, zc, decide_false, cond_false, List.drop_eq_nil_of_le (Nat.le_refl _)]
    cases done
    · rfl
    · simp only [putP, cond_true, Bool.not_true, cond_false, List.append_nil]
  | d + 1, i, done, out, fuel + 1, hi, ho, hf => by
    rw [iter]
    show zdQ f _ _ = _
    unfold zdQ
    have hlt : i < l.length := by omega
    have ih : ∀ done (out : List Knot), out.length ≤ 2 * (i + 1) → iter (zdR f) fuel (((i + 1 : Nat) : Int), l, done, t, n, out) = some ((out ++ putP t n (l.drop (i + 1)) done, ()), ()) := fun done out h =>
      zDC f l t n hl d (i + 1) done out fuel (by omega) h (by omega)
    have h1 : out.length + 1 < LIM := by simp only [LIM]; omega
    have h2 : out.length + 1 + 1 < LIM := by simp only [LIM]; omega
    simp only [zz_eq, lt_cast hlt, le_cast, decide_true, cond_true, Int.toNat_natCast, w64_up (show i < 4294967296 by omega), h1, List.length_append, List.length_singleton, h2]
    rw [zaN (0, 0, ()) hlt]
    obtain ⟨x, hx⟩ : ∃ x : Knot, l.getD i (0, 0, ()) = x := ⟨_, rfl⟩
    simp only [hx]
    have e1 := ih true (out ++ [(t, n, ())] ++ [(x.1, x.2.1, ())]) (by simp; omega)
    have e2 := ih true (out ++ [(t, w64 (n + x.2.1), ())]) (by simp; omega)
    have e3 := ih done (out ++ [(x.1, x.2.1, ())]) (by simp; omega)
    simp only [e1, e2, e3]
    simp only [putP, List.append_assoc, List.singleton_append, List.cons_append, List.nil_append]
    cases done
    · by_cases c : x.1 ≥ t
      · simp only [c, decide_true, Bool.not_false, Bool.true_and, cond_true]
        cases (x.1 == t) <;> rfl
      · simp only [c, decide_false, Bool.not_false, Bool.true_and, cond_true, cond_false]
    · simp only [Bool.not_true, Bool.false_and, cond_false]
theorem zPY (f : Nat) (l : List Knot) (t n : Int) (hl : l.length < 100000000) (hf : l.length < f) : zh2 f ((l, ()), (t, n, ()), ()) = some ((putP t n l false, ()), ()) := by
  show iter (zdR f) f ((0 : Int), l, false, t, n, []) = _
  exact (zDC f l t n hl l.length 0 false [] f (by omega) (by simp) hf).trans rfl
def cntGe (m : Int) (l : List Knot) : Int := l.foldl (fun n x => cond (decide (x.2.1 ≥ m)) (w64 (n + 1)) n) 0
def over3 (l : List Knot) : Int := l.foldl (fun b x => cond (decide (cntGe x.2.1 l > 4)) (if x.2.1 > b then x.2.1 else b) b) 0
theorem zPZ (f : Nat) (l : List Knot) (hl : l.length < 100000000) (hf : l.length < f) : zh5 f ((l, ()), ()) = some ((over3 l, ()), ()) := by
  show iter (zh4 f) f ((0 : Int), l, (0 : Int)) = _
  refine (zO (st := zh4 f) (enc := fun i (b : Int) => ((i : Int), l, b)) (fun (x : Knot) k b => k (cond (decide (cntGe x.2.1 l > 4)) (if x.2.1 > b then x.2.1 else b) b)) (fun b => some ((b, ()), ())) l (0, 0, ()) ?_ ?_ f 0 hf).trans (fold_go (fun b x => cond (decide (cntGe x.2.1 l > 4)) (if x.2.1 > b then x.2.1 else b) b) (fun _ _ _ => rfl) l 0)
  · intro i b g hi
    show zbC f _ g _ = _
    unfold zbC
    simp only [zz_eq, lt_cast hi, decide_true, cond_true]
    refine (zO (st := zmj f g) (enc := fun k (n : Int) => ((k : Int), l, (i : Int), n, b)) (fun (y : Knot) k n => k (cond (decide (y.2.1 ≥ (l.getD i (0, 0, ())).2.1)) (w64 (n + 1)) n))
      (fun n => g (((i + 1 : Nat) : Int), l, cond (decide (n > 4)) (if (l.getD i (0, 0, ())).2.1 > b then (l.getD i (0, 0, ())).2.1 else b) b)) l (0, 0, ()) ?_ ?_ f 0 hf).trans (fold_go (fun n y => cond (decide (y.2.1 ≥ (l.getD i (0, 0, ())).2.1)) (w64 (n + 1)) n) (fun _ _ _ => rfl) l 0)
    · intro k n g2 hk
      show zbB f g g2 _ = _
      unfold zbB
      simp only [zz_eq, lt_cast hi, lt_cast hk, le_cast, decide_true, cond_true, Int.toNat_natCast, w64_up (show k < 4294967296 by omega)]
      cases decide ((l.getD k (0, 0, ())).2.1 ≥ (l.getD i (0, 0, ())).2.1) <;> rfl
    · intro n g2
      show zbB f g g2 _ = _
      unfold zbB
      simp only [zz_eq, zc, lt_cast hi, le_cast, decide_true, decide_false, cond_true, cond_false, Int.toNat_natCast, w64_up (show i < 4294967296 by omega)]
      cases decide (n > 4) <;> rfl
  · intro b g
    show zbC f _ g _ = _
    unfold zbC
    simp only [zz_eq, zc, decide_false, cond_false]
def less3 (m : Int) : List Knot → List Knot
  | [] => []
  | x :: r => cond (decide (x.2.1 > m)) ((x.1, w64 (x.2.1 - m), ()) :: less3 m r) (less3 m r)
theorem zDD (f : Nat) (l : List Knot) (m : Int) (hl : l.length < 100000000) : ∀ (d i : Nat) (out : List Knot) (fuel : Nat), i + d = l.length → out.length ≤ i → d < fuel →
    iter (zdX f) fuel ((i : Int), l, m, out) = some ((out ++ less3 m (l.drop i), ()), ())
  | 0, i, out, fuel + 1, hi, ho, hf => by
    rw [iter]
    show zdW f _ _ = _
    unfold zdW
    obtain rfl : i = l.length := by omega
    simp only [zz_eq, zc, decide_false, cond_false, List.drop_eq_nil_of_le (Nat.le_refl _), less3, List.append_nil]
  | d + 1, i, out, fuel + 1, hi, ho, hf => by
    rw [iter]
    show zdW f _ _ = _
    unfold zdW
    have hlt : i < l.length := by omega
    have ih : ∀ (out : List Knot), out.length ≤ i + 1 → iter (zdX f) fuel (((i + 1 : Nat) : Int), l, m, out) = some ((out ++ less3 m (l.drop (i + 1)), ()), ()) := fun out h =>
      zDD f l m hl d (i + 1) out fuel (by omega) h (by omega)
    have h1 : out.length + 1 < LIM := by simp only [LIM]; omega
    simp only [zz_eq, lt_cast hlt, le_cast, decide_true, cond_true, Int.toNat_natCast, w64_up (show i < 4294967296 by omega), h1]
    rw [zaN (0, 0, ()) hlt]
    obtain ⟨x, hx⟩ : ∃ x : Knot, l.getD i (0, 0, ()) = x := ⟨_, rfl⟩
    simp only [hx]
    have e1 := ih (out ++ [(x.1, w64 (x.2.1 - m), ())]) (by simp; omega)
    have e2 := ih out (by omega)
    simp only [e1, e2]
    simp only [less3, List.append_assoc, List.singleton_append, List.cons_append, List.nil_append]
    cases decide (x.2.1 > m) <;> rfl
theorem zP0 (f : Nat) (l : List Knot) (m : Int) (hl : l.length < 100000000) (hf : l.length < f) : zh7 f ((l, ()), (m, ()), ()) = some ((less3 m l, ()), ()) := by
  show iter (zdX f) f ((0 : Int), l, m, []) = _
  exact (zDD f l m hl l.length 0 [] f (by omega) (by simp) hf).trans rfl
abbrev TopD := List Knot × Int × Int × Unit
def cut3 (l : List Knot) (lost all : Int) : TopD := (less3 (over3 l) l, w64 (lost + over3 l), all, ())
theorem zP1 (f : Nat) (l : List Knot) (lost all : Int) (hl : l.length < 100000000) (hf : l.length < f) : zh8 f ((l, lost, all, ()), ()) = some (cut3 l lost all, ()) := by
  show zmn f l lost all = _
  unfold zmn
  simp only [zPZ f l hl hf, zP0 f l _ hl hf, Option.bind_some]
  rfl
def noTop : TopD := ([], 0, 0, ())
def topAdd (ps : List Knot) (lost all t : Int) : TopD × Bool := cond (topB ps lost all && (thingB t && decide (all < 2000))) (cut3 (putP t 1 ps false) lost (w64 (all + 1)), true) (noTop, false)
theorem zP2 (f : Nat) (ps : List Knot) (lost all t : Int) (hl : ps.length < 10000000) (hf : ps.length + 1 < f) : zh9 f ((ps, lost, all, ()), (t, ()), ()) = some ((topAdd ps lost all t).1, ((topAdd ps lost all t).2, ()), ()) := by
  show zmq f ps lost all t = _
  have h1 := zhu t 1 ps false
  unfold zmq topAdd
  simp only [zDw f ps lost all (by omega) (by omega), zhs, Option.bind_some, zPY f ps t 1 (by omega) (by omega), zP1 f (putP t 1 ps false) lost _ (by omega) (by omega)]
  have : decide (all ≥ 2000) = !decide (all < 2000) := by
    by_cases h : all < 2000
    · have : ¬ all ≥ 2000 := by omega
      simp [h, this]
    · have : all ≥ 2000 := by omega
      simp [h, this]
  rw [this]
  cases topB ps lost all <;> cases thingB t <;> cases decide (all < 2000) <;> rfl
def putAll (a b : List Knot) : List Knot := b.foldl (fun k x => putP x.1 x.2.1 k false) a
theorem zDE : ∀ (b a : List Knot), (putAll a b).length ≤ a.length + b.length
  | [], a => Nat.le_refl _
  | x :: b, a => by
    have h1 := zDE b (putP x.1 x.2.1 a false)
    have h2 := zhu x.1 x.2.1 a false
    show (putAll (putP x.1 x.2.1 a false) b).length ≤ _
    simp only [List.length_cons]; omega
theorem four {ps : List Knot} {l a : Int} (h : topB ps l a = true) : ps.length ≤ 4 ∧ 0 ≤ l ∧ l ≤ 2000 ∧ 0 ≤ a ∧ a ≤ 2000 := by
  unfold topB at h
  simp only [Bool.and_eq_true, decide_eq_true_eq] at h
  exact h.1
abbrev SumD := List (List Int) × List Int × List Knot × Int × Int × List Knot × Int × Unit
def noSum : SumD := ([], [], [], 0, 0, [], 0, ())
def sumBD (s : SumD) : Bool := sumB s.1 s.2.1 s.2.2.1 s.2.2.2.1 s.2.2.2.2.1 s.2.2.2.2.2.1 s.2.2.2.2.2.2.1
def rankAdd (ks : List Knot) (all t : Int) : (List Knot × Int × Unit) × Bool := cond (addB ks all t) ((addS ks all t, w64 (all + 1), ()), true) (([], 0, ()), false)
theorem zP3 (f : Nat) (ks : List Knot) (all t : Int) (hl : ks.length < 4294967296) (hf : ks.length < f) (hf2 : 128 < f) :
    zbH f ((ks, all, ()), (t, ()), ()) = some ((rankAdd ks all t).1, ((rankAdd ks all t).2, ()), ()) := by
  rw [zPS f ks all t hl hf hf2]; unfold rankAdd
  cases addB ks all t <;> rfl
structure SmallS (s : SumD) (n : Nat) : Prop where
  rows : s.1.length ≤ n
  row : ∀ r ∈ s.1, r.length ≤ n
  marks : s.2.1.length ≤ n
  pairs : s.2.2.1.length ≤ n
  knots : s.2.2.2.2.2.1.length ≤ n
theorem zDF (f : Nat) (s : SumD) {n : Nat} (hs : SmallS s n) (hn : n < 4294967296) (hf : 8 < f) (hnf : n < f) : zdE f (s, ()) = some ((sumBD s, ()), ()) :=
  zPL f s.1 s.2.1 s.2.2.1 s.2.2.2.1 s.2.2.2.2.1 s.2.2.2.2.2.1 s.2.2.2.2.2.2.1 hf (fun r hr => by have := hs.row r hr; omega) (by have := hs.marks; omega) (by have := hs.pairs; omega) (by have := hs.knots; omega)
theorem zDG (f : Nat) (s : SumD) {n : Nat} (hs : SmallS s n) (hn : n < 4294967296) (hf : 8 < f) (hnf : n < f) : zcl f (s, ()) = some ((sumBD s, ()), ()) :=
  zPM f s.1 s.2.1 s.2.2.1 s.2.2.2.1 s.2.2.2.2.1 s.2.2.2.2.2.1 s.2.2.2.2.2.2.1 hf (by have := hs.knots; omega)
def sumAdd (s : SumD) (t : Int) : SumD × Bool := cond (sumBD s && (thingB t && decide (s.2.2.2.2.1 < 2000)))
  (((roughAdd s.1 t 1).1, (fewAdd s.2.1 t).1, (topAdd s.2.2.1 s.2.2.2.1 s.2.2.2.2.1 t).1.1, (topAdd s.2.2.1 s.2.2.2.1 s.2.2.2.2.1 t).1.2.1, (topAdd s.2.2.1 s.2.2.2.1 s.2.2.2.2.1 t).1.2.2.1, (rankAdd s.2.2.2.2.2.1 s.2.2.2.2.2.2.1 t).1.1, (rankAdd s.2.2.2.2.2.1 s.2.2.2.2.2.2.1 t).1.2.1, ()), true) (noSum, false)
theorem zP4 (f : Nat) (s : SumD) (t : Int) {n : Nat} (hs : SmallS s n) (hn : n < 1000000) (hnf : n + 1 < f) (hf : 128 < f) : zbI f (s, (t, ()), ()) = some ((sumAdd s t).1, ((sumAdd s t).2, ()), ()) := by
  obtain ⟨rs, ms, ps, lost, tall, ks, rall, ⟨⟩⟩ := s
  have e0 := zDF f (rs, ms, ps, lost, tall, ks, rall, ()) hs (by omega) (by omega) (by omega)
  have h1 := hs.rows; have h2 := hs.row; have h3 := hs.marks; have h4 := hs.pairs; have h5 := hs.knots
  simp only at h1 h2 h3 h4 h5
  show zeg f rs ms ps lost tall ks rall t = _
  unfold zeg sumAdd
  simp only [e0, zhs, Option.bind_some, zPU f rs t 1 (by omega) (fun r hr => by have := h2 r hr; omega), zPX f ms t (by omega) (by omega), zP2 f ps lost tall t (by omega) (by omega), zP3 f ks rall t (by omega) (by omega) (by omega)]
  have : decide (tall ≥ 2000) = !decide (tall < 2000) := by
    by_cases h : tall < 2000
    · have : ¬ tall ≥ 2000 := by omega
      simp [h, this]
    · have : tall ≥ 2000 := by omega
      simp [h, this]
  rw [this]
  cases sumBD (rs, ms, ps, lost, tall, ks, rall, ()) <;> cases thingB t <;> cases decide (tall < 2000) <;> rfl
end Go.Proofs.YtdgdoeknpakmlaaGreat.Den
namespace Go.Proofs.YtdgdoeknpakmlaaGreat.Den
open Go
theorem SmallS.mono {s : SumD} {n m : Nat} (h : SmallS s n) (hm : n ≤ m) : SmallS s m :=
  ⟨Nat.le_trans h.rows hm, fun r hr => Nat.le_trans (h.row r hr) hm, Nat.le_trans h.marks hm, Nat.le_trans h.pairs hm, Nat.le_trans h.knots hm⟩
theorem SmallS.all {s : SumD} {n : Nat} (h : SmallS s n) (a : Int) : SmallS (s.1, s.2.1, s.2.2.1, s.2.2.2.1, a, s.2.2.2.2.2.1, s.2.2.2.2.2.2.1, ()) n := ⟨h.rows, h.row, h.marks, h.pairs, h.knots⟩
theorem SmallS.kept {s : SumD} {n : Nat} (h : SmallS s n) (x : Int) : SmallS (s.1, s.2.1 ++ [x], s.2.2.1, s.2.2.2.1, s.2.2.2.2.1, s.2.2.2.2.2.1, s.2.2.2.2.2.2.1, ()) (n + 1) :=
  ⟨Nat.le_succ_of_le h.rows, fun r hr => Nat.le_succ_of_le (h.row r hr), by show (s.2.1 ++ [x]).length ≤ n + 1; have := h.marks; rw [List.length_append, List.length_singleton]; omega, Nat.le_succ_of_le h.pairs, Nat.le_succ_of_le h.knots⟩
theorem SmallS.rough {s u : SumD} {n : Nat} (h : SmallS s n) (hu : SmallS u n) : SmallS (u.1, s.2.1, s.2.2.1, s.2.2.2.1, s.2.2.2.2.1, s.2.2.2.2.2.1, s.2.2.2.2.2.2.1, ()) n := ⟨hu.rows, hu.row, h.marks, h.pairs, h.knots⟩
section
variable (f : Nat) (s : SumD) (hs : SmallS s 129) (hf : 300 < f)
include hs hf
end
end Go.Proofs.YtdgdoeknpakmlaaGreat.Den
namespace Go.Proofs.YtdgdoeknpakmlaaGreat.Den
open Go
def ascN (p : Int → Bool) : Nat → Int → List Int
  | 0, _ => []
  | d + 1, i => cond (p i) (i :: ascN p d (i + 1)) (ascN p d (i + 1))
def fst6 (p : Int → Bool) : List Int := (ascN p 64 0).take 6
theorem zDH {p q : Int → Bool} : ∀ {d : Nat} {i : Int}, (∀ k, i ≤ k → k < i + d → p k = q k) → ascN p d i = ascN q d i
  | 0, i, _ => rfl
  | d + 1, i, h => by
    unfold ascN
    rw [h i (Int.le_refl _) (by omega), zDH (d := d) (i := i + 1) fun k h1 h2 => h k (by omega) (by omega)]
theorem zhv {p : Int → Bool} {x : Int} : ∀ {d : Nat} {i : Int}, x ∈ ascN p d i ↔ i ≤ x ∧ x < i + d ∧ p x = true
  | 0, i => by simp [ascN]; omega
  | d + 1, i => by
    have ih := zhv (p := p) (x := x) (d := d) (i := i + 1)
    unfold ascN
    cases hp : p i
    · simp only [cond_false, ih]
      constructor
      · rintro ⟨h1, h2, h3⟩; exact ⟨by omega, by omega, h3⟩
      · rintro ⟨h1, h2, h3⟩
        have : x ≠ i := fun h => by rw [h, hp] at h3; cases h3
        exact ⟨by omega, by omega, h3⟩
    · simp only [cond_true, List.mem_cons, ih]
      constructor
      · rintro (rfl | ⟨h1, h2, h3⟩)
        · exact ⟨by omega, by omega, hp⟩
        · exact ⟨by omega, by omega, h3⟩
      · rintro ⟨h1, h2, h3⟩
        by_cases h : x = i
        · exact .inl h
        · exact .inr ⟨by omega, by omega, h3⟩
theorem ascN_go {p : Int → Bool} : ∀ {d : Nat} {i b : Int}, b < i → i + d ≤ 64 → fewGo (ascN p d i) b = true
  | 0, i, b, _, _ => rfl
  | d + 1, i, b, h, h2 => by
    unfold ascN
    cases p i
    · exact ascN_go (by omega) (by omega)
    · simp only [cond_true, fewGo, Bool.and_eq_true, decide_eq_true_eq]
      exact ⟨by omega, ascN_go (by omega) (by omega)⟩
theorem zDI : ∀ {n : Nat} {l : List Int} {b : Int}, fewGo l b = true → fewGo (l.take n) b = true
  | 0, l, b, _ => by simp [fewGo]
  | n + 1, [], b, _ => rfl
  | n + 1, x :: l, b, h => by
    simp only [fewGo, Bool.and_eq_true, List.take_succ_cons] at h ⊢
    exact ⟨h.1, zDI h.2⟩
theorem zc1 : ∀ {l : List Int} {b x : Int}, fewGo l b = true → x ∈ l → b < x ∧ x ≤ 63
  | [], b, x, _, h => by cases h
  | y :: l, b, x, h, hx => by
    simp only [fewGo, Bool.and_eq_true, decide_eq_true_eq] at h
    rcases List.mem_cons.1 hx with rfl | hx
    · exact h.1
    · have := zc1 h.2 hx; omega
theorem zlF (p : Int → Bool) : fewB (fst6 p) = true := by
  unfold fewB fst6
  simp only [Bool.and_eq_true, decide_eq_true_eq]
  exact ⟨by rw [List.length_take]; omega, zDI (ascN_go (by omega) (by omega))⟩
theorem asc_of : ∀ {d : Nat} {i b : Int} {l : List Int}, fewGo l b = true → b + 1 = i → i + d = 64 → l = ascN (fun k => l.contains k) d i
  | 0, i, b, l, h, hb, hi => by
    cases l with
    | nil => rfl
    | cons x l => have := zc1 h (List.mem_cons_self ..); omega
  | d + 1, i, b, l, h, hb, hi => by
    unfold ascN
    by_cases hx : ∃ r, l = i :: r
    · obtain ⟨r, rfl⟩ := hx
      simp only [List.contains_cons, beq_self_eq_true, Bool.true_or, cond_true]
      simp only [fewGo, Bool.and_eq_true] at h
      have ih := asc_of (d := d) (i := i + 1) h.2 rfl (by omega)
      conv => lhs; rw [ih]
      congr 1
      refine zDH fun k h1 h2 => ?_
      have : (k == i) = false := by simpa using (by omega : k ≠ i)
      simp only [List.contains_cons, this, Bool.false_or]
    · have hne : ∀ y ∈ l, i < y := by
        cases l with
        | nil => intro y hy; cases hy
        | cons x r =>
          have h1 := zc1 h (List.mem_cons_self ..)
          have h2 : x ≠ i := fun e => hx ⟨r, by rw [e]⟩
          intro y hy
          simp only [fewGo, Bool.and_eq_true] at h
          rcases List.mem_cons.1 hy with rfl | hy
          · omega
          · have := zc1 h.2 hy; omega
      have hc : l.contains i = false := by
        cases hl : l.contains i
        · rfl
        · have := hne i (List.contains_iff_mem.1 hl); omega
      simp only [hc, cond_false]
      have h' : fewGo l i = true := by
        cases l with
        | nil => rfl
        | cons x r =>
          simp only [fewGo, Bool.and_eq_true, decide_eq_true_eq] at h ⊢
          exact ⟨⟨hne x (List.mem_cons_self ..), h.1.2⟩, h.2⟩
      exact asc_of (d := d) (i := i + 1) h' rfl (by omega)
theorem zDJ {l : List Int} (h : fewB l = true) : l = fst6 fun k => l.contains k := by
  have h6 := six h
  unfold fewB at h
  simp only [Bool.and_eq_true] at h
  have := asc_of (d := 64) (i := 0) h.2 rfl rfl
  unfold fst6
  rw [← this, List.take_of_length_le h6]
theorem cutM_ne {m : Int} {l : List Int} (h : ∀ x ∈ l, m < x) : cutM m l = l := by
  cases l with
  | nil => rfl
  | cons x r =>
    have := h x (List.mem_cons_self ..)
    have : (x == m) = false := by simpa using (by omega : x ≠ m)
    simp only [cutM, this, cond_false]
theorem cutM_eq {m : Int} {l : List Int} : cutM m (m :: l) = l := by simp [cutM]
theorem zho : ∀ {f : Nat}, mergeM f [] [] = []
  | 0 => rfl
  | f + 1 => rfl
theorem zq9 {p q : Int → Bool} : ∀ {d : Nat} {i : Int} {f : Nat}, d ≤ f → mergeM f (ascN p d i) (ascN q d i) = ascN (fun k => p k || q k) d i
  | 0, i, f, h => zho
  | d + 1, i, 0, h => by omega
  | d + 1, i, f + 1, h => by
    have ih := zq9 (p := p) (q := q) (d := d) (i := i + 1) (f := f) (by omega)
    have ih' := zq9 (p := p) (q := q) (d := d) (i := i + 1) (f := f + 1) (by omega)
    have gp : ∀ x ∈ ascN p d (i + 1), i < x := fun x hx => by have := (zhv.1 hx).1; omega
    have gq : ∀ x ∈ ascN q d (i + 1), i < x := fun x hx => by have := (zhv.1 hx).1; omega
    unfold ascN
    cases hp : p i <;> cases hq : q i <;> simp only [cond_true, cond_false, Bool.or_self, Bool.or_true, Bool.or_false, Bool.true_or, Bool.false_or]
    · exact ih'
    · have e : headM (ascN p d (i + 1)) (i :: ascN q d (i + 1)) = i := by
        cases hl : ascN p d (i + 1) with
        | nil => rfl
        | cons x r =>
          have : i < x := gp x (by rw [hl]; exact List.mem_cons_self ..)
          simp only [headM, this, if_true]
      show cond _ _ _ = _
      simp only [List.isEmpty_cons, Bool.and_false, cond_false, e, cutM_eq, cutM_ne gp, ih]
    · have e : headM (i :: ascN p d (i + 1)) (ascN q d (i + 1)) = i := by
        cases hl : ascN q d (i + 1) with
        | nil => rfl
        | cons x r =>
          have : ¬ x < i := by have := gq x (by rw [hl]; exact List.mem_cons_self ..); omega
          simp only [headM, this, if_false]
      show cond _ _ _ = _
      simp only [List.isEmpty_cons, Bool.false_and, cond_false, e, cutM_eq, cutM_ne gq, ih]
    · have e : headM (i :: ascN p d (i + 1)) (i :: ascN q d (i + 1)) = i := by simp [headM]
      show cond _ _ _ = _
      simp only [List.isEmpty_cons, Bool.and_self, cond_false, e, cutM_eq, ih]
theorem zDK : ∀ {n f f' k k' : Nat} {a b : List Int}, n ≤ f → n ≤ f' → n ≤ k → n ≤ k' → (mergeM f a b).take n = (mergeM f' (a.take k) (b.take k')).take n
  | 0, _, _, _, _, _, _, _, _, _, _ => by simp
  | n + 1, f + 1, f' + 1, k + 1, k' + 1, a, b, h1, h2, h3, h4 => by
    have cut : ∀ (m : Int) (a : List Int) (k : Nat), n + 1 ≤ k + 1 → ∃ k2, n ≤ k2 ∧ cutM m (a.take (k + 1)) = (cutM m a).take k2 := by
      intro m a k hk
      cases a with
      | nil => exact ⟨k, by omega, by simp [cutM]⟩
      | cons x r =>
        cases hx : x == m
        · exact ⟨k + 1, by omega, by simp only [List.take_succ_cons, cutM, hx, cond_false]⟩
        · exact ⟨k, by omega, by simp only [List.take_succ_cons, cutM, hx, cond_true]⟩
    have hh : headM (a.take (k + 1)) (b.take (k' + 1)) = headM a b := by
      cases a <;> cases b <;> rfl
    have hb : ((a.take (k + 1)).isEmpty && (b.take (k' + 1)).isEmpty) = (a.isEmpty && b.isEmpty) := by
      cases a <;> cases b <;> rfl
    obtain ⟨k2, g1, e1⟩ := cut (headM a b) a k h3
    obtain ⟨k3, g2, e2⟩ := cut (headM a b) b k' h4
    unfold mergeM
    rw [hb, hh, e1, e2]
    cases (a.isEmpty && b.isEmpty)
    · simp only [cond_false, List.take_succ_cons]
      rw [zDK (n := n) (f := f) (f' := f') (k := k2) (k' := k3) (by omega) (by omega) g1 g2]
    · rfl
theorem zP5 (p q : Int → Bool) : leastL (fst6 p) (fst6 q) = fst6 fun k => p k || q k := by
  unfold leastL fst6
  rw [← zDK (n := 6) (f := 64) (f' := 12) (k := 6) (k' := 6) (by omega) (by omega) (by omega) (by omega), zq9 (Nat.le_refl _)]
theorem fst6_ok (p q : Int → Bool) : leastOK (fst6 p) (fst6 q) = true := by
  have g : ∀ p, (fst6 p).length ≤ 6 ∧ (fst6 p).all (fun x => decide (x ≤ 63)) = true := fun p => by
    have h := zlF p
    refine ⟨six h, ?_⟩
    unfold fewB at h
    simp only [Bool.and_eq_true] at h
    rw [List.all_eq_true]
    intro x hx
    exact decide_eq_true (zc1 h.2 hx).2
  unfold leastOK
  simp only [(g p).1, (g q).1, (g p).2, (g q).2, decide_true, Bool.and_self]
theorem zra {m : Int} : ∀ {l : List Int}, (∀ x ∈ l, m < x) → putM m l true = l
  | [], _ => rfl
  | x :: r, h => by
    have : (x != m) = true := by simpa using (by have := h x (List.mem_cons_self ..); omega : x ≠ m)
    unfold putM
    simp only [Bool.not_true, Bool.false_and, cond_false, this, cond_true, zra fun y hy => h y (List.mem_cons_of_mem _ hy)]
theorem zrb : ∀ {l : List Int} {f : Nat}, l.length ≤ f → mergeM f l [] = l
  | [], f, _ => zho
  | x :: r, 0, h => by simp at h
  | x :: r, f + 1, h => by
    show cond _ _ _ = _
    simp only [List.isEmpty_cons, Bool.false_and, cond_false, headM, cutM_eq]
    rw [show cutM x ([] : List Int) = [] from rfl, zrb (by simpa using h)]
theorem zDL {m : Int} : ∀ {l : List Int} {b : Int} {f : Nat}, fewGo l b = true → l.length + 1 ≤ f → putM m l false = mergeM f l [m]
  | [], b, 0, _, h => by omega
  | [], b, f + 1, _, h => by
    show [m] = cond _ _ _
    simp only [List.isEmpty_cons, Bool.and_false, cond_false, headM, cutM_eq]
    rw [show cutM m ([] : List Int) = [] from rfl, zho]
  | x :: r, b, 0, _, h => by omega
  | x :: r, b, f + 1, hg, h => by
    simp only [fewGo, Bool.and_eq_true] at hg
    simp only [List.length_cons] at h
    have gr : ∀ y ∈ r, x < y := fun y hy => (zc1 hg.2 hy).1
    unfold putM
    show _ = cond _ _ _
    simp only [List.isEmpty_cons, Bool.and_self, cond_false, headM, Bool.not_false, Bool.true_and]
    by_cases c1 : x ≥ m
    · by_cases c2 : x = m
      · subst c2
        have e : ¬ x < x := by omega
        simp only [c1, decide_true, cond_true, bne_self_eq_false, cond_false, zra gr, e, if_false, cutM_eq]
        rw [zrb (by omega)]
      · have e1 : (x != m) = true := by simpa using c2
        have e2 : m < x := by omega
        have e3 : (x == m) = false := by simpa using c2
        simp only [c1, decide_true, cond_true, e1, zra (fun y hy => Int.lt_trans e2 (gr y hy)), e2, if_true, cutM_eq]
        rw [show cutM m (x :: r) = x :: r from by simp only [cutM, e3, cond_false], zrb (by simp; omega)]
    · have e1 : (x != m) = true := by simpa using (by omega : x ≠ m)
      have e2 : ¬ m < x := by omega
      have e3 : (m == x) = false := by simpa using (by omega : m ≠ x)
      simp only [c1, decide_false, cond_false, e1, cond_true, e2, if_false, cutM_eq]
      rw [show cutM x [m] = [m] from by simp only [cutM, e3, cond_false], zDL (f := f) hg.2 (by omega)]
theorem one_asc {m : Int} : ∀ {d : Nat} {i : Int}, i ≤ m → m < i + d → ascN (fun k => k == m) d i = [m]
  | 0, i, h1, h2 => by omega
  | d + 1, i, h1, h2 => by
    unfold ascN
    by_cases h : i = m
    · subst h
      have none : ∀ {d : Nat} {j : Int}, i < j → ascN (fun k => k == i) d j = [] := by
        intro d
        induction d with
        | zero => intro j _; rfl
        | succ d ih =>
          intro j hj
          unfold ascN
          have : (j == i) = false := by simpa using (by omega : j ≠ i)
          simp only [this, cond_false, ih (by omega : i < j + 1)]
      simp only [beq_self_eq_true, cond_true, none (by omega : i < i + 1)]
    · have : (i == m) = false := by simpa using h
      simp only [this, cond_false]
      exact one_asc (by omega) (by omega)
theorem zDM {m : Int} (h0 : 0 ≤ m) (h1 : m ≤ 63) : fst6 (fun k => k == m) = [m] := by
  unfold fst6
  rw [one_asc h0 (by omega)]; rfl
theorem zDN {l : List Int} {m : Int} (h : fewB l = true) (h0 : 0 ≤ m) (h1 : m ≤ 63) : few6 l m = leastL l [m] := by
  have h6 := six h
  unfold fewB at h
  simp only [Bool.and_eq_true] at h
  unfold few6 leastL
  rw [zDL h.2 (f := 12) (by omega)]
theorem zP6 (p : Int → Bool) {m : Int} (h0 : 0 ≤ m) (h1 : m ≤ 63) : few6 (fst6 p) m = fst6 fun k => p k || k == m := by
  rw [zDN (zlF p) h0 h1, ← zDM h0 h1, zP5]
theorem zrc {t : Int} (h : thingB t = true) : 0 ≤ mark t ∧ mark t ≤ 63 := by
  have := zc0 h
  unfold mark
  rw [h, cond_true]
  have e1 : w64 (t * 37) = t * 37 := by rw [w64_id] <;> omega
  have e2 : w64 (t * 37 + 11) = t * 37 + 11 := by rw [w64_id] <;> omega
  rw [e1, e2, Int.tmod_eq_emod_of_nonneg (by omega)]
  omega
theorem zP7 (f : Nat) (l : List Int) (t : Int) (hf : 8 < f) : zeI f ((l, ()), (t, ()), ()) = some (((fewAdd l t).1, ()), ((fewAdd l t).2, ()), ()) := by
  show zm5 f l t = _
  unfold zm5 fewAdd
  simp only [zDs f l hf, zhr, zPO, Option.bind_some]
  cases h : fewB l
  · rfl
  cases ht : thingB t
  · rfl
  have hm := zrc ht
  have ok : leastOK l [mark t] = true := by
    rw [zDJ h, ← zDM hm.1 hm.2]; exact fst6_ok _ _
  have : zlN f ((l, ()), ([mark t], ()), ()) = some ((leastL l [mark t], ()), ()) := by
    show cond (leastOK l [mark t]) _ _ = _
    rw [ok]; rfl
  simp only [Bool.not_true, cond_false, this, Option.bind_some, Bool.and_self, cond_true, zDN h hm.1 hm.2]
end Go.Proofs.YtdgdoeknpakmlaaGreat.Den
namespace Go.Proofs.YtdgdoeknpakmlaaGreat.Den
open Go
theorem zP8 {a b : List Int} {i : Nat} (ha : i < a.length) (hb : i < b.length) : (List.zip a b).getD i (0, 0) = (a.getD i 0, b.getD i 0) := by
  rw [List.getD_eq_getElem?_getD, List.getD_eq_getElem?_getD, List.getD_eq_getElem?_getD, List.getElem?_eq_getElem ha, List.getElem?_eq_getElem hb,
    List.getElem?_eq_getElem (by rw [List.length_zip]; omega), List.getElem_zip]
  rfl
theorem zP9 (f : Nat) (a b : List Int) (ha : a.length = 8) (hb : b.length = 8) (hf : 8 < f) : ziw f (a, b, ()) = some (zipAdd a b, ()) := by
  show ziv f (iter (ziu f) f) a b = _
  unfold ziv
  have hz : (List.zip a b).length = 8 := by rw [List.length_zip]; omega
  have h1 : (8 : Nat) < LIM := by simp only [LIM]; omega
  simp only [zz_eq, ha, List.length_replicate, Int.toNat_natCast, Int.natCast_nonneg, Int.le_refl, h1, decide_true, cond_true]
  have := zhp (st := ziu f) (enc := fun i out => ((i : Int), ((8 : Nat) : Int), a, b, out)) (fun out => some (out, ())) (List.zip a b) (0, 0) (fun p => w64 (p.1 + p.2)) ?_ ?_ f 0 (by omega)
  · rw [hz] at this
    refine this.trans ?_
    rw [List.map_zip_eq_zipWith]
    rfl
  · intro i out g hi ho
    show zey f g _ = _
    unfold zey
    have l1 : i < a.length := by omega
    have l2 : i < b.length := by omega
    have l3 : i < out.length := by omega
    have l4 : i < 8 := by omega
    have e : ∀ x y : Int, zis f ((x, ()), (y, ()), ()) = some ((w64 (x + y), ()), ()) := fun _ _ => rfl
    simp only [zz_eq, lt_cast l1, lt_cast l2, lt_cast l3, lt_cast l4, l3, le_cast, decide_true, cond_true, Int.toNat_natCast, w64_up (show i < 4294967296 by omega), e, Option.bind_some, zP8 l1 l2]
  · intro out g
    show zey f g _ = _
    unfold zey
    simp only [hz, zc, decide_false, cond_false]
theorem zQa (f : Nat) {a b c a' b' c' : List Int} (ha : a.length = 8) (hb : b.length = 8) (hc : c.length = 8) (ha' : a'.length = 8) (hb' : b'.length = 8) (hc' : c'.length = 8) (hf : 8 < f) :
    zez f (([a, b, c], ()), ([a', b', c'], ()), ()) = some (([zipAdd a a', zipAdd b b', zipAdd c c'], ()), ()) := by
  have e : ∀ x y : List Int, x.length = 8 → y.length = 8 → zbP f ((x, ()), (y, ()), ()) = some ((zipAdd x y, ()), ()) := fun x y h h' => by
    show zmQ f x y = _
    unfold zmQ
    rw [zP9 f x y h h' hf]; rfl
  show zmV f [a, b, c] [a', b', c'] = _
  unfold zmV
  have : zmS f ([a, b, c], [a', b', c'], ()) = some ([zipAdd a a', zipAdd b b', zipAdd c c'], ()) := by
    show zbQ f a b c a' b' c' = _
    unfold zbQ
    rw [e a a' ha ha', Option.bind_some, e b b' hb hb', Option.bind_some, e c c' hc hc']; rfl
  rw [this]; rfl
theorem zrd {a : List Int} (h : a.length = 8) (hr : ∀ x ∈ a, 0 ≤ x ∧ x ≤ 2000) : zipAdd a (List.replicate 8 0) = a := by
  have gen : ∀ (n : Nat) (a : List Int), a.length = n → (∀ x ∈ a, 0 ≤ x ∧ x ≤ 2000) → zipAdd a (List.replicate n 0) = a := by
    intro n
    induction n with
    | zero => intro a h _; rw [List.length_eq_zero_iff.1 h]; rfl
    | succ n ih =>
      intro a h hr
      cases a with
      | nil => simp at h
      | cons x a =>
        have e1 := ih a (by simpa using h) (fun y hy => hr y (List.mem_cons_of_mem _ hy))
        have e2 : w64 (x + 0) = x := by have := hr x (List.mem_cons_self ..); rw [w64_id] <;> omega
        show w64 (x + 0) :: zipAdd a (List.replicate n 0) = _
        rw [e1, e2]
  exact gen 8 a h hr
theorem row_all {a : List Int} (h : rowB a = true) : ∀ x ∈ a, 0 ≤ x ∧ x ≤ 2000 := by
  unfold rowB at h
  simp only [Bool.and_eq_true, List.all_eq_true] at h
  intro x hx
  have := h.2.1 x hx
  unfold rng at this
  simpa using this
theorem zDO (f : Nat) (rs : List (List Int)) (t n : Int) (hf : 8 < f) : zeB f ((rs, ()), (t, ()), (n, ()), ()) = some (((roughAdd rs t n).1, ()), ((roughAdd rs t n).2, ()), ()) := by
  show zeA f rs t n = _
  unfold zeA roughAdd
  simp only [zq3 f rs hf, zhr, Option.bind_some, zDx f rs hf]
  cases h : roughB rs
  · rfl
  cases ht : thingB t
  · rfl
  have hA : allR rs = isum (rs.getD 0 []) := by unfold allR; rw [h]; rfl
  rw [hA]
  obtain ⟨a, b, c, rfl, ha, hb, hc, -, -⟩ := zaP h
  have l0 := row_len ha
  have l1 := row_len hb
  have l2 := row_len hc
  simp only [Bool.not_true, cond_false, List.getD_cons_zero, Bool.true_and]
  by_cases c0 : n < 0
  · have : ¬ (0 ≤ n ∧ n ≤ w64 (2000 - isum a)) := by omega
    simp only [c0, this, decide_true, decide_false, cond_true, cond_false]
  by_cases c1 : n > w64 (2000 - isum a)
  · have : ¬ (0 ≤ n ∧ n ≤ w64 (2000 - isum a)) := by omega
    simp only [c0, c1, this, decide_true, decide_false, cond_true, cond_false]
  have cn : 0 ≤ n ∧ n ≤ w64 (2000 - isum a) := by omega
  have p0 := zq6 f 0 t (by omega) ht
  have p1 := zq6 f 1 t (by omega) ht
  have p2 := zq6 f 2 t (by omega) ht
  rw [show ((0 : Nat) : Int) = 0 from rfl] at p0
  rw [show ((1 : Nat) : Int) = 1 from rfl] at p1
  rw [show ((2 : Nat) : Int) = 2 from rfl] at p2
  have q0 := pl_lt 0 t
  have q1 := pl_lt 1 t
  have q2 := pl_lt 2 t
  have z0 : (pl 0 t : Int) < 8 := by omega
  have z1 : (pl 1 t : Int) < 8 := by omega
  have z2 : (pl 2 t : Int) < 8 := by omega
  have new : zeh f () = some (([List.replicate 8 0, List.replicate 8 0, List.replicate 8 0], ()), ()) := rfl
  have s := zQa f l0 l1 l2 (a' := List.replicate 8 0) (b' := List.replicate 8 0) (c' := List.replicate 8 0) (by simp) (by simp) (by simp) hf
  rw [zrd l0 (row_all ha), zrd l1 (row_all hb), zrd l2 (row_all hc)] at s
  have d1 : ([a, b, c] : List (List Int)).getD 1 [] = b := rfl
  have d2 : ([a, b, c] : List (List Int)).getD 2 [] = c := rfl
  simp only [c0, c1, cn, and_self, decide_true, decide_false, cond_true, cond_false, new, Option.bind_some, s, p0, p1, p2, List.getD_cons_zero, d1, d2, zz_eq, l0, l1, l2, le_cast, show ((8 : Nat) : Int) = 8 from rfl, z0, z1, z2, q0, q1, q2, Int.toNat_natCast]
  rfl
end Go.Proofs.YtdgdoeknpakmlaaGreat.Den
namespace Go.Proofs.YtdgdoeknpakmlaaGreat.Den
open Go
def revIns (key : Knot → Int) (x : Knot) : List Knot → List Knot
  | [] => [x]
  | y :: r => cond (decide (key x < key y)) (y :: revIns key x r) (x :: y :: r)
def sortR (key : Knot → Int) : List Knot → List Knot → List Knot
  | R, [] => R
  | R, x :: S => sortR key (revIns key x R) S
def isort (key : Knot → Int) (l : List Knot) : List Knot := (sortR key [] l).reverse
def kT (x : Knot) : Int := x.1
def kN (x : Knot) : Int := - x.2.1
theorem zhw (key : Knot → Int) (x : Knot) : ∀ (R : List Knot), (revIns key x R).Perm (x :: R)
  | [] => List.Perm.refl _
  | y :: r => by
    unfold revIns
    cases decide (key x < key y)
    · exact List.Perm.refl _
    · exact ((zhw key x r).cons y).trans (List.Perm.swap x y r)
theorem zDP (key : Knot → Int) : ∀ (T R : List Knot), (sortR key R T).Perm (R ++ T)
  | [], R => by rw [List.append_nil]; exact List.Perm.refl _
  | x :: S, R => (zDP key S (revIns key x R)).trans (((zhw key x R).append_right S).trans (List.perm_middle (a := x) (l₁ := R) (l₂ := S)).symm)
theorem zhx (key : Knot → Int) (l : List Knot) : (isort key l).Perm l := (List.reverse_perm _).trans (zDP key l [])
theorem zDQ (key : Knot → Int) (x : Knot) : ∀ (R : List Knot), R.Pairwise (fun a b => key b ≤ key a) → (revIns key x R).Pairwise (fun a b => key b ≤ key a)
  | [], _ => by simp [revIns]
  | y :: r, h => by
    have h' := List.pairwise_cons.1 h
    unfold revIns
    by_cases c : key x < key y
    · simp only [c, decide_true, cond_true]
      refine List.pairwise_cons.2 ⟨fun z hz => ?_, zDQ key x r h'.2⟩
      rcases List.mem_cons.1 ((zhw key x r).mem_iff.1 hz) with rfl | hz
      · omega
      · exact h'.1 z hz
    · simp only [c, decide_false, cond_false]
      refine List.pairwise_cons.2 ⟨fun z hz => ?_, h⟩
      rcases List.mem_cons.1 hz with rfl | hz
      · omega
      · have := h'.1 z hz; omega
theorem zDR (key : Knot → Int) : ∀ (T R : List Knot), R.Pairwise (fun a b => key b ≤ key a) → (sortR key R T).Pairwise (fun a b => key b ≤ key a)
  | [], R, h => h
  | x :: S, R, h => zDR key S _ (zDQ key x R h)
theorem zDS (key : Knot → Int) (l : List Knot) : (isort key l).Pairwise (fun a b => key a ≤ key b) := by
  unfold isort
  rw [List.pairwise_reverse]
  exact zDR key l [] List.Pairwise.nil
theorem zre (key : Knot → Int) (l : List Knot) : (isort key l).length = l.length := (zhx key l).length_eq
theorem mid_set {α : Type} {x y : α} {r : List α} : ∀ {p : List α} {n : Nat}, n = p.length → (p ++ x :: r).set n y = p ++ y :: r
  | [], _, rfl => rfl
  | z :: p, _, rfl => by show z :: (p ++ x :: r).set p.length y = _; rw [mid_set rfl]; rfl
theorem zc2 {α : Type} {x d : α} {r : List α} : ∀ {p : List α} {n : Nat}, n = p.length → (p ++ x :: r).getD n d = x
  | [], _, rfl => rfl
  | z :: p, _, rfl => by show (p ++ x :: r).getD p.length d = _; rw [zc2 rfl]
theorem zCd (f : Nat) (a b : Int) : zeR f ((a, ()), (b, ()), ()) = some ((if a < b then -1 else if a > b then 1 else 0, ()), ()) := by
  show zng f a b = _
  unfold zng
  have e : ∀ x : Int, zeQ f ((x, ()), ()) = some ((false, ()), ()) := fun x => by
    show some (((x != x, ()), ())) = _
    simp
  simp only [e, Option.bind_some, cond_false]
  by_cases c1 : a < b
  · simp [c1]
  · by_cases c2 : a > b
    · simp [c1, c2]
    · simp [c1, c2]
theorem zCe {a b : Int} : decide ((if a < b then (-1 : Int) else if a > b then 1 else 0) < 0) = decide (a < b) := by
  by_cases c1 : a < b
  · simp [c1]
  · by_cases c2 : a > b
    · simp [c1, c2]
    · simp [c1, c2]
theorem zDT (f n : Nat) (h : n < 13) : ∃ v, zb3 f ((IntKind.wrap .u64 (zz n), ()), ()) = some v := by
  have : ∀ n, n < 13 → (zb3 f ((IntKind.wrap .u64 (zz n), ()), ())).isSome = true := fun n h =>
    match n, h with
    | 0, _ => by kernel_rfl
    | 1, _ => by kernel_rfl
    | 2, _ => by kernel_rfl
    | 3, _ => by kernel_rfl
    | 4, _ => by kernel_rfl
    | 5, _ => by kernel_rfl
    | 6, _ => by kernel_rfl
    | 7, _ => by kernel_rfl
    | 8, _ => by kernel_rfl
    | 9, _ => by kernel_rfl
    | 10, _ => by kernel_rfl
    | 11, _ => by kernel_rfl
    | 12, _ => by kernel_rfl
    | n + 13, h => by omega
  exact Option.isSome_iff_exists.1 (this n h)
theorem byv0 (f : Nat) (x y : Knot) : ziJ f ((x.1, x.2.1, ()), (y.1, y.2.1, ()), ()) = some ((if x.1 < y.1 then -1 else if x.1 > y.1 then 1 else 0, ()), ()) := by
  show zni f x.1 x.2.1 y.1 y.2.1 = _
  unfold zni
  rw [zCd]; rfl
theorem keyv0 (x y : Knot) : decide (x.1 < y.1) = decide (kT x < kT y) := by
  unfold kT
  by_cases h : x.1 < y.1
  · have : x.1 < y.1 := by omega
    simp [h, this]
  · have : ¬ x.1 < y.1 := by omega
    simp [h, this]
theorem zDU (f : Nat) (g0 : zae → zk) : ∀ (R : List Knot) (x : Knot) (S : List Knot) (i b : Int) (fuel : Nat), R.length < fuel → R.length + S.length < 1000 →
    iter (znl f g0) fuel ((R.length : Int), (0 : Int), i, b, R.reverse ++ x :: S) = g0 (w64 (i + 1), b, (0 : Int), (revIns kT x R).reverse ++ S)
  | _, _, _, _, _, 0, h, _ => by omega
  | [], x, S, i, b, fuel + 1, _, hl => by
    rw [iter]
    show zbX f g0 _ _ = _
    unfold zbX
    rfl
  | y :: r, x, S, i, b, fuel + 1, hf, hl => by
    simp only [List.length_cons] at hf hl
    rw [iter]
    show zbX f g0 _ _ = _
    unfold zbX
    have ed : (y :: r).reverse ++ x :: S = r.reverse ++ y :: x :: S := by simp
    have ed2 : (y :: r).reverse ++ x :: S = (r.reverse ++ [y]) ++ x :: S := by simp
    have en : w64 (((r.length + 1 : Nat) : Int) - 1) = (r.length : Int) := by rw [w64_id] <;> omega
    have ln : ((y :: r).reverse ++ x :: S).length = r.length + S.length + 2 := by simp; omega
    have gx : ((y :: r).reverse ++ x :: S).getD (r.length + 1) (0, 0, ()) = x := by rw [ed2]; exact zc2 (by rw [List.length_append, List.length_reverse, List.length_singleton])
    have gy : ((y :: r).reverse ++ x :: S).getD r.length (0, 0, ()) = y := by rw [ed]; exact zc2 (by rw [List.length_reverse])
    have st : (((y :: r).reverse ++ x :: S).set (r.length + 1) (y.1, y.2.1, ())).set r.length (x.1, x.2.1, ()) = r.reverse ++ x :: y :: S := by
      rw [ed2, mid_set (by rw [List.length_append, List.length_reverse, List.length_singleton]), List.append_assoc]
      exact mid_set (by rw [List.length_reverse])
    have c0 : decide (((r.length + 1 : Nat) : Int) > 0) = true := decide_eq_true (by omega)
    have l1 : r.length + 1 < r.length + S.length + 2 := by omega
    have l2 : r.length < r.length + S.length + 2 := by omega
    have ih := zDU f g0 r x (y :: S) i b fuel (by omega) (by simp; omega)
    have en1 : (((y :: r).length : Nat) : Int) = ((r.length + 1 : Nat) : Int) := rfl
    simp only [en1, c0, en, cond_true, zz_eq, ln, List.length_set, le_cast, lt_cast l1, lt_cast l2, l1, l2, decide_true, Int.toNat_natCast, gx, gy, byv0, Option.bind_some, zCe, keyv0, st]
    unfold revIns
    cases decide (kT x < kT y)
    · simp only [cond_false]; simp
    · simp only [cond_true]
      refine ih.trans ?_
      simp
theorem zDV (f : Nat) (hf : 1000 < f) (n : Nat) (hn : n < 1000) : ∀ (T R : List Knot) (fuel : Nat), R.length + T.length = n → T.length < fuel →
    iter (ziO f) fuel ((R.length : Int), (n : Int), (0 : Int), R.reverse ++ T) = some ((sortR kT R T).reverse, ())
  | _, _, 0, _, h => by omega
  | [], R, fuel + 1, hl, _ => by
    rw [iter]
    show zax f _ _ _ = _
    unfold zax
    simp only [List.length_nil, Nat.add_zero] at hl
    subst hl
    simp only [zc, decide_false, cond_false, List.append_nil]
    rfl
  | x :: S, R, fuel + 1, hl, hfu => by
    simp only [List.length_cons] at hl hfu
    rw [iter]
    show zax f _ _ _ = _
    unfold zax
    have l1 : R.length < n := by omega
    simp only [lt_cast l1, decide_true, cond_true]
    rw [zDU f _ R x S _ _ f (by omega) (by omega), w64_up (by omega)]
    have hr : (revIns kT x R).length = R.length + 1 := (zhw kT x R).length_eq
    have ih := zDV f hf n hn S (revIns kT x R) fuel (by omega) (by omega)
    rw [hr] at ih
    exact ih
theorem insertionv0 (f : Nat) (hf : 1000 < f) (l : List Knot) (hl : l.length < 1000) : zeS f (l, (), (0 : Int), (l.length : Int), ()) = some (isort kT l, ()) := by
  show iter (ziO f) f (w64 (0 + 1), (l.length : Int), (0 : Int), l) = _
  rw [show w64 (0 + 1) = (1 : Int) from by decide]
  cases l with
  | nil =>
    obtain ⟨g, rfl⟩ : ∃ g, f = g + 1 := ⟨f - 1, by omega⟩
    rw [iter]
    show zax _ _ _ _ = _
    unfold zax
    rfl
  | cons x T =>
    simp only [List.length_cons] at hl
    exact zDV f hf (T.length + 1) hl T [x] f (by simp; omega) (by omega)
theorem sortv0 (f : Nat) (hf : 1000 < f) (l : List Knot) (hl : l.length < 13) : zi4 f (l, (), ()) = some (isort kT l, ()) := by
  have e1 := insertionv0 f hf l (by omega)
  obtain ⟨v, hv⟩ := zDT f l.length hl
  have e2 : ∀ m : Int, ziU f (l, (), (0 : Int), (l.length : Int), m, ()) = some (isort kT l, ()) := fun m => by
    show iter (zno f) f _ = _
    obtain ⟨g, hg⟩ : ∃ g, f = g + 1 := ⟨f - 1, by omega⟩
    conv => lhs; arg 2; rw [hg]
    rw [iter]
    show znn f _ _ = _
    unfold znn
    have : decide (w64 ((l.length : Int) - 0) ≤ (12 : Int)) = true := decide_eq_true (by rw [w64_id] <;> omega)
    show cond (decide (w64 ((l.length : Int) - 0) ≤ (12 : Int))) (Option.bind (zeS f (l, (), (0 : Int), (l.length : Int), ())) _) _ = _
    rw [this, e1]; rfl
  have e3 : zi0 f (l, (), ()) = some (isort kT l, ()) := by
    show znw f l = _
    unfold znw
    rw [hv, Option.bind_some, zz_eq, e2]; rfl
  show znA f l = _
  unfold znA
  rw [e3]; rfl
theorem byv1 (f : Nat) (x y : Knot) : ziL f ((x.1, x.2.1, ()), (y.1, y.2.1, ()), ()) = some ((if y.2.1 < x.2.1 then -1 else if y.2.1 > x.2.1 then 1 else 0, ()), ()) := by
  show znk f x.1 x.2.1 y.1 y.2.1 = _
  unfold znk
  rw [zCd]; rfl
theorem keyv1 (x y : Knot) : decide (y.2.1 < x.2.1) = decide (kN x < kN y) := by
  unfold kN
  by_cases h : y.2.1 < x.2.1
  · have : -x.2.1 < -y.2.1 := by omega
    simp [h, this]
  · have : ¬ -x.2.1 < -y.2.1 := by omega
    simp [h, this]
theorem zDW (f : Nat) (g0 : zah → zl) : ∀ (R : List Knot) (x : Knot) (S : List Knot) (i b : Int) (fuel : Nat), R.length < fuel → R.length + S.length < 1000 →
    iter (znm f g0) fuel ((R.length : Int), (0 : Int), i, b, R.reverse ++ x :: S) = g0 (w64 (i + 1), b, (0 : Int), (revIns kN x R).reverse ++ S)
  | _, _, _, _, _, 0, h, _ => by omega
  | [], x, S, i, b, fuel + 1, _, hl => by
    rw [iter]
    show zb0 f g0 _ _ = _
    unfold zb0
    rfl
  | y :: r, x, S, i, b, fuel + 1, hf, hl => by
    simp only [List.length_cons] at hf hl
    rw [iter]
    show zb0 f g0 _ _ = _
    unfold zb0
    have ed : (y :: r).reverse ++ x :: S = r.reverse ++ y :: x :: S := by simp
    have ed2 : (y :: r).reverse ++ x :: S = (r.reverse ++ [y]) ++ x :: S := by simp
    have en : w64 (((r.length + 1 : Nat) : Int) - 1) = (r.length : Int) := by rw [w64_id] <;> omega
    have ln : ((y :: r).reverse ++ x :: S).length = r.length + S.length + 2 := by simp; omega
    have gx : ((y :: r).reverse ++ x :: S).getD (r.length + 1) (0, 0, ()) = x := by rw [ed2]; exact zc2 (by rw [List.length_append, List.length_reverse, List.length_singleton])
    have gy : ((y :: r).reverse ++ x :: S).getD r.length (0, 0, ()) = y := by rw [ed]; exact zc2 (by rw [List.length_reverse])
    have st : (((y :: r).reverse ++ x :: S).set (r.length + 1) (y.1, y.2.1, ())).set r.length (x.1, x.2.1, ()) = r.reverse ++ x :: y :: S := by
      rw [ed2, mid_set (by rw [List.length_append, List.length_reverse, List.length_singleton]), List.append_assoc]
      exact mid_set (by rw [List.length_reverse])
    have c0 : decide (((r.length + 1 : Nat) : Int) > 0) = true := decide_eq_true (by omega)
    have l1 : r.length + 1 < r.length + S.length + 2 := by omega
    have l2 : r.length < r.length + S.length + 2 := by omega
    have ih := zDW f g0 r x (y :: S) i b fuel (by omega) (by simp; omega)
    have en1 : (((y :: r).length : Nat) : Int) = ((r.length + 1 : Nat) : Int) := rfl
    simp only [en1, c0, en, cond_true, zz_eq, ln, List.length_set, le_cast, lt_cast l1, lt_cast l2, l1, l2, decide_true, Int.toNat_natCast, gx, gy, byv1, Option.bind_some, zCe, keyv1, st]
    unfold revIns
    cases decide (kN x < kN y)
    · simp only [cond_false]; simp
    · simp only [cond_true]
      refine ih.trans ?_
      simp
theorem zDX (f : Nat) (hf : 1000 < f) (n : Nat) (hn : n < 1000) : ∀ (T R : List Knot) (fuel : Nat), R.length + T.length = n → T.length < fuel →
    iter (ziR f) fuel ((R.length : Int), (n : Int), (0 : Int), R.reverse ++ T) = some ((sortR kN R T).reverse, ())
  | _, _, 0, _, h => by omega
  | [], R, fuel + 1, hl, _ => by
    rw [iter]
    show zay f _ _ _ = _
    unfold zay
    simp only [List.length_nil, Nat.add_zero] at hl
    subst hl
    simp only [zc, decide_false, cond_false, List.append_nil]
    rfl
  | x :: S, R, fuel + 1, hl, hfu => by
    simp only [List.length_cons] at hl hfu
    rw [iter]
    show zay f _ _ _ = _
    unfold zay
    have l1 : R.length < n := by omega
    simp only [lt_cast l1, decide_true, cond_true]
    rw [zDW f _ R x S _ _ f (by omega) (by omega), w64_up (by omega)]
    have hr : (revIns kN x R).length = R.length + 1 := (zhw kN x R).length_eq
    have ih := zDX f hf n hn S (revIns kN x R) fuel (by omega) (by omega)
    rw [hr] at ih
    exact ih
theorem insertionv1 (f : Nat) (hf : 1000 < f) (l : List Knot) (hl : l.length < 1000) : zeT f (l, (), (0 : Int), (l.length : Int), ()) = some (isort kN l, ()) := by
  show iter (ziR f) f (w64 (0 + 1), (l.length : Int), (0 : Int), l) = _
  rw [show w64 (0 + 1) = (1 : Int) from by decide]
  cases l with
  | nil =>
    obtain ⟨g, rfl⟩ : ∃ g, f = g + 1 := ⟨f - 1, by omega⟩
    rw [iter]
    show zay _ _ _ _ = _
    unfold zay
    rfl
  | cons x T =>
    simp only [List.length_cons] at hl
    exact zDX f hf (T.length + 1) hl T [x] f (by simp; omega) (by omega)
theorem sortv1 (f : Nat) (hf : 1000 < f) (l : List Knot) (hl : l.length < 13) : zb5 f (l, (), ()) = some (isort kN l, ()) := by
  have e1 := insertionv1 f hf l (by omega)
  obtain ⟨v, hv⟩ := zDT f l.length hl
  have e2 : ∀ m : Int, ziX f (l, (), (0 : Int), (l.length : Int), m, ()) = some (isort kN l, ()) := fun m => by
    show iter (znq f) f _ = _
    obtain ⟨g, hg⟩ : ∃ g, f = g + 1 := ⟨f - 1, by omega⟩
    conv => lhs; arg 2; rw [hg]
    rw [iter]
    show znp f _ _ = _
    unfold znp
    have : decide (w64 ((l.length : Int) - 0) ≤ (12 : Int)) = true := decide_eq_true (by rw [w64_id] <;> omega)
    show cond (decide (w64 ((l.length : Int) - 0) ≤ (12 : Int))) (Option.bind (zeT f (l, (), (0 : Int), (l.length : Int), ())) _) _ = _
    rw [this, e1]; rfl
  have e3 : zi2 f (l, (), ()) = some (isort kN l, ()) := by
    show zny f l = _
    unfold zny
    rw [hv, Option.bind_some, zz_eq, e2]; rfl
  show znC f l = _
  unfold znC
  rw [e3]; rfl
end Go.Proofs.YtdgdoeknpakmlaaGreat.Den
namespace Go.Proofs.YtdgdoeknpakmlaaGreat.Den
open Go
def cntK : List Knot → Int → Int
  | [], _ => 0
  | x :: r, k => (if x.1 = k then x.2.1 else 0) + cntK r k
def ascK (c : Int → Int) : Nat → Int → List Knot
  | 0, _ => []
  | d + 1, i => cond (decide (0 < c i)) ((i, c i, ()) :: ascK c d (i + 1)) (ascK c d (i + 1))
def SA (l : List Knot) : Prop := l.Pairwise fun a b => a.1 < b.1
def Pos (m : Int) (l : List Knot) : Prop := ∀ x ∈ l, 0 ≤ x.1 ∧ x.1 ≤ 63 ∧ 1 ≤ x.2.1 ∧ x.2.1 ≤ m
theorem zDY : ∀ {a b : List Knot} {k : Int}, cntK (a ++ b) k = cntK a k + cntK b k
  | [], b, k => by simp [cntK]
  | x :: a, b, k => by
    show _ + cntK (a ++ b) k = _ + cntK a k + _
    rw [zDY]; omega
theorem zDZ {a b : List Knot} (h : a.Perm b) (k : Int) : cntK a k = cntK b k := by
  induction h with
  | nil => rfl
  | cons x _ ih => simp only [cntK, ih]
  | swap x y l => simp only [cntK]; omega
  | trans _ _ h1 h2 => rw [h1, h2]
theorem zc3 {l : List Knot} {k : Int} (h : ∀ x ∈ l, x.1 ≠ k) : cntK l k = 0 := by
  induction l with
  | nil => rfl
  | cons x r ih => simp only [cntK, h x (List.mem_cons_self ..), if_false, ih fun y hy => h y (List.mem_cons_of_mem _ hy)]; rfl
theorem zrf {c e : Int → Int} : ∀ {d : Nat} {i : Int}, (∀ k, i ≤ k → k < i + d → c k = e k) → ascK c d i = ascK e d i
  | 0, i, _ => rfl
  | d + 1, i, h => by
    unfold ascK
    rw [h i (Int.le_refl _) (by omega), zrf (d := d) (i := i + 1) fun k h1 h2 => h k (by omega) (by omega)]
theorem ascK_of {m : Int} : ∀ {d : Nat} {i : Int} {l : List Knot}, SA l → Pos m l → (∀ x ∈ l, i ≤ x.1) → i + d = 64 → l = ascK (cntK l) d i
  | 0, i, l, hs, hp, hi, hd => by
    cases l with
    | nil => rfl
    | cons x l => have := hi x (List.mem_cons_self ..); have := hp x (List.mem_cons_self ..); omega
  | d + 1, i, l, hs, hp, hi, hd => by
    unfold ascK
    cases l with
    | nil =>
      have e := ascK_of (d := d) (i := i + 1) (l := []) hs hp (fun x hx => by cases hx) (by omega)
      show [] = cond (decide ((0 : Int) < 0)) _ _
      simp only [Int.lt_irrefl, decide_false, cond_false]
      exact e
    | cons x r =>
      have hs' := List.pairwise_cons.1 hs
      have px := hp x (List.mem_cons_self ..)
      have pr : Pos m r := fun y hy => hp y (List.mem_cons_of_mem _ hy)
      by_cases hx : x.1 = i
      · have c0 : cntK r i = 0 := zc3 fun y hy => by have := hs'.1 y hy; omega
        have c1 : cntK (x :: r) i = x.2.1 := by simp only [cntK, hx, if_true, c0]; omega
        have c2 : (0 : Int) < x.2.1 := by omega
        have ih := ascK_of (d := d) (i := i + 1) (l := r) hs'.2 pr (fun y hy => by have := hs'.1 y hy; omega) (by omega)
        have e : ascK (cntK (x :: r)) d (i + 1) = ascK (cntK r) d (i + 1) := zrf fun k h1 h2 => by
          have : x.1 ≠ k := by omega
          simp only [cntK, this, if_false]; omega
        subst hx
        simp only [c1, c2, decide_true, cond_true]
        show x :: r = (x.1, x.2.1, ()) :: _
        rw [e, ← ih]
      · have hi' : ∀ y ∈ x :: r, i + 1 ≤ y.1 := fun y hy => by
          have h1 := hi x (List.mem_cons_self ..)
          rcases List.mem_cons.1 hy with rfl | hy
          · omega
          · have := hs'.1 y hy; omega
        have c0 : cntK (x :: r) i = 0 := zc3 fun y hy => by have := hi' y hy; omega
        simp only [c0, Int.lt_irrefl, decide_false, cond_false]
        exact ascK_of (d := d) (i := i + 1) hs hp hi' (by omega)
theorem zQb {m n : Int} {a b : List Knot} (ha : SA a) (hb : SA b) (pa : Pos m a) (pb : Pos n b) (h : ∀ k, cntK a k = cntK b k) : a = b := by
  rw [ascK_of (d := 64) (i := 0) ha pa (fun x hx => (pa x hx).1) rfl, ascK_of (d := 64) (i := 0) hb pb (fun x hx => (pb x hx).1) rfl]
  exact zrf fun k _ _ => h k
theorem zrg (t n : Int) : ∀ (l : List Knot), putP t n l true = l
  | [] => rfl
  | x :: r => by
    unfold putP
    rw [zrg t n r]; rfl
theorem zrh {m t n : Int} (ht : 0 ≤ t ∧ t ≤ 63) (hn : 1 ≤ n) (hm : n ≤ m) (hm2 : m ≤ 1000000) : ∀ {l : List Knot} {p : Int}, SA l → Pos m l → p < t → (∀ x ∈ l, p < x.1) →
    SA (putP t n l false) ∧ Pos (m + n) (putP t n l false) ∧ (∀ x ∈ putP t n l false, p < x.1) ∧ ∀ k, cntK (putP t n l false) k = cntK l k + if t = k then n else 0
  | [], p, _, _, h, _ => by
    refine ⟨List.pairwise_singleton _ _, fun x hx => ?_, fun x hx => ?_, fun k => ?_⟩
    · rcases List.mem_singleton.1 hx with rfl
      exact ⟨ht.1, ht.2, hn, by show n ≤ _; omega⟩
    · rcases List.mem_singleton.1 hx with rfl
      exact h
    · show (if t = k then n else 0) + 0 = 0 + _; omega
  | x :: r, p, hs, hp, h, hpx => by
    have hs' := List.pairwise_cons.1 hs
    have px := hp x (List.mem_cons_self ..)
    have pr : Pos m r := fun y hy => hp y (List.mem_cons_of_mem _ hy)
    have p0 := hpx x (List.mem_cons_self ..)
    unfold putP
    simp only [zrg, Bool.not_false, Bool.true_and]
    by_cases c1 : x.1 ≥ t
    · by_cases c2 : x.1 = t
      · have e : w64 (n + x.2.1) = n + x.2.1 := by rw [w64_id] <;> omega
        have b : (x.1 == t) = true := by simpa using c2
        simp only [c1, decide_true, cond_true, b, e]
        refine ⟨List.pairwise_cons.2 ⟨fun y hy => by have := hs'.1 y hy; show t < y.1; omega, hs'.2⟩, fun y hy => ?_, fun y hy => ?_, fun k => ?_⟩
        · rcases List.mem_cons.1 hy with rfl | hy
          · exact ⟨ht.1, ht.2, by show 1 ≤ n + x.2.1; omega, by show n + x.2.1 ≤ _; omega⟩
          · have := pr y hy; exact ⟨this.1, this.2.1, this.2.2.1, by omega⟩
        · rcases List.mem_cons.1 hy with rfl | hy
          · exact h
          · exact hpx y (List.mem_cons_of_mem _ hy)
        · show (if t = k then n + x.2.1 else 0) + cntK r k = (if x.1 = k then x.2.1 else 0) + cntK r k + _
          rw [c2]; split <;> omega
      · have b : (x.1 == t) = false := by simpa using c2
        simp only [c1, decide_true, cond_true, b, cond_false]
        refine ⟨List.pairwise_cons.2 ⟨fun y hy => ?_, hs⟩, fun y hy => ?_, fun y hy => ?_, fun k => ?_⟩
        · rcases List.mem_cons.1 hy with rfl | hy
          · show t < x.1; omega
          · have := hs'.1 y hy; show t < y.1; omega
        · rcases List.mem_cons.1 hy with rfl | hy
          · exact ⟨ht.1, ht.2, hn, by show n ≤ _; omega⟩
          · have := hp y hy; exact ⟨this.1, this.2.1, this.2.2.1, by omega⟩
        · rcases List.mem_cons.1 hy with rfl | hy
          · exact h
          · exact hpx y hy
        · show (if t = k then n else 0) + ((if x.1 = k then x.2.1 else 0) + cntK r k) = (if x.1 = k then x.2.1 else 0) + cntK r k + _
          omega
    · simp only [c1, decide_false, cond_false]
      obtain ⟨i1, i2, i3, i4⟩ := zrh (p := x.1) ht hn hm hm2 hs'.2 pr (by omega) hs'.1
      refine ⟨List.pairwise_cons.2 ⟨i3, i1⟩, fun y hy => ?_, fun y hy => ?_, fun k => ?_⟩
      · rcases List.mem_cons.1 hy with rfl | hy
        · exact ⟨px.1, px.2.1, px.2.2.1, by show x.2.1 ≤ _; omega⟩
        · exact i2 y hy
      · rcases List.mem_cons.1 hy with rfl | hy
        · exact p0
        · have := i3 y hy; omega
      · show (if x.1 = k then x.2.1 else 0) + cntK (putP t n r false) k = (if x.1 = k then x.2.1 else 0) + cntK r k + _
        rw [i4]; omega
theorem Pos.mono {m n : Int} {l : List Knot} (h : Pos m l) (hm : m ≤ n) : Pos n l := fun x hx => by have := h x hx; exact ⟨this.1, this.2.1, this.2.2.1, by omega⟩
theorem zri {m : Int} (hm : 2000 ≤ m) : ∀ {b a : List Knot}, m + 2000 * b.length ≤ 1000000 → SA a → Pos m a → Pos 2000 b →
    SA (putAll a b) ∧ Pos (m + 2000 * b.length) (putAll a b) ∧ ∀ k, cntK (putAll a b) k = cntK a k + cntK b k
  | [], a, _, hs, hp, _ => ⟨hs, Pos.mono hp (by simp), fun k => by show cntK a k = cntK a k + 0; omega⟩
  | x :: b, a, hb, hs, hp, pb => by
    have px := pb x (List.mem_cons_self ..)
    simp only [List.length_cons] at hb
    obtain ⟨i1, i2, -, i4⟩ := zrh (m := m) (t := x.1) (n := x.2.1) (p := -1) ⟨px.1, px.2.1⟩ px.2.2.1 (by omega) (by omega) hs hp (by omega) (fun y hy => by have := hp y hy; omega)
    obtain ⟨j1, j2, j3⟩ := zri (m := m + 2000) (by omega) (b := b) (a := putP x.1 x.2.1 a false) (by omega) i1 (i2.mono (by omega)) (fun y hy => pb y (List.mem_cons_of_mem _ hy))
    refine ⟨j1, j2.mono (by simp only [List.length_cons]; omega), fun k => ?_⟩
    show cntK (putAll (putP x.1 x.2.1 a false) b) k = cntK a k + ((if x.1 = k then x.2.1 else 0) + cntK b k)
    rw [j3, i4]; omega
def glue : List Knot → List Knot → List Knot
  | R, [] => R
  | [], x :: S => glue [(x.1, x.2.1, ())] S
  | y :: r, x :: S => cond (y.1 == x.1) (glue ((y.1, w64 (y.2.1 + x.2.1), ()) :: r) S) (glue ((x.1, x.2.1, ()) :: y :: r) S)
def SD (l : List Knot) : Prop := l.Pairwise fun a b => b.1 < a.1
theorem zlG {m : Int} (hm : 2000 ≤ m) : ∀ {L R : List Knot}, m + 2000 * L.length ≤ 1000000 → SD R → Pos m R → L.Pairwise (fun a b => a.1 ≤ b.1) → Pos 2000 L → (∀ y ∈ R, ∀ x ∈ L, y.1 ≤ x.1) →
    SD (glue R L) ∧ Pos (m + 2000 * L.length) (glue R L) ∧ ∀ k, cntK (glue R L) k = cntK R k + cntK L k
  | [], R, _, hs, hp, _, _, _ => by
    refine ⟨by cases R <;> exact hs, by cases R <;> exact Pos.mono hp (by simp), fun k => ?_⟩
    cases R <;> simp [glue, cntK]
  | x :: S, [], hb, hs, hp, hl, pl, _ => by
    have hl' := List.pairwise_cons.1 hl
    have px := pl x (List.mem_cons_self ..)
    simp only [List.length_cons] at hb
    obtain ⟨j1, j2, j3⟩ := zlG (m := m) hm (L := S) (R := [(x.1, x.2.1, ())]) (by omega) (List.pairwise_singleton _ _) (fun y hy => by
      rcases List.mem_singleton.1 hy with rfl; exact ⟨px.1, px.2.1, px.2.2.1, by show x.2.1 ≤ m; omega⟩) hl'.2 (fun y hy => pl y (List.mem_cons_of_mem _ hy)) (fun y hy z hz => by
      rcases List.mem_singleton.1 hy with rfl; exact hl'.1 z hz)
    refine ⟨j1, j2.mono (by simp only [List.length_cons]; omega), fun k => ?_⟩
    show cntK (glue [(x.1, x.2.1, ())] S) k = 0 + ((if x.1 = k then x.2.1 else 0) + cntK S k)
    rw [j3]
    show (if x.1 = k then x.2.1 else 0) + 0 + _ = _
    omega
  | x :: S, y :: r, hb, hs, hp, hl, pl, hyx => by
    have hl' := List.pairwise_cons.1 hl
    have hs' := List.pairwise_cons.1 hs
    have px := pl x (List.mem_cons_self ..)
    have py := hp y (List.mem_cons_self ..)
    have yx := hyx y (List.mem_cons_self ..) x (List.mem_cons_self ..)
    simp only [List.length_cons] at hb
    unfold glue
    by_cases c : y.1 = x.1
    · have b : (y.1 == x.1) = true := by simpa using c
      have e : w64 (y.2.1 + x.2.1) = y.2.1 + x.2.1 := by rw [w64_id] <;> omega
      simp only [b, cond_true, e]
      obtain ⟨j1, j2, j3⟩ := zlG (m := m + 2000) (by omega) (L := S) (R := (y.1, y.2.1 + x.2.1, ()) :: r) (by omega) (List.pairwise_cons.2 ⟨hs'.1, hs'.2⟩) (fun z hz => by
        rcases List.mem_cons.1 hz with rfl | hz
        · exact ⟨py.1, py.2.1, by show 1 ≤ y.2.1 + x.2.1; omega, by show y.2.1 + x.2.1 ≤ _; omega⟩
        · have := hp z (List.mem_cons_of_mem _ hz); exact ⟨this.1, this.2.1, this.2.2.1, by omega⟩) hl'.2 (fun z hz => pl z (List.mem_cons_of_mem _ hz)) (fun z hz w hw => by
        rcases List.mem_cons.1 hz with rfl | hz
        · have := hl'.1 w hw; show y.1 ≤ w.1; omega
        · have := hs'.1 z hz; have := hl'.1 w hw; omega)
      refine ⟨j1, j2.mono (by simp only [List.length_cons]; omega), fun k => ?_⟩
      rw [j3]
      show (if y.1 = k then y.2.1 + x.2.1 else 0) + cntK r k + cntK S k = (if y.1 = k then y.2.1 else 0) + cntK r k + ((if x.1 = k then x.2.1 else 0) + cntK S k)
      rw [c]; split <;> omega
    · have b : (y.1 == x.1) = false := by simpa using c
      simp only [b, cond_false]
      obtain ⟨j1, j2, j3⟩ := zlG (m := m) hm (L := S) (R := (x.1, x.2.1, ()) :: y :: r) (by omega) (List.pairwise_cons.2 ⟨fun z hz => by
        rcases List.mem_cons.1 hz with rfl | hz
        · show z.1 < x.1; omega
        · have := hs'.1 z hz; show z.1 < x.1; omega, hs⟩) (fun z hz => by
        rcases List.mem_cons.1 hz with rfl | hz
        · exact ⟨px.1, px.2.1, px.2.2.1, by show x.2.1 ≤ m; omega⟩
        · exact hp z hz) hl'.2 (fun z hz => pl z (List.mem_cons_of_mem _ hz)) (fun z hz w hw => by
        have hw' := hl'.1 w hw
        rcases List.mem_cons.1 hz with rfl | hz
        · exact hw'
        · have := hyx z hz x (List.mem_cons_self ..); omega)
      refine ⟨j1, j2.mono (by simp only [List.length_cons]; omega), fun k => ?_⟩
      rw [j3]
      show (if x.1 = k then x.2.1 else 0) + ((if y.1 = k then y.2.1 else 0) + cntK r k) + cntK S k = (if y.1 = k then y.2.1 else 0) + cntK r k + ((if x.1 = k then x.2.1 else 0) + cntK S k)
      omega
theorem zlH (f : Nat) (L : List Knot) (hL : L.length < 1000) : ∀ (d i : Nat) (R : List Knot) (fuel : Nat), i + d = L.length → R.length ≤ i → d < fuel →
    iter (zjd f) fuel ((i : Int), (L.length : Int), L, R.reverse) = some (((glue R (L.drop i)).reverse, ()), ())
  | _, _, _, 0, _, _, h => by omega
  | 0, i, R, fuel + 1, hi, _, _ => by
    rw [iter]
    show zfd f _ _ = _
    unfold zfd
    obtain rfl : i = L.length := by omega
    simp only [zc, decide_false, cond_false, List.drop_eq_nil_of_le (Nat.le_refl _)]
    cases R <;> rfl
  | d + 1, i, R, fuel + 1, hi, hr, hf => by
    rw [iter]
    show zfd f _ _ = _
    unfold zfd
    have l1 : i < L.length := by omega
    rw [zaN (0, 0, ()) l1]
    obtain ⟨x, hx⟩ : ∃ x : Knot, L.getD i (0, 0, ()) = x := ⟨_, rfl⟩
    simp only [lt_cast l1, zz_eq, le_cast, l1, decide_true, cond_true, Int.toNat_natCast, hx, w64_up (show i < 4294967296 by omega)]
    have h1 : R.reverse.length + 1 < LIM := by simp only [LIM, List.length_reverse]; omega
    cases R with
    | nil =>
      have e1 : w64 (((0 : Nat) : Int) - 1) = -1 := by decide
      have e2 : decide ((-1 : Int) ≥ 0) = false := by decide
      have h0 : 0 + 1 < LIM := by simp only [LIM]; omega
      have ih := zlH f L hL d (i + 1) [(x.1, x.2.1, ())] fuel (by omega) (by simp) (by omega)
      simp only [List.reverse_nil, List.length_nil, e1, e2, cond_false, h0, decide_true, cond_true, List.nil_append]
      exact ih
    | cons y r =>
      have en : w64 (((y :: r).reverse.length : Int) - 1) = (r.length : Int) := by
        rw [List.length_reverse, w64_id] <;> simp only [List.length_cons] at hr ⊢ <;> omega
      have l2 : r.length < (y :: r).reverse.length := by simp
      have ed : (y :: r).reverse = r.reverse ++ y :: [] := by simp
      have gy : (y :: r).reverse.getD r.length (0, 0, ()) = y := by rw [ed]; exact zc2 (by rw [List.length_reverse])
      have st : ∀ z : Knot, (y :: r).reverse.set r.length z = (z :: r).reverse := fun z => by rw [ed, mid_set (by rw [List.length_reverse])]; simp
      have c0 : decide ((r.length : Int) ≥ 0) = true := decide_eq_true (by omega)
      have ih1 := zlH f L hL d (i + 1) ((y.1, w64 (y.2.1 + x.2.1), ()) :: r) fuel (by omega) (by simp only [List.length_cons] at hr ⊢; omega) (by omega)
      have ih2 := zlH f L hL d (i + 1) ((x.1, x.2.1, ()) :: y :: r) fuel (by omega) (by simp only [List.length_cons] at hr ⊢; omega) (by omega)
      simp only [en, c0, le_cast, lt_cast l2, l2, decide_true, cond_true, Int.toNat_natCast, gy, st, h1]
      unfold glue
      cases (y.1 == x.1)
      · simp only [cond_false]
        rw [← ih2]
        simp
      · simp only [cond_true]
        exact ih1
theorem zQc (f : Nat) (a b : List Knot) (hf : 1000 < f) (ha : a.length ≤ 8) (hb : b.length ≤ 8) : zjb f (([a, b], ()), ()) = some ((a ++ b, ()), ()) := by
  obtain ⟨g, rfl⟩ : ∃ g, f = g + 3 := ⟨f - 3, by omega⟩
  have grow : ∀ n : Nat, n ≤ 16 → zi8 (g + 3) ((n : Int), ()) = some ([], ()) := fun n hn => by
    show znF (g + 3) (n : Int) = _
    unfold znF
    have e1 : ¬ ((n : Int) < 0) := by omega
    have e2 : w64 ((n : Int) - w64 (0 - zz 0)) = (n : Int) := by
      rw [show w64 (0 - zz 0) = 0 from by decide, w64_id] <;> omega
    have e3 : (n : Nat) < LIM := by simp only [LIM]; omega
    have e4 : ((zz 0) ≤ (zz (List.length (List.replicate n (Kd.dflt KP))))) := by rw [List.length_replicate, zz_eq, zz_eq]; omega
    simp only [e1, e2, decide_false, cond_false, le_cast, Int.toNat_natCast, e3, decide_true, cond_true, e4]
    cases decide ((n : Int) > 0)
    · rfl
    · rfl
  have w1 : w64 (0 + (a.length : Int)) = ((a.length : Nat) : Int) := by rw [w64_id] <;> omega
  have w2 : w64 ((a.length : Int) + (b.length : Int)) = ((a.length + b.length : Nat) : Int) := by rw [w64_id] <;> omega
  have n1 : ¬ ((a.length : Int) < 0) := by omega
  have n2 : ¬ (((a.length + b.length : Nat) : Int) < 0) := by omega
  have s1 : ([] : List Knot).length + a.length < LIM := by simp only [LIM, List.length_nil]; omega
  have s2 : a.length + b.length < LIM := by simp only [LIM]; omega
  have l2 : ([a, b] : List (List Knot)).length = 2 := rfl
  have g0 : ([a, b] : List (List Knot)).getD 0 [] = a := rfl
  have g1 : ([a, b] : List (List Knot)).getD 1 [] = b := rfl
  show zja (g + 3) (iter (ze8 (g + 3)) (g + 3)) [a, b] = _
  unfold zja
  have body : ∀ v : za1, iter (za2 (g + 3)) (g + 3) v = ze7 (g + 3) (fun v => ze7 (g + 3) (fun v => ze7 (g + 3) (iter (za2 (g + 3)) g) v) v) v := fun v => rfl
  have outer : ∀ v : za0, iter (ze8 (g + 3)) (g + 3) v = zcb (g + 3) (iter (za2 (g + 3)) (g + 3)) (fun v => zcb (g + 3) (iter (za2 (g + 3)) (g + 3)) (fun v => zcb (g + 3) (iter (za2 (g + 3)) (g + 3)) (iter (ze8 (g + 3)) g) v) v) v := fun v => rfl
  rw [outer]
  unfold zcb
  have z0 : w64 (0 + 1) = (1 : Int) := by decide
  have z1 : w64 (1 + 1) = (2 : Int) := by decide
  have k0 : decide ((0 : Int) < (2 : Int)) = true := rfl
  have k1 : decide ((1 : Int) < (2 : Int)) = true := rfl
  have k2 : decide ((2 : Int) < (2 : Int)) = false := rfl
  have k3 : decide ((0 : Int) ≤ 0) = true := rfl
  have k4 : decide ((0 : Int) ≤ 1) = true := rfl
  have t0 : Int.toNat 0 = 0 := rfl
  have t1 : Int.toNat 1 = 1 := rfl
  simp only [zz_eq, l2, show ((2 : Nat) : Int) = 2 from rfl, z0, z1, k0, k1, k2, k3, k4, t0, t1, g0, g1, w1, w2, n1, n2, decide_false, cond_true, cond_false, grow _ (show a.length + b.length ≤ 16 by omega), Option.bind_some, body]
  unfold ze7
  simp only [zz_eq, l2, show ((2 : Nat) : Int) = 2 from rfl, z0, z1, k0, k1, k2, k3, k4, t0, t1, g0, g1, s1, s2, List.nil_append, decide_true, cond_true, cond_false]
theorem SD.rev {l : List Knot} (h : SD l) : SA l.reverse := List.pairwise_reverse.2 h
theorem Pos.perm {m : Int} {a b : List Knot} (h : Pos m a) (hp : b.Perm a) : Pos m b := fun x hx => h x (hp.mem_iff.1 hx)
theorem both_eq (f : Nat) (a b : List Knot) (hf : 1000 < f) (ha : a.length ≤ 4) (hb : b.length ≤ 4) (sa : SA a) (pa : Pos 2000 a) (pb : Pos 2000 b) :
    zfe f ((a, ()), (b, ()), ()) = some ((putAll a b, ()), ()) := by
  show zje f (iter (zjd f) f) a b = _
  unfold zje
  have hl : (a ++ b).length ≤ 8 := by rw [List.length_append]; omega
  have hs : (isort kT (a ++ b)).length ≤ 8 := by rw [zre]; exact hl
  have h1 : (isort kT (a ++ b)).length < LIM := by simp only [LIM]; omega
  rw [zQc f a b hf (by omega) (by omega), Option.bind_some, sortv0 f hf (a ++ b) (by omega), Option.bind_some]
  simp only [zz_eq, Int.toNat_natCast, le_cast, h1, decide_true, cond_true]
  have gl := zlH f (isort kT (a ++ b)) (by omega) (isort kT (a ++ b)).length 0 [] f (by omega) (by simp) (by omega)
  refine gl.trans ?_
  have pab : Pos 2000 (a ++ b) := fun x hx => (List.mem_append.1 hx).elim (pa x) (pb x)
  have g := zlG (m := 2000) (by omega) (L := isort kT (a ++ b)) (R := []) (by omega) List.Pairwise.nil (fun y hy => by cases hy) (zDS kT (a ++ b)) (pab.perm (zhx kT _)) (fun y hy => by cases hy)
  have p := zri (m := 2000) (by omega) (b := b) (a := a) (by omega) sa pa pb
  have e : (glue [] (isort kT (a ++ b))).reverse = putAll a b := by
    refine zQb g.1.rev p.1 (Pos.perm g.2.1 (List.reverse_perm _)) p.2.1 fun k => ?_
    rw [zDZ (List.reverse_perm _), g.2.2, p.2.2, zDZ (zhx kT _), zDY]
    show 0 + _ = _; omega
  rw [List.drop_zero, e]
end Go.Proofs.YtdgdoeknpakmlaaGreat.Den
namespace Go.Proofs.YtdgdoeknpakmlaaGreat.Den
open Go
theorem zD0 {all : Int} (h0 : 0 ≤ all) (h1 : all ≤ 2000) : ∀ {l : List Knot} {p s : Int}, -1 ≤ p → 0 ≤ s → s ≤ 100000 → l.length ≤ 8 → s + 2000 * l.length ≤ 1000000 → topGo all l p s = true → (∀ x ∈ l, p < x.1) ∧ SA l ∧ Pos 2000 l
  | [], _, _, _, _, _, _, _, _ => ⟨fun x hx => (by cases hx), List.Pairwise.nil, fun x hx => (by cases hx)⟩
  | x :: r, p, s, hp, hs, hs2, hl, hb, h => by
    simp only [topGo, Bool.and_eq_true, decide_eq_true_eq] at h
    simp only [List.length_cons] at hl hb
    obtain ⟨hx, hr⟩ := h
    have e : w64 (s + x.2.1) = s + x.2.1 := by rw [w64_id] <;> omega
    rw [e] at hr
    by_cases hb2 : s + x.2.1 ≤ 100000
    · obtain ⟨i1, i2, i3⟩ := zD0 h0 h1 (by omega) (by omega) hb2 (by omega) (by omega) hr
      refine ⟨fun y hy => ?_, List.pairwise_cons.2 ⟨i1, i2⟩, fun y hy => ?_⟩
      · rcases List.mem_cons.1 hy with rfl | hy
        · exact hx.1
        · have := i1 y hy; omega
      · rcases List.mem_cons.1 hy with rfl | hy
        · exact ⟨by omega, hx.2.1, hx.2.2.1, hx.2.2.2⟩
        · exact i3 y hy
    · exfalso
      have big : ∀ (l : List Knot) (p s : Int), 2000 < s → s + 2000 * l.length ≤ 1000000 → topGo all l p s = true → False := by
        intro l
        induction l with
        | nil => intro p s hs _ h; simp only [topGo, decide_eq_true_eq] at h; omega
        | cons y l ih =>
          intro p s hs hb h
          simp only [topGo, Bool.and_eq_true, decide_eq_true_eq] at h
          simp only [List.length_cons] at hb
          have e : w64 (s + y.2.1) = s + y.2.1 := by rw [w64_id] <;> omega
          rw [e] at h
          exact ih y.1 (s + y.2.1) (by omega) (by omega) h.2
      exact big r x.1 (s + x.2.1) (by omega) (by omega) hr
theorem zD1 {l : List Knot} {lost all : Int} (h : topB l lost all = true) : SA l ∧ Pos 2000 l ∧ l.length ≤ 4 ∧ 0 ≤ lost ∧ lost ≤ 2000 ∧ 0 ≤ all ∧ all ≤ 2000 := by
  have f := four h
  unfold topB at h
  simp only [Bool.and_eq_true] at h
  have g := zD0 f.2.2.2.1 f.2.2.2.2 (by omega) (by omega) (by omega) (by omega) (by omega) h.2
  exact ⟨g.2.1, g.2.2, f⟩
theorem zQd {m : Int} {l : List Knot} (hl : l.length < 1000) : cntGe m l = ((l.countP fun x => decide (x.2.1 ≥ m)) : Nat) := by
  have gen : ∀ (l : List Knot) (n : Nat), n + l.length < 1000 → l.foldl (fun (n : Int) x => cond (decide (x.2.1 ≥ m)) (w64 (n + 1)) n) (n : Int) = ((n + l.countP fun x => decide (x.2.1 ≥ m) : Nat) : Int) := by
    intro l
    induction l with
    | nil => intro n _; rfl
    | cons x l ih =>
      intro n hn
      simp only [List.length_cons] at hn
      rw [List.foldl_cons, List.countP_cons]
      cases hc : decide (x.2.1 ≥ m)
      · simp only [cond_false]
        rw [ih n (by omega)]; simp
      · have e : w64 ((n : Int) + 1) = ((n + 1 : Nat) : Int) := by rw [w64_id] <;> omega
        simp only [cond_true, e]
        rw [ih (n + 1) (by omega)]; simp; omega
  have := gen l 0 (by omega)
  simpa [cntGe] using this
theorem zrj (p : Knot → Bool) : ∀ (l : List Knot) (b : Int), (∀ x ∈ l, p x = true → x.2.1 ≤ l.foldl (fun b x => cond (p x) (if x.2.1 > b then x.2.1 else b) b) b) ∧ b ≤ l.foldl (fun b x => cond (p x) (if x.2.1 > b then x.2.1 else b) b) b ∧
    (l.foldl (fun b x => cond (p x) (if x.2.1 > b then x.2.1 else b) b) b = b ∨ ∃ x ∈ l, p x = true ∧ l.foldl (fun b x => cond (p x) (if x.2.1 > b then x.2.1 else b) b) b = x.2.1)
  | [], b => ⟨fun x hx => (by cases hx), Int.le_refl _, .inl rfl⟩
  | y :: l, b => by
    rw [List.foldl_cons]
    obtain ⟨i1, i2, i3⟩ := zrj p l (cond (p y) (if y.2.1 > b then y.2.1 else b) b)
    generalize l.foldl (fun b x => cond (p x) (if x.2.1 > b then x.2.1 else b) b) (cond (p y) (if y.2.1 > b then y.2.1 else b) b) = r at i1 i2 i3
    refine ⟨fun x hx hp => ?_, ?_, ?_⟩
    · rcases List.mem_cons.1 hx with rfl | hx
      · rw [hp, cond_true] at i2
        split at i2 <;> omega
      · exact i1 x hx hp
    · cases hp : p y
      · rw [hp, cond_false] at i2; exact i2
      · rw [hp, cond_true] at i2; split at i2 <;> omega
    · rcases i3 with h | ⟨x, hx, h1, h2⟩
      · cases hp : p y
        · rw [hp, cond_false] at h; exact .inl h
        · rw [hp, cond_true] at h
          by_cases hc : y.2.1 > b
          · rw [if_pos hc] at h; exact .inr ⟨y, List.mem_cons_self .., hp, h⟩
          · rw [if_neg hc] at h; exact .inl h
      · exact .inr ⟨x, List.mem_cons_of_mem _ hx, h1, h2⟩
theorem zD2 {l : List Knot} (hl : l.length < 1000) : over3 l = l.foldl (fun b x => cond (decide (4 < l.countP fun y => decide (y.2.1 ≥ x.2.1))) (if x.2.1 > b then x.2.1 else b) b) 0 := by
  unfold over3
  congr 1
  funext b x
  congr 1
  rw [zQd hl]
  exact decide_eq_decide.2 (by omega)
theorem zD3 {l : List Knot} (h : l.length ≤ 4) : over3 l = 0 := by
  rw [zD2 (by omega)]
  have g := zrj (fun x => decide (4 < l.countP fun y => decide (y.2.1 ≥ x.2.1))) l 0
  rcases g.2.2 with h' | ⟨x, _, h1, _⟩
  · exact h'
  · have := List.countP_le_length (p := fun y : Knot => decide (y.2.1 ≥ x.2.1)) (l := l)
    have := of_decide_eq_true h1
    omega
theorem fifth {l : List Knot} {m : Int} (hp : Pos m l) {a0 a1 a2 a3 a4 : Knot} {r : List Knot} (h : isort kN l = a0 :: a1 :: a2 :: a3 :: a4 :: r) (hl : l.length < 1000) :
    over3 l = a4.2.1 ∧ 5 ≤ (l.countP fun y => decide (y.2.1 ≥ a4.2.1)) ∧ (l.countP fun y => decide (a4.2.1 < y.2.1)) ≤ 4 ∧ 1 ≤ a4.2.1 := by
  have pm := zhx kN l
  have up := zDS kN l
  rw [h] at pm up
  simp only [List.pairwise_cons] at up
  obtain ⟨u0, u1, u2, u3, u4, -⟩ := up
  have m4 : a4 ∈ l := pm.mem_iff.1 (by simp)
  have p4 := hp a4 m4
  have g0 : a0.2.1 ≥ a4.2.1 := by have := u0 a4 (by simp); unfold kN at this; omega
  have g1 : a1.2.1 ≥ a4.2.1 := by have := u1 a4 (by simp); unfold kN at this; omega
  have g2 : a2.2.1 ≥ a4.2.1 := by have := u2 a4 (by simp); unfold kN at this; omega
  have g3 : a3.2.1 ≥ a4.2.1 := by have := u3 a4 (by simp); unfold kN at this; omega
  have gr : ∀ y ∈ r, y.2.1 ≤ a4.2.1 := fun y hy => by have := u4 y hy; unfold kN at this; omega
  have c5 : 5 ≤ (l.countP fun y => decide (y.2.1 ≥ a4.2.1)) := by
    rw [← pm.countP_eq]
    simp only [List.countP_cons, g0, g1, g2, g3, Int.le_refl, ge_iff_le, decide_true, if_true]
    omega
  have top4 : ∀ v : Int, a4.2.1 < v → (l.countP fun y => decide (v ≤ y.2.1)) ≤ 4 := fun v hv => by
    rw [← pm.countP_eq]
    have z : (r.countP fun y => decide (v ≤ y.2.1)) = 0 := by
      rw [List.countP_eq_zero]
      intro y hy
      have := gr y hy
      simp; omega
    have z4 : ¬ v ≤ a4.2.1 := by omega
    simp only [List.countP_cons, z, z4, decide_false]
    have : ∀ b : Bool, (if b = true then 1 else 0) ≤ 1 := fun b => by cases b <;> simp
    have h0 := this (decide (v ≤ a0.2.1))
    have h1 := this (decide (v ≤ a1.2.1))
    have h2 := this (decide (v ≤ a2.2.1))
    have h3 := this (decide (v ≤ a3.2.1))
    simp only [Bool.false_eq_true, if_false]
    omega
  refine ⟨?_, c5, ?_, p4.2.2.1⟩
  · rw [zD2 hl]
    have g := zrj (fun x => decide (4 < l.countP fun y => decide (y.2.1 ≥ x.2.1))) l 0
    generalize l.foldl (fun b x => cond (decide (4 < l.countP fun y => decide (y.2.1 ≥ x.2.1))) (if x.2.1 > b then x.2.1 else b) b) 0 = w at g
    have lo := g.1 a4 m4 (decide_eq_true (by omega))
    rcases g.2.2 with h' | ⟨x, _, h1, h2⟩
    · omega
    · have h3 : 4 < l.countP fun y => decide (y.2.1 ≥ x.2.1) := of_decide_eq_true h1
      by_cases hx : a4.2.1 < x.2.1
      · have h4 : (l.countP fun y => decide (y.2.1 ≥ x.2.1)) ≤ 4 := top4 x.2.1 hx
        omega
      · omega
  · have := top4 (a4.2.1 + 1) (by omega)
    exact this
theorem zQe (f : Nat) (l : List Knot) (h : 0 < l.length) (hl : l.length < 1000) : zbU f ((l, ()), ()) = some ((l, ()), ()) := by
  show znb f l = _
  unfold znb
  have h1 : 0 + l.length < LIM := by simp only [LIM]; omega
  simp only [h, h1, decide_true, cond_true, List.nil_append]
theorem zD4 (f : Nat) (l : List Knot) (m : Int) (hl : l.length < 1000) (l0 : List Knot) (lost all u w : Int) : ∀ (d i : Nat) (out : List Knot) (fuel : Nat), i + d = l.length → out.length ≤ i → d < fuel →
    iter (zb8 f) fuel ((i : Int), (l.length : Int), l, m, out, l0, lost, all, u, w) = some ((out ++ less3 m (l.drop i), w64 (lost + m), all, ()), ())
  | _, _, _, 0, _, _, h => by omega
  | 0, i, out, fuel + 1, hi, ho, hf => by
    rw [iter]
    show ze6 f _ _ = _
    unfold ze6
    obtain rfl : i = l.length := by omega
    simp only [zc, decide_false, cond_false, List.drop_eq_nil_of_le (Nat.le_refl _), less3, List.append_nil]
  | d + 1, i, out, fuel + 1, hi, ho, hf => by
    rw [iter]
    show ze6 f _ _ = _
    unfold ze6
    have hlt : i < l.length := by omega
    have ih : ∀ (out : List Knot), out.length ≤ i + 1 → _ := fun out h => zD4 f l m hl l0 lost all u w d (i + 1) out fuel (by omega) h (by omega)
    have h1 : out.length + 1 < LIM := by simp only [LIM]; omega
    simp only [zz_eq, lt_cast hlt, le_cast, decide_true, cond_true, Int.toNat_natCast, w64_up (show i < 4294967296 by omega), h1]
    rw [zaN (0, 0, ()) hlt]
    obtain ⟨x, hx⟩ : ∃ x : Knot, l.getD i (0, 0, ()) = x := ⟨_, rfl⟩
    simp only [hx]
    have e1 := ih (out ++ [(x.1, w64 (x.2.1 - m), ())]) (by simp; omega)
    have e2 := ih out (by omega)
    simp only [e1, e2]
    simp only [less3, List.append_assoc, List.singleton_append, List.cons_append, List.nil_append]
    cases decide (x.2.1 > m) <;> rfl
theorem zrk : ∀ {l : List Knot}, Pos 1000000 l → less3 0 l = l
  | [], _ => rfl
  | x :: r, h => by
    have px := h x (List.mem_cons_self ..)
    have e : w64 (x.2.1 - 0) = x.2.1 := by rw [w64_id] <;> omega
    have c : decide (x.2.1 > 0) = true := decide_eq_true (by omega)
    unfold less3
    rw [c, e, cond_true, zrk fun y hy => h y (List.mem_cons_of_mem _ hy)]
theorem cut_eq (f : Nat) (hf : 1000 < f) (l : List Knot) (lost all : Int) (hl : l.length < 13) (hp : Pos 1000000 l) (h0 : 0 ≤ lost) (h1 : lost ≤ 1000000) : zb9 f ((l, lost, all, ()), ()) = some (cut3 l lost all, ()) := by
  show zaz f (iter (zb8 f) f) l lost all = _
  unfold zaz cut3
  by_cases h : l.length ≤ 4
  · have c : (zz l.length ≤ (4 : Int)) := by rw [zz_eq]; omega
    have e : w64 (lost + 0) = lost := by rw [w64_id] <;> omega
    simp only [c, decide_true, cond_true, zD3 h, zrk hp, e]
  · have c : ¬ (zz l.length ≤ (4 : Int)) := by rw [zz_eq]; omega
    have hs := zre kN l
    obtain ⟨a0, a1, a2, a3, a4, r, hr⟩ : ∃ a0 a1 a2 a3 a4 r, isort kN l = a0 :: a1 :: a2 :: a3 :: a4 :: r := by
      match hq : isort kN l with
      | [] | [_] | [_, _] | [_, _, _] | [_, _, _, _] => rw [hq] at hs; simp at hs; omega
      | a0 :: a1 :: a2 :: a3 :: a4 :: r => exact ⟨a0, a1, a2, a3, a4, r, rfl⟩
    have fi := fifth hp hr (by omega)
    rw [zQe f l (by omega) (by omega), Option.bind_some, sortv1 f hf l hl, Option.bind_some]
    have c1 : (4 : Int) < zz (isort kN l).length := by rw [zz_eq, hs]; omega
    have c2 : Int.toNat 4 < (isort kN l).length := by rw [hs]; show 4 < _; omega
    have g4 : (isort kN l).getD (Int.toNat 4) (0, 0, ()) = a4 := by rw [hr]; rfl
    simp only [c, c1, c2, decide_true, decide_false, cond_true, cond_false, g4]
    have lp := zD4 f l a4.2.1 (by omega) l lost all 0 0 l.length 0 [] f (by omega) (by simp) (by omega)
    rw [fi.1]
    exact lp
theorem zQf (f : Nat) (hf : 1000 < f) (pa : List Knot) (la aa : Int) (pb : List Knot) (lb ab : Int) (ha : pa.length ≤ 4) (hb : pb.length ≤ 4) (sa : SA pa) (ga : Pos 2000 pa) (gb : Pos 2000 pb) (h0 : 0 ≤ la ∧ la ≤ 2000) (h1 : 0 ≤ lb ∧ lb ≤ 2000) :
    zfg f ((pa, la, aa, ()), (pb, lb, ab, ()), ()) = some (cut3 (putAll pa pb) (w64 (la + lb)) (w64 (aa + ab)), ()) := by
  show zff f pa la aa pb lb ab = _
  unfold zff
  have e : w64 (la + lb) = la + lb := by rw [w64_id] <;> omega
  have p := zri (m := 2000) (by omega) (b := pb) (a := pa) (by omega) sa ga gb
  have l8 := zDE pb pa
  rw [both_eq f pa pb hf ha hb sa ga gb, Option.bind_some, cut_eq f hf (putAll pa pb) (w64 (la + lb)) _ (by omega) (p.2.1.mono (by omega)) (by omega) (by omega), Option.bind_some]
theorem zQg (f : Nat) (hf : 1000 < f) (ps : List Knot) (lost all t : Int) : zfi f ((ps, lost, all, ()), (t, ()), ()) = some ((topAdd ps lost all t).1, ((topAdd ps lost all t).2, ()), ()) := by
  show zfh f ps lost all t = _
  unfold zfh topAdd
  simp only [zDu f ps lost all (by omega), zhr, Option.bind_some]
  cases h : topB ps lost all
  · rfl
  cases ht : thingB t
  · rfl
  have b := zD1 h
  have tt := zc0 ht
  by_cases c : all = 2000
  · have c1 : (all == 2000) = true := by simpa using c
    have c2 : ¬ all < 2000 := by omega
    simp only [c1, c2, decide_false, Bool.not_true, cond_false, cond_true, Bool.and_false]
    rfl
  · have c1 : (all == 2000) = false := by simpa using c
    have c2 : all < 2000 := by omega
    have e := zQf f hf ps lost all [(t, 1, ())] 0 1 (by omega) (by simp) b.1 b.2.1 (fun x hx => by rcases List.mem_singleton.1 hx with rfl; exact ⟨tt.1, tt.2, by show (1 : Int) ≤ 1; omega, by show (1 : Int) ≤ 2000; omega⟩) (by omega) (by omega)
    have e0 : w64 (lost + 0) = lost := by rw [w64_id] <;> omega
    rw [e0, show putAll ps [(t, 1, ())] = putP t 1 ps false from rfl] at e
    simp only [c1, c2, decide_true, Bool.not_true, cond_false, cond_true, Bool.and_self, e, Option.bind_some]
end Go.Proofs.YtdgdoeknpakmlaaGreat.Den
