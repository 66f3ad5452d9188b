/- Part 6 of the texts behind the row. -/
import Derived.Test.YtmkekjmckdkcnaaAEN5
import Derived.Test.YtmkekjmckdkcnaaChecked
import Derived.KernelRfl
set_option linter.unusedVariables false
set_option linter.unusedSimpArgs false
namespace Go.Proofs.Ytmkekjmckdkcnaa.Den
open Go Go.RowKit
noncomputable def bodyOf (f : Func) : Code := match f.body with | some c => c | none => .skip
noncomputable def irOf (P : Program) (f : Func) (frz : List Nat) (ann : List Norm) (cuts : List (Nat × Norm)) : C := match lightC P frz f.ntmps ann cuts 0 (bodyOf f) with | some (c, _) => c | none => .skip
theorem mixed : Try.prog.follows .mixedOrders = true := Checked.mixed Try.checked
theorem entNil {P : Program} : ∀ p ∈ ([] : List (Nat × TE)), EntryOK P p.1 p.2 := fun _ h => nomatch h
theorem entCons {P : Program} {f : Nat} {te : TE} {l : List (Nat × TE)} (h : EntryOK P f te) (t : ∀ p ∈ l, EntryOK P p.1 p.2) : ∀ p ∈ (f, te) :: l, EntryOK P p.1 p.2 := List.forall_mem_cons.2 ⟨h, t⟩
theorem methNil {P : Program} : ∀ p ∈ ([] : List (Nat × String × Nat)), MethOK P p.1 p.2.1 p.2.2 := fun _ h => nomatch h
theorem isFn {P : Program} {f : Nat} {fn : Func} (h : P.funcs[f]? = some fn) (hn : decide (fn.name = "runtime.NumGoroutine") = false) (hb : fn.body.isSome = true) : ∃ fn, P.funcs[f]? = some fn ∧ fn.name ≠ "runtime.NumGoroutine" ∧ fn.body.isSome = true := ⟨fn, h, of_decide_eq_false hn, hb⟩
abbrev I6 : Kd := .int .i64
abbrev KP : Kd := .pair I6 (.pair I6 .unit)
abbrev LP := List (Int × (Int × Unit))
abbrev SumY := (List (List Int)) × ((List Int) × (LP × (Int × (Int × (LP × (Int × Unit))))))
def w64 (n : Int) : Int := IntKind.wrap .i64 n
def zz (n : Nat) : Int := (n : Int)
theorem zz_eq (n : Nat) : zz n = (n : Int) := rfl
end Go.Proofs.Ytmkekjmckdkcnaa.Den
namespace Go.Proofs.Ytmkekjmckdkcnaa.Den
open Go Go.RowKit
theorem zeN (a m n : Nat) : List.range' a m ++ List.range' (a + m) n = List.range' a (m + n) := by have h := List.range'_append (s := a) (m := m) (n := n) (step := 1); rwa [Nat.one_mul] at h
theorem zhr : ∀ {K : Kd} {x : K.T} {k : Nat}, SV.refsL (expl K x k).1 = List.range' k (expl K x k).2.length
  | .int _, _, _ => rfl
  | .bool, _, _ => rfl
  | .unit, _, _ => rfl
  | .pair a b, x, k => by
    simp only [expl]
    rw [zZ, zhr, zhr, List.length_append, zeN]
  | .list e, xs, k => rfl
theorem zmp {e : Kd} : ∀ {xs : List e.T} {k : Nat}, SV.refsL (explL e xs k).1 = List.range' k (explL e xs k).2.length
  | [], _ => rfl
  | x :: xs, k => by
    simp only [explL]
    rw [zZ, zhr, zmp, List.length_append, zeN]
theorem zhs {f : Nat → Option Nat} : ∀ {a b : List SV}, SV.renL f (a ++ b) = SV.renL f a ++ SV.renL f b
  | [], b => rfl
  | c :: a, b => by simp [SV.renL, zhs]
theorem zht {f : Nat → Option Nat} : ∀ {K : Kd} {x : K.T} {k : Nat}, (∀ i, i < k + (expl K x k).2.length → f i = some i) → SV.renL f (expl K x k).1 = (expl K x k).1
  | .int _, _, _, _ => by simp [expl, SV.renL, SV.ren]
  | .bool, _, _, _ => by simp [expl, SV.renL, SV.ren]
  | .unit, _, _, _ => by simp [expl, SV.renL]
  | .pair a b, x, k, h => by
    simp only [expl, List.length_append] at h ⊢
    rw [zhs, zht (fun i hi => h i (by omega)), zht (fun i hi => h i (by omega))]
  | .list e, xs, k, h => by
    simp only [expl, List.length_singleton] at h ⊢
    simp [SV.renL, SV.ren, h k (by omega)]
theorem zmq {f : Nat → Option Nat} {e : Kd} : ∀ {xs : List e.T} {k : Nat}, (∀ i, i < k + (explL e xs k).2.length → f i = some i) → SV.renL f (explL e xs k).1 = (explL e xs k).1
  | [], _, _ => rfl
  | x :: xs, k, h => by
    simp only [explL, List.length_append] at h ⊢
    rw [zhs, zht (fun i hi => h i (by omega)), zmq (fun i hi => h i (by omega))]
def Leaf (x : Blk) : Prop := x.refs = [] ∧ ∀ f, x.ren f = x
theorem zsp {e : Kd} {xs : List e.T} : Leaf (childB e xs) := by
  unfold childB
  cases e.noList
  · exact ⟨rfl, fun _ => rfl⟩
  · exact ⟨rfl, fun _ => rfl⟩
theorem zhu : ∀ {K : Kd} {x : K.T} {k : Nat}, ∀ z ∈ (expl K x k).2, Leaf z
  | .int _, _, _, z, h => by cases h
  | .bool, _, _, z, h => by cases h
  | .unit, _, _, z, h => by cases h
  | .pair a b, x, k, z, h => by
    simp only [expl] at h
    rcases List.mem_append.1 h with h | h
    · exact zhu z h
    · exact zhu z h
  | .list e, xs, k, z, h => by
    simp only [expl, List.mem_singleton] at h
    subst h; exact zsp
theorem zmr {e : Kd} : ∀ {xs : List e.T} {k : Nat}, ∀ z ∈ (explL e xs k).2, Leaf z
  | [], _, z, h => by cases h
  | x :: xs, k, z, h => by
    simp only [explL] at h
    rcases List.mem_append.1 h with h | h
    · exact zhu z h
    · exact zmr z h
theorem zdb : ∀ {K : Kd} {x y : K.T} {k l : Nat}, (expl K x k).2.length = (expl K y l).2.length
  | .int _, _, _, _, _ => rfl
  | .bool, _, _, _, _ => rfl
  | .unit, _, _, _, _ => rfl
  | .pair a b, x, y, k, l => by
    simp only [expl, List.length_append]
    rw [zdb (y := y.1) (l := l), zdb (K := b) (y := y.2) (l := l + (expl a y.1 l).2.length)]
  | .list e, _, _, _, _ => rfl
theorem zeO {e : Kd} : ∀ {xs ys : List e.T} {k : Nat}, explL e (xs ++ ys) k = ((explL e xs k).1 ++ (explL e ys (k + (explL e xs k).2.length)).1, (explL e xs k).2 ++ (explL e ys (k + (explL e xs k).2.length)).2)
  | [], ys, k => by simp [explL]
  | x :: xs, ys, k => by
    rw [List.cons_append]
    simp only [explL]
    rw [zeO (xs := xs)]
    simp only [List.append_assoc, List.length_append, Nat.add_assoc]
theorem zms : ∀ {n a : Nat}, nodupB (List.range' a n) = true
  | 0, _ => rfl
  | n + 1, a => by
    rw [List.range'_succ, nodupB, zms, Bool.and_true, Bool.not_eq_true', List.contains_eq_mem]
    simp only [decide_eq_false_iff_not, List.mem_range'_1]
    omega
theorem zhv {dp : Bool} {H : Heap} : ∀ {K : Kd} {x : K.T} {k : Nat}, (∀ j, j < (expl K x k).2.length → H[k + j]? = (expl K x k).2[j]?) → readT dp H K (expl K x k).1 = some (x, List.range' k (expl K x k).2.length)
  | .int _, x, k, _ => by simp [expl, readT]
  | .bool, x, k, _ => by simp [expl, readT]
  | .unit, x, k, _ => by simp [expl, readT]
  | .pair a b, x, k, h => by
    simp only [expl, readT]
    rw [show a.sz = (expl a x.1 k).1.length from zaN.symm, List.take_left, List.drop_left]
    simp only [expl, List.length_append] at h
    rw [zhv (K := a) fun j hj => by rw [h j (by omega), List.getElem?_append_left hj], zhv (K := b) fun j hj => by
      have := h ((expl a x.1 k).2.length + j) (by omega)
      rw [← Nat.add_assoc] at this
      rw [this, List.getElem?_append_right (by omega), Nat.add_sub_cancel_left]]
    simp only [List.length_append, zeN]
  | .list e, xs, k, h => by
    have h0 := h 0 (by simp [expl])
    simp only [expl, Nat.add_zero, List.getElem?_cons_zero] at h0
    simp only [expl, readT, h0]
    unfold childB
    cases hn : e.noList <;> simp [hn, List.range']
theorem zmt {dp : Bool} {H : Heap} {e : Kd} : ∀ {xs : List e.T} {k : Nat}, (∀ j, j < (explL e xs k).2.length → H[k + j]? = (explL e xs k).2[j]?) → readRows (readT dp H e) e.sz xs.length (explL e xs k).1 = some (xs, List.range' k (explL e xs k).2.length)
  | [], k, _ => rfl
  | x :: xs, k, h => by
    simp only [explL, List.length_append] at h
    simp only [explL, List.length_cons, readRows]
    rw [show e.sz = (expl e x k).1.length from zaN.symm, List.take_left, List.drop_left]
    rw [zhv (K := e) fun j hj => by rw [h j (by omega), List.getElem?_append_left hj]]
    rw [show (expl e x k).1.length = e.sz from zaN]
    rw [zmt fun j hj => by
      have := h ((expl e x k).2.length + j) (by omega)
      rw [← Nat.add_assoc] at this
      rw [this, List.getElem?_append_right (by omega), Nat.add_sub_cancel_left]]
    simp only [List.length_append, zeN]
theorem zsq {H : Heap} {e : Kd} {xs : List e.T} {t : TypeId} (hz : e.sz ≠ 0) (h0 : H[0]? = some (.cells (explL e xs 1).1 t e.sz)) (h : ∀ j, j < (explL e xs 1).2.length → H[1 + j]? = (explL e xs 1).2[j]?) :
    readT true H (.list e) [.own 0] = some (xs, List.range' 0 ((explL e xs 1).2.length + 1)) := by
  simp only [readT, h0, hz, ne_eq, not_false_eq_true, and_self, if_true]
  rw [zaO, Nat.mul_div_cancel _ (Nat.pos_of_ne_zero hz), zmt h]
  rfl
theorem gc_of {n0 : Nat} {τ : Env} {H : Heap} {σ : List Nat} (h : gcOrder n0 H LIM (τ.flatMap (fun p => p.2.refs) ++ (H.take n0).flatMap Blk.refs) [] = σ)
    (hc : (nodupB σ && (σ.all (fun β => Nat.ble n0 β && Nat.blt β H.length) && Nat.ble n0 H.length)) = true) :
    gc n0 τ H = some (τ.map (fun p => (p.1, p.2.ren (renF n0 σ))), (H.take n0).map (Blk.ren (renF n0 σ)) ++ σ.map (fun β => match H[β]? with | some x => x.ren (renF n0 σ) | none => .dead)) := by
  unfold gc
  simp only [h]
  rw [hc]; rfl
end Go.Proofs.Ytmkekjmckdkcnaa.Den
namespace Go.Proofs.Ytmkekjmckdkcnaa.Den
open Go
theorem w64_id {x : Int} (h1 : -9223372036854775808 ≤ x) (h2 : x ≤ 9223372036854775807) : w64 x = x := by
  unfold w64 IntKind.wrap
  simp only [show IntKind.i64.bits = 64 from rfl, show IntKind.i64.signed = true from rfl, Bool.true_and, decide_eq_true_eq]
  rw [show (2 : Int) ^ 64 = 18446744073709551616 from by decide, show (2 : Int) ^ (64 - 1) = 9223372036854775808 from by decide]
  split <;> omega
def Ret {R : Type} (o : Option R) (Q : R → Prop) : Prop := ∃ r, o = some r ∧ Q r
section
variable {R S V : Type} {Q : R → Prop} {x y : Option R}
theorem Ret.ret {r : R} (h : Q r) : Ret (some r) Q := ⟨r, rfl, h⟩
theorem Ret.mono {Q' : R → Prop} (h : Ret x Q) (h2 : ∀ r, Q r → Q' r) : Ret x Q' := by
  obtain ⟨r, h1, h3⟩ := h; exact ⟨r, h1, h2 r h3⟩
theorem Ret.bind {o : Option S} {k : S → Option R} {P : S → Prop} (h : Ret o P) (hk : ∀ s, P s → Ret (k s) Q) : Ret (o.bind k) Q := by
  obtain ⟨s, h1, h2⟩ := h
  subst h1; exact hk s h2
theorem Ret.cond {b : Bool} (ht : b = true → Ret x Q) (hf : b = false → Ret y Q) : Ret (cond b x y) Q := by
  cases b
  · exact hf rfl
  · exact ht rfl
theorem Ret.tst {b : Bool} (hb : b = true) (h : Ret x Q) : Ret (tst b x) Q := by
  subst hb; exact h
theorem Ret.eq {r : R} (h : Ret x fun s => s = r) : x = some r := by
  obtain ⟨s, h1, h2⟩ := h; rw [h1, h2]
theorem Ret.of {r : R} (h : x = some r) : Ret x fun s => s = r := ⟨r, h, rfl⟩
theorem Ret.loop {step : (V → Option R) → V → Option R} (I : Nat → V → Prop) (h : ∀ (n : Nat) (v : V) (g : V → Option R), I n v → (∀ m v', m < n → I m v' → Ret (g v') Q) → Ret (step g v) Q) :
    ∀ (fuel n : Nat) (v : V), I n v → n < fuel → Ret (iter step fuel v) Q
  | 0, n, v, _, h2 => by omega
  | fuel + 1, n, v, h1, h2 => h n v _ h1 fun m v' h3 h4 => Ret.loop I h fuel m v' h4 (by omega)
end
end Go.Proofs.Ytmkekjmckdkcnaa.Den
namespace Go.Proofs.Ytmkekjmckdkcnaa.Den
open Go
section
variable {R V α β : Type} {σ : Type}
theorem zsr {l : List α} {i : Nat} (d : α) (h : i < l.length) : l.drop i = l.getD i d :: l.drop (i + 1) := by
  rw [List.drop_eq_getElem_cons h, List.getD_eq_getElem?_getD, List.getElem?_eq_getElem h]; rfl
theorem zss {out : List β} {i : Nat} {y : β} (h : i < out.length) (r : List β) : (out.set i y).take (i + 1) ++ r = out.take i ++ y :: r := by
  rw [List.take_succ_eq_append_getElem (by simpa using h), List.getElem_set_self, List.take_set_of_le (Nat.le_refl i), List.append_assoc]; rfl
theorem zmu {st : (V → Option R) → V → Option R} {enc : Nat → List β → V} (fin : List β → Option R) (l : List α) (d0 : α) (h : α → β)
    (hs : ∀ i out g, i < l.length → out.length = l.length → st g (enc i out) = g (enc (i + 1) (out.set i (h (l.getD i d0))))) (he : ∀ out g, st g (enc l.length out) = fin out) :
    ∀ (d i : Nat) (out : List β) (fuel : Nat), i + d = l.length → out.length = l.length → d < fuel → iter st fuel (enc i out) = fin (out.take i ++ (l.drop i).map h)
  | 0, i, out, fuel + 1, hi, ho, hf => by
    obtain rfl : i = l.length := by omega
    rw [iter, he, List.drop_eq_nil_of_le (Nat.le_refl _), ← ho, List.take_length]; simp
  | d + 1, i, out, fuel + 1, hi, ho, hf => by
    rw [iter, hs i out _ (by omega) ho, zmu fin l d0 h hs he d (i + 1) _ fuel (by omega) (by simpa using ho) (by omega), zss (by omega), zsr d0 (show i < l.length by omega)]
    rfl
theorem zst {st : (V → Option R) → V → Option R} {enc : Nat → List β → V} (fin : List β → Option R) (l : List α) (d0 : α) (h : α → β)
    (hs : ∀ i out g, i < l.length → out.length = l.length → st g (enc i out) = g (enc (i + 1) (out.set i (h (l.getD i d0))))) (he : ∀ out g, st g (enc l.length out) = fin out)
    (fuel : Nat) (z : β) (hf : l.length < fuel) : iter st fuel (enc 0 (List.replicate l.length z)) = fin (l.map h) := by
  rw [zmu fin l d0 h hs he l.length 0 _ fuel (by omega) (by simp) hf]; rfl
theorem zA {st : (V → Option R) → V → Option R} {enc : Nat → V} (r : Option R) (n : Nat)
    (hs : ∀ i g, i < n → st g (enc i) = g (enc (i + 1))) (he : ∀ g, st g (enc n) = r) : ∀ (d i fuel : Nat), i + d = n → d < fuel → iter st fuel (enc i) = r
  | 0, i, fuel + 1, hi, hf => by
    obtain rfl : i = n := by omega
    rw [iter, he]
  | d + 1, i, fuel + 1, hi, hf => by
    rw [iter, hs i _ (by omega), zA r n hs he d (i + 1) fuel (by omega) (by omega)]
end
theorem w64_up {i : Nat} (h : i < 4294967296) : w64 ((i : Int) + 1) = ((i + 1 : Nat) : Int) := by rw [w64_id] <;> omega
theorem lt_cast {i n : Nat} (h : i < n) : (i : Int) < (n : Int) := by omega
theorem zj {n : Nat} : ¬ ((n : Int) < (n : Int)) := by omega
theorem le_cast {i : Nat} : (0 : Int) ≤ (i : Int) := by omega
end Go.Proofs.Ytmkekjmckdkcnaa.Den
namespace Go.Proofs.Ytmkekjmckdkcnaa.Den
open Go Go.RowKit
abbrev KS : Kd := (Kd.pair (Kd.pair (Kd.list (Kd.list I6)) Kd.unit) (Kd.pair (Kd.pair (Kd.list I6) Kd.unit) (Kd.pair (Kd.pair (Kd.list KP) (Kd.pair I6 (Kd.pair I6 Kd.unit))) (Kd.pair (Kd.pair (Kd.list KP) (Kd.pair I6 Kd.unit)) Kd.unit))))
abbrev KE : Kd := (Kd.pair I6 (Kd.pair I6 (Kd.pair I6 (Kd.pair KS Kd.unit))))
abbrev KN : Kd := (Kd.pair I6 (Kd.pair (Kd.list KE) (Kd.pair I6 (Kd.pair I6 (Kd.pair I6 Kd.unit)))))
abbrev KW : Kd := (Kd.pair I6 (Kd.pair I6 (Kd.pair I6 (Kd.pair I6 (Kd.pair I6 (Kd.pair (Kd.list KE) Kd.unit))))))
abbrev zL := Option (((List Int) × Unit) × Unit)
def zaR (fuel : Nat) : Tab := Tab.of [] []
abbrev zdd : List Pm := [{ cs := [(Kd.list I6, false)], ag := false }]
abbrev zaS : List Pm := [{ cs := [(Kd.list I6, true)], ag := false }]
def zhE : List Norm := [{ live := [4, 0, 3], fix := [] }]
noncomputable def zaT : C := irOf Try.prog Try.f6 [] zhE []
theorem zmO : lightC Try.prog [] Try.f6.ntmps zhE [] 0 (bodyOf Try.f6) = some (zaT, 1) := by kernel_rfl
def zaU : List (Nat × Option (Nat × Bool)) := [(2, none)]
abbrev z7 := (Int) × (List Int) × (List Int)
def zhF (v : z7) : Env × Heap := ([(4, SV.int .i64 v.1), (0, SV.es I6 v.2.1), (3, SV.own 0)], [Blk.arr I6 v.2.2 0])
def zaV (fuel : Nat) (g0 : z7 → zL) (v : z7) : zL :=
 cond (decide (v.1 < (zz (List.length v.2.1))))
 (tst (decide (0 ≤ v.1)) <|
 tst (decide (v.1 < (zz (List.length v.2.1)))) <|
 tst (decide (0 ≤ v.1)) <|
 tst (decide (v.1 < (zz (List.length v.2.2)))) <|
 tst (decide (Int.toNat v.1 < List.length v.2.2)) <|
 g0 (w64 (v.1 + (1 : Int)), v.2.1, List.set v.2.2 (Int.toNat v.1) (List.getD v.2.1 (Int.toNat v.1) 0)))
 (some (((v.2.2, ()), ())))
def zde (fuel : Nat) (g0 : z7 → zL) : z7 → zL := zaV fuel g0
theorem zmP (fuel : Nat) (G) : zaT.lp (zaR fuel) 0 fuel G (endF zaU zaS) 0 zhF = iter (zde fuel) fuel := C.lp_iter fun g v => by kernel_rfl
def zdf (fuel : Nat) (X0 : z7 → zL) (x0 : List Int) : zL :=
 tst (decide (0 ≤ (zz (List.length x0)))) <|
 tst (decide ((zz (List.length x0)) ≤ (zz (List.length x0)))) <|
 tst (decide (Int.toNat (zz (List.length x0)) < LIM)) <|
 X0 ((0 : Int), x0, List.replicate (Int.toNat (zz (List.length x0))) 0)
def zM (fuel : Nat) (x : (((List Int) × Unit) × Unit)) : zL := zdf fuel (iter (zde fuel) fuel) x.1.1
theorem zmQ (fuel : Nat) (x : PsT zdd) : run (zaR fuel) 0 fuel zaT (env0 (svPs zdd x) 0) [] (endF zaU zaS) = zM fuel x :=
  (show run (zaR fuel) 0 fuel zaT (env0 (svPs zdd x) 0) [] (endF zaU zaS) = zdf fuel (zaT.lp (zaR fuel) 0 fuel (fun _ _ _ => none) (endF zaU zaS) 0 zhF) x.1.1 by kernel_rfl).trans (by rw [zmP]; rfl)
def zeS (fuel : Nat) : TF := ⟨zdd, zaS, true, zM fuel⟩
theorem zmR (fuel : Nat) : FnSpec Try.prog 6 (zeS fuel) :=
  fn_spec (T := zaR fuel) (c := bodyOf Try.f6) (fn := Try.f6) (TabOK.of (entNil) (methNil)) mixed (by kernel_rfl) (by kernel_rfl) zmO (by kernel_rfl) (Nat.le_of_ble_eq_true (by kernel_rfl)) (rv := zaU) (by kernel_rfl) (zmQ fuel)
theorem zmS (fuel : Nat) : EntryOK Try.prog 6 (zeS fuel).te := EntryOK.tf rfl (zmR fuel) (isFn (fn := Try.f6) (by kernel_rfl) (by kernel_rfl) (by kernel_rfl))
end Go.Proofs.Ytmkekjmckdkcnaa.Den
namespace Go.Proofs.Ytmkekjmckdkcnaa.Den
open Go Go.RowKit
def markO {α : Type} (g : α → Int → Option (α × Int)) : List α → Int → Option (List α × Int)
  | [], k => some ([], k)
  | x :: xs, k => (g x k).bind fun y => (markO g xs y.2).map fun z => (y.1 :: z.1, z.2)
theorem zmv {α : Type} {g : α → Int → Option (α × Int)} : ∀ {xs : List α} {k : Int} {y : List α × Int}, markO g xs k = some y → y.1.length = xs.length
  | [], k, y, h => by simp only [markO, Option.some.injEq] at h; subst h; rfl
  | x :: xs, k, y, h => by
    simp only [markO, Option.bind_eq_some_iff, Option.map_eq_some_iff] at h
    obtain ⟨y, hy, z, hz, rfl⟩ := h
    simp [zmv hz]
theorem zmw (n0 : Nat) (H : Heap) : ∀ (l : List Nat) (f : Nat), (∀ β ∈ l, β < n0) → gcOrder n0 H f l [] = []
  | l, 0, _ => by cases l <;> rfl
  | [], f + 1, _ => rfl
  | β :: r, f + 1, h => by
    rw [gcOrder]
    have h1 : Nat.blt β n0 = true := by rw [Nat.blt_eq]; exact h β (by simp)
    rw [h1, Bool.true_or, cond_true]
    exact zmw n0 H r f fun γ hγ => h γ (by simp [hγ])
theorem gc_open {e : Kd} {xs : List e.T} {n : Nat} {i k : Int} (hn : (explL e xs 1).2.length = n) :
    gc (n + 1) [(5, .int .i64 i), (0, .own 0), (1, .int .i64 k)] (openH e xs) = some ([(5, .int .i64 i), (0, .own 0), (1, .int .i64 k)], openH e xs) := by
  have hlen : (openH e xs).length = n + 1 := by simp [openH, hn]
  have htake : (openH e xs).take (n + 1) = openH e xs := List.take_of_length_le (by omega)
  have hleaf := zmr (e := e) (xs := xs) (k := 1)
  have hord : gcOrder (n + 1) (openH e xs) LIM (([(5, .int .i64 i), (0, .own 0), (1, .int .i64 k)] : Env).flatMap (fun p => p.2.refs) ++ ((openH e xs).take (n + 1)).flatMap Blk.refs) [] = [] := by
    refine zmw _ _ _ _ fun β hβ => ?_
    rw [htake] at hβ
    have hβ : β ∈ [0] ++ (SV.refsL (explL e xs 1).1 ++ (explL e xs 1).2.flatMap Blk.refs) := hβ
    rw [zmp, hn] at hβ
    simp only [List.mem_append, List.mem_singleton, List.mem_range'_1, List.mem_flatMap] at hβ
    rcases hβ with h | h | ⟨z, hz, h⟩
    · omega
    · omega
    · rw [(hleaf z hz).1] at h; cases h
  rw [gc_of (σ := []) hord (by simp [nodupB, hlen])]
  have hren : ∀ β, β < n + 1 → renF (n + 1) [] β = some β := fun β h => by
    unfold renF
    rw [show Nat.blt β (n + 1) = true by rw [Nat.blt_eq]; exact h, cond_true]
  have h0 := hren 0 (by omega)
  have e1 : (openH e xs).map (Blk.ren (renF (n + 1) [])) = openH e xs := by
    rw [List.map_cons, Blk.ren, zmq (fun j hj => hren j (by omega))]
    congr 1
    conv => rhs; rw [← List.map_id (explL e xs 1).2]
    exact List.map_congr_left fun z hz => (hleaf z hz).2 _
  rw [htake, e1]
  simp only [List.map_cons, List.map_nil, SV.ren, h0, List.append_nil]
theorem zmx {e : Kd} {ys xs : List e.T} {x : e.T} : openH e (ys ++ x :: xs) =
    .cells ((explL e ys 1).1 ++ (expl e x ((explL e ys 1).2.length + 1)).1 ++ (explL e xs (1 + (explL e ys 1).2.length + (expl e x (1 + (explL e ys 1).2.length)).2.length)).1) 0 e.sz ::
      ((explL e ys 1).2 ++ (expl e x ((explL e ys 1).2.length + 1)).2 ++ (explL e xs (1 + (explL e ys 1).2.length + (expl e x (1 + (explL e ys 1).2.length)).2.length)).2) := by
  unfold openH
  rw [zeO, Nat.add_comm 1]
  simp only [explL, List.append_assoc]
theorem zmy {T : Tab} {f2 n0 : Nat} {R : Type} {e : Kd} (bd : C) (n : Nat) (g : e.T → Int → Option (e.T × Int)) (K : Ex → Env → Heap → Option R)
    (hround : ∀ (A B : List SV) (RA RB : List Blk) (i : Nat) (x x' : e.T) (k k' : Int) (K : Ex → Env → Heap → Option R), g x k = some (x', k') → A.length = i * e.sz → i < n → (A ++ (expl e x (RA.length + 1)).1 ++ B).length = n * e.sz → ∃ τ, [5, 0, 1].map (fun s => (s, Tm.get τ s)) = [(5, SV.int .i64 ((i + 1 : Nat) : Int)), (0, .own 0), (1, .int .i64 k')] ∧
      run T n0 f2 bd [(5, .int .i64 (i : Int)), (0, .own 0), (1, .int .i64 k)] (.cells (A ++ (expl e x (RA.length + 1)).1 ++ B) 0 e.sz :: (RA ++ (expl e x (RA.length + 1)).2 ++ RB)) K =
        K .normal τ (.cells (A ++ (expl e x' (RA.length + 1)).1 ++ B) 0 e.sz :: (RA ++ (expl e x' (RA.length + 1)).2 ++ RB)))
    (hexit : ∀ (cs : List SV) (Rs : Heap) (k : Int) (K : Ex → Env → Heap → Option R), cs.length = n * e.sz → ∃ τ, Tm.get τ 1 = .int .i64 k ∧ run T n0 f2 bd [(5, .int .i64 (n : Int)), (0, .own 0), (1, .int .i64 k)] (.cells cs 0 e.sz :: Rs) K = K (.exit 0) τ (.cells cs 0 e.sz :: Rs)) :
    ∀ (xs ys : List e.T) (k k' : Int) (zs : List e.T), ys.length + xs.length = n → (explL e (ys ++ xs) 1).2.length + 1 = n0 → markO g xs k = some (zs, k') →
      ∃ τ, Tm.get τ 1 = .int .i64 k' ∧ loopN (run T n0 f2 bd) n0 { live := [5, 0, 1], fix := [] } (xs.length + 1) [(5, .int .i64 (ys.length : Int)), (0, .own 0), (1, .int .i64 k)] (openH e (ys ++ xs)) K = K (.exit 0) τ (openH e (ys ++ zs))
  | [], ys, k, k', zs, hl, hn0, hm => by
    simp only [markO, Option.some.injEq, Prod.mk.injEq] at hm
    obtain ⟨rfl, rfl⟩ := hm
    have hl' : ys.length = n := by simpa using hl
    obtain ⟨τ, h1, h2⟩ := hexit (explL e (ys ++ []) 1).1 (explL e (ys ++ []) 1).2 k (loopK n0 { live := [5, 0, 1], fix := [] } (fun τ H => loopN (run T n0 f2 bd) n0 { live := [5, 0, 1], fix := [] } 0 τ H K) K) (by rw [zaO]; simp [hl'])
    refine ⟨τ, h1, ?_⟩
    rw [loopN, hl']
    exact h2
  | x :: xs, ys, k, k', zs, hl, hn0, hm => by
    simp only [markO, Option.bind_eq_some_iff, Option.map_eq_some_iff] at hm
    obtain ⟨⟨x', k1⟩, hy, ⟨zs', k2⟩, hz, he⟩ := hm
    simp only [Prod.mk.injEq] at he
    obtain ⟨rfl, rfl⟩ := he
    simp only [List.length_cons] at hl
    have hnum : (explL e (ys ++ [x'] ++ xs) 1).2.length = (explL e (ys ++ x :: xs) 1).2.length := by
      rw [List.append_assoc, zeO (xs := ys), zeO (xs := ys)]
      simp only [List.length_append, List.singleton_append, explL]
      rw [zdb (x := x') (y := x) (l := 1 + (explL e ys 1).2.length)]
    obtain ⟨τ, h3, ih⟩ := zmy bd n g K hround hexit xs (ys ++ [x']) k1 k2 zs' (by simp; omega) (by rw [hnum]; exact hn0) hz
    refine ⟨τ, h3, ?_⟩
    have hcl : ((explL e ys 1).1 ++ (expl e x ((explL e ys 1).2.length + 1)).1 ++ (explL e xs (1 + (explL e ys 1).2.length + (expl e x (1 + (explL e ys 1).2.length)).2.length)).1).length = n * e.sz := by
      simp only [List.length_append, zaO, zaN]
      rw [← hl, ← Nat.add_assoc, Nat.add_mul, Nat.add_mul, Nat.one_mul]; omega
    obtain ⟨τ1, h4, h5⟩ := hround (explL e ys 1).1 (explL e xs (1 + (explL e ys 1).2.length + (expl e x (1 + (explL e ys 1).2.length)).2.length)).1 (explL e ys 1).2 (explL e xs (1 + (explL e ys 1).2.length + (expl e x (1 + (explL e ys 1).2.length)).2.length)).2 ys.length x x' k k1
      (loopK n0 { live := [5, 0, 1], fix := [] } (fun τ H => loopN (run T n0 f2 bd) n0 { live := [5, 0, 1], fix := [] } (xs.length + 1) τ H K) K) hy zaO (by omega) hcl
    rw [loopN, zmx]
    refine h5.trans ?_
    have hheap : (.cells ((explL e ys 1).1 ++ (expl e x' ((explL e ys 1).2.length + 1)).1 ++ (explL e xs (1 + (explL e ys 1).2.length + (expl e x (1 + (explL e ys 1).2.length)).2.length)).1) 0 e.sz ::
      ((explL e ys 1).2 ++ (expl e x' ((explL e ys 1).2.length + 1)).2 ++ (explL e xs (1 + (explL e ys 1).2.length + (expl e x (1 + (explL e ys 1).2.length)).2.length)).2) : Heap) = openH e (ys ++ [x'] ++ xs) := by
      rw [List.append_assoc ys, List.singleton_append, zmx, zdb (x := x') (y := x) (l := 1 + (explL e ys 1).2.length)]
    rw [hheap]
    show (match gc n0 ([5, 0, 1].map fun s => (s, Tm.get τ1 s)) (openH e (ys ++ [x'] ++ xs)) with
      | some (τ, H) => loopN (run T n0 f2 bd) n0 { live := [5, 0, 1], fix := [] } (xs.length + 1) τ H K
      | none => none) = _
    rw [h4, ← hn0, gc_open hnum]
    rw [show ys ++ x' :: zs' = ys ++ [x'] ++ zs' by simp]
    rw [hn0]
    have e1 : (((ys.length + 1 : Nat) : Int)) = ((ys ++ [x']).length : Int) := by simp
    rw [e1]
    exact ih
theorem ia_open {R : Type} {cs : List SV} {t : TypeId} {sz : Nat} {Rs : Heap} {i : Nat} {ik : IntKind} {k : SV → Option R} (hz : sz ≠ 0) (h : i < cs.length / sz) : iaI (.cells cs t sz :: Rs) sz (.own 0) (.int ik (i : Int)) k = k (.ptr 0 (i * sz)) := by
  simp only [iaI, List.getElem?_cons_zero]
  rw [if_pos ⟨trivial, hz⟩]
  have h1 : decide ((0 : Int) ≤ (i : Int)) = true := by simp
  have h2 : decide ((i : Int) < ((cs.length / sz : Nat) : Int)) = true := decide_eq_true (by exact_mod_cast h)
  rw [h1, h2]; rfl
theorem st_open {R : Type} {A E B : List SV} {t : TypeId} {sz : Nat} {Rs : Heap} {j off : Nat} {ik : IntKind} {v : Int} {k : Heap → Option R} (ho : off = A.length + j) (hj : j < E.length) : stI (.cells (A ++ E ++ B) t sz :: Rs) 1 (.ptr 0 off) (.int ik v) k = k (.cells (A ++ E.set j (.int ik v) ++ B) t sz :: Rs) := by
  subst ho
  simp only [stI, SV.cells?, List.getElem?_cons_zero, List.length_singleton, if_true]
  rw [if_pos ⟨by simp; omega, rfl⟩]
  congr 1
  rw [List.set_cons_zero]
  congr 2
  unfold setCells
  rw [List.append_assoc, List.take_append, List.take_of_length_le (by omega), Nat.add_sub_cancel_left, List.take_append_of_le_length (by omega)]
  rw [List.drop_append, List.drop_of_length_le (by simp; omega), List.nil_append, show A.length + j + [SV.int ik v].length - A.length = j + 1 by simp; omega, List.drop_append_of_le_length (by omega)]
  rw [List.set_eq_take_append_cons_drop, if_pos hj]
  simp
theorem ld_open {R : Type} {A E B : List SV} {t : TypeId} {sz : Nat} {Rs : Heap} {j off : Nat} {s : SV} {k : SV → Option R} (ho : off = A.length + j) (hj : E[j]? = some s) : ldI (.cells (A ++ E ++ B) t sz :: Rs) 1 false (.ptr 0 off) k = k s := by
  subst ho
  have hl := (List.getElem?_eq_some_iff.1 hj).1
  simp only [ldI, getC, List.getElem?_cons_zero]
  rw [List.append_assoc, List.getElem?_append_right (by omega), Nat.add_sub_cancel_left, List.getElem?_append_left hl, hj]
theorem zsu {c : Blk} {RA RE RB : List Blk} {j b : Nat} {z : Blk} (hb : b = RA.length + 1 + j) (hj : j < RE.length) : (c :: (RA ++ RE ++ RB)).set b z = c :: (RA ++ RE.set j z ++ RB) := by
  subst hb
  rw [show RA.length + 1 + j = (RA.length + j) + 1 by omega, List.set_cons_succ, List.append_assoc, List.set_append_right _ _ (by omega), Nat.add_sub_cancel_left, List.set_append_left _ _ hj, ← List.append_assoc]
theorem zsv {c : Blk} {RA RE RB : List Blk} {j b : Nat} {z : Blk} (hb : b = RA.length + 1 + j) (hj : RE[j]? = some z) : (c :: (RA ++ RE ++ RB))[b]? = some z := by
  subst hb
  have hl := (List.getElem?_eq_some_iff.1 hj).1
  rw [show RA.length + 1 + j = (RA.length + j) + 1 by omega, List.getElem?_cons_succ, List.append_assoc, List.getElem?_append_right (by omega), Nat.add_sub_cancel_left, List.getElem?_append_left hl, hj]
theorem tm_call {R : Type} {e : Kd} {fn : List e.T × Int → Option (List e.T × Int)} {r : List TE} {b : Nat} {x : List e.T} {k : Int} {H : Heap} {kk : SV → Heap → Option R} (h : H[b]? = some (childB e x)) :
    callL ((TM.te ⟨.list e, false, fn⟩) :: r) [.own b, .int .i64 k] H kk = (fn (x, k)).bind fun y => kk (.int .i64 y.2) (H.set b (childB e y.1)) := by
  rw [callL]
  have hr : readT false H (.list e) [.own b] = some (x, [b]) := by
    simp only [readT, h]
    unfold childB
    cases hn : e.noList <;> simp [hn]
  have hv : (TM.te ⟨.list e, false, fn⟩).view [.own b, .int .i64 k] H = some (x, k) := by
    simp only [TM.te, cellsOf, hr]; rfl
  rw [hv]
  rfl
end Go.Proofs.Ytmkekjmckdkcnaa.Den
namespace Go.Proofs.Ytmkekjmckdkcnaa.Den
open Go Go.RowKit
inductive MS where
  | fld (fs : List Nat)
  | call (fs : List Nat) (f : FuncId)
def mvG (d : Nat) (x : S) : GI := ⟨some d, none, .mv x⟩
def faG : Nat → List Nat → List GI
  | _, [] => []
  | s, o :: r => ⟨some (s + 1), none, .fa o (.t s)⟩ :: faG (s + 1) r
def upG (d i : Nat) : List GI := [mvG d (.t i), ⟨some (d + 1), none, .bin .add (.t d) (.c (.int .i64 1))⟩, mvG i (.t (d + 1))]
def msR (sz s : Nat) : MS → List (List GI)
  | .fld fs => [mvG s (.t 0) :: mvG (s + 1) (.t 5) :: mvG (s + 2) (.t 1) :: ⟨some (s + 3), none, .ia sz (.t s) (.t (s + 1))⟩ :: (faG (s + 3) fs ++ [⟨none, none, .st 1 (.t (s + 3 + fs.length)) (.t (s + 2))⟩]), upG (s + 4 + fs.length) 1]
  | .call fs f => [mvG s (.t 0) :: mvG (s + 1) (.t 5) :: ⟨some (s + 2), none, .ia sz (.t s) (.t (s + 1))⟩ :: (faG (s + 2) fs ++ [⟨some (s + 3 + fs.length), none, .ld 1 false (.t (s + 2 + fs.length))⟩, mvG (s + 4 + fs.length) (.t 1),
      ⟨some (s + 5 + fs.length), none, .call f [.t (s + 3 + fs.length), .t (s + 4 + fs.length)]⟩, mvG 1 (.t (s + 5 + fs.length))])]
def msN (s : Nat) : MS → Nat
  | .fld fs => s + 6 + fs.length
  | .call fs _ => s + 6 + fs.length
def msAll (sz : Nat) : Nat → List MS → List (List GI)
  | _, [] => []
  | s, m :: r => msR sz s m ++ msAll sz (msN s m) r
def seqR : List (List GI) → C
  | [] => .skip
  | [r] => .reg false r
  | r :: r' :: rs => .seq (.reg false r) (seqR (r' :: rs))
def markBd (sz : Nat) (ms : List MS) : C :=
  .seq (.seq (.reg false [mvG 6 (.t 5), mvG 7 (.t 0), ⟨some 8, none, .len (.t 7)⟩, ⟨some 9, none, .bin .lss (.t 6) (.t 8)⟩]) (.cnd (.t 9) .skip (.exit 0))) (.seq (.blk 1 (seqR (msAll sz 12 ms))) (.reg false (upG 10 5)))
abbrev markNm : Norm := { live := [5, 0, 1], fix := [] }
def markC (sz : Nat) (ms : List MS) (e : Nat) : C :=
  .seq (.reg false [mvG 4 (.c (.int .i64 0))]) (.seq (.seq (.reg false [mvG 5 (.c (.int .i64 0))]) (.blk 0 (.loop markNm (markBd sz ms)))) (.seq (.reg false [mvG e (.t 1), mvG 4 (.t e)]) .ret))
section
variable {R : Type} {T : Tab} {τ : Env} {H : Heap}
def runRs (T : Tab) : List (List GI) → Env → Heap → (Env → Heap → Option R) → Option R
  | [], τ, H, k => k τ H
  | r :: rs, τ, H, k => runR T r τ H fun τ H => runRs T rs τ H k
theorem zf : ∀ {a b : List (List GI)} {τ : Env} {H : Heap} {k : Env → Heap → Option R}, runRs T (a ++ b) τ H k = runRs T a τ H fun τ H => runRs T b τ H k
  | [], b, τ, H, k => rfl
  | r :: a, b, τ, H, k => by
    show runR T r τ H (fun τ H => runRs T (a ++ b) τ H k) = runR T r τ H fun τ H => runRs T a τ H fun τ H => runRs T b τ H k
    congr 1; funext τ H; exact zf
theorem zmz {n0 f2 : Nat} : ∀ {rs : List (List GI)} {τ : Env} {H : Heap} {K : Ex → Env → Heap → Option R}, run T n0 f2 (seqR rs) τ H K = runRs T rs τ H (K .normal)
  | [], τ, H, K => rfl
  | [r], τ, H, K => rfl
  | r :: r' :: rs, τ, H, K => by
    show runR T r τ H (fun τ H => run T n0 f2 (seqR (r' :: rs)) τ H K) = _
    rw [runRs]
    congr 1; funext τ H; exact zmz
end
theorem tm_eq {n : Nat} {v : SV} {τ : Env} : Tm.get ((n, v) :: τ) n = v := by simp [Tm.get]
theorem tm_ne {n m : Nat} {v : SV} {τ : Env} (h : n ≠ m) : Tm.get ((n, v) :: τ) m = Tm.get τ m := by
  have : Nat.beq n m = false := by cases hb : Nat.beq n m with
    | false => rfl
    | true => exact absurd (Nat.eq_of_beq_eq_true hb) h
  simp [Tm.get, this]
structure MEnv (τ : Env) (i k : Int) : Prop where
  a : Tm.get τ 0 = .own 0
  i : Tm.get τ 5 = .int .i64 i
  k : Tm.get τ 1 = .int .i64 k
theorem MEnv.put {τ : Env} {i k : Int} (h : MEnv τ i k) {s : Nat} {v : SV} (hs : 6 ≤ s) : MEnv ((s, v) :: τ) i k :=
  ⟨by rw [tm_ne (by omega)]; exact h.a, by rw [tm_ne (by omega)]; exact h.i, by rw [tm_ne (by omega)]; exact h.k⟩
theorem MEnv.setk {τ : Env} {i k k' : Int} (h : MEnv τ i k) : MEnv ((1, .int .i64 k') :: τ) i k' :=
  ⟨by rw [tm_ne (by omega)]; exact h.a, by rw [tm_ne (by omega)]; exact h.i, tm_eq⟩
theorem mv_run {R : Type} {T : Tab} {d : Nat} {x : S} {r : List GI} {τ : Env} {H : Heap} {k : Env → Heap → Option R} : runR T (mvG d x :: r) τ H k = runR T r ((d, x.ev τ) :: τ) H k := rfl
theorem fa_run {T : Tab} {H : Heap} : ∀ (fs : List Nat) (s off : Nat) (τ : Env) (i k : Int), MEnv τ i k → 6 ≤ s → Tm.get τ s = .ptr 0 off → ∃ τ', MEnv τ' i k ∧ Tm.get τ' (s + fs.length) = .ptr 0 (off + fs.sum) ∧ (∀ m, m < s → Tm.get τ' m = Tm.get τ m) ∧
    ∀ (R : Type) (r : List GI) (kk : Env → Heap → Option R), runR T (faG s fs ++ r) τ H kk = runR T r τ' H kk
  | [], s, off, τ, i, k, hE, hs, h => ⟨τ, hE, by simpa using h, fun _ _ => rfl, fun _ _ _ => rfl⟩
  | o :: fs, s, off, τ, i, k, hE, hs, h => by
    obtain ⟨τ', h1, h2, h3, h4⟩ := fa_run fs (s + 1) (off + o) ((s + 1, .ptr 0 (off + o)) :: τ) i k (hE.put (by omega)) (by omega) tm_eq
    refine ⟨τ', h1, by simpa [Nat.add_assoc, Nat.add_comm, Nat.add_left_comm] using h2, fun m hm => by rw [h3 m (by omega), tm_ne (by omega)], fun R r kk => ?_⟩
    rw [← h4 R r kk]
    show (match S.ev τ (.t s) with
      | .ptr b o' => _
      | .aptr b i j => _
      | .eptr K v j => _
      | _ => none) = _
    simp only [S.ev, h]
    rfl
section
variable {T : Tab} {τ : Env} {A E B : List SV} {Rs : Heap} {sz i : Nat} {k : Int}
theorem ia_run {s a b : Nat} {cs : List SV} (ha : Tm.get τ a = .own 0) (hb : Tm.get τ b = .int .i64 (i : Int)) (hz : sz ≠ 0) (hi : i < cs.length / sz) {R : Type} {r : List GI} {kk : Env → Heap → Option R} :
    runR T (⟨some s, none, .ia sz (.t a) (.t b)⟩ :: r) τ (.cells cs 0 sz :: Rs) kk = runR T r ((s, .ptr 0 (i * sz)) :: τ) (.cells cs 0 sz :: Rs) kk := by
  have e : runR T (⟨some s, none, .ia sz (.t a) (.t b)⟩ :: r) τ (.cells cs 0 sz :: Rs) kk = iaI (.cells cs 0 sz :: Rs) sz (Tm.get τ a) (Tm.get τ b) fun v => runR T r ((s, v) :: τ) (.cells cs 0 sz :: Rs) kk := rfl
  rw [e, ha, hb, ia_open hz hi]
theorem up_run {d j : Nat} {n : Int} (hd : d ≠ j) (hd2 : d + 1 ≠ j) (h : Tm.get τ j = .int .i64 n) {R : Type} {H : Heap} {kk : Env → Heap → Option R} :
    runR T (upG d j) τ H kk = kk ((j, .int .i64 (w64 (n + 1))) :: (d + 1, .int .i64 (w64 (n + 1))) :: (d, .int .i64 n) :: τ) H := by
  have e : runR T (upG d j) τ H kk = binI .add (Tm.get ((d, Tm.get τ j) :: τ) d) (.int .i64 1) fun v => kk ((j, Tm.get ((d + 1, v) :: (d, Tm.get τ j) :: τ) (d + 1)) :: (d + 1, v) :: (d, Tm.get τ j) :: τ) H := rfl
  rw [e, tm_eq, h]
  have e2 : binI .add (.int .i64 n) (.int .i64 1) (fun v => kk ((j, Tm.get ((d + 1, v) :: (d, .int .i64 n) :: τ) (d + 1)) :: (d + 1, v) :: (d, .int .i64 n) :: τ) H) = kk ((j, Tm.get ((d + 1, SV.int .i64 (w64 (n + 1))) :: (d, .int .i64 n) :: τ) (d + 1)) :: (d + 1, SV.int .i64 (w64 (n + 1))) :: (d, .int .i64 n) :: τ) H := rfl
  rw [e2, tm_eq]
theorem ms_fld {s : Nat} {fs : List Nat} (hE : MEnv τ (i : Int) k) (hs : 6 ≤ s) (hA : A.length = i * sz) (hz : sz ≠ 0) (hi : i < (A ++ E ++ B).length / sz) (hj : fs.sum < E.length) :
    ∃ τ', MEnv τ' (i : Int) (w64 (k + 1)) ∧ ∀ (R : Type) (kk : Env → Heap → Option R), runRs T (msR sz s (.fld fs)) τ (.cells (A ++ E ++ B) 0 sz :: Rs) kk = kk τ' (.cells (A ++ E.set fs.sum (.int .i64 k) ++ B) 0 sz :: Rs) := by
  let τ1 : Env := (s + 2, .int .i64 k) :: (s + 1, .int .i64 (i : Int)) :: (s, .own 0) :: τ
  have e1 : MEnv τ1 (i : Int) k := ((hE.put hs).put (by omega)).put (by omega)
  obtain ⟨τ2, h1, h2, h3, h4⟩ := fa_run (T := T) (H := .cells (A ++ E ++ B) 0 sz :: Rs) fs (s + 3) (i * sz) ((s + 3, .ptr 0 (i * sz)) :: τ1) i k (e1.put (by omega)) (by omega) tm_eq
  refine ⟨_, ((h1.put (s := s + 4 + fs.length) (v := .int .i64 k) (by omega)).put (s := s + 4 + fs.length + 1) (v := .int .i64 (w64 (k + 1))) (by omega)).setk, fun R kk => ?_⟩
  have hk2 : Tm.get τ2 (s + 2) = .int .i64 k := by rw [h3 _ (by omega), tm_ne (by omega)]; exact tm_eq
  show runR T (mvG s (.t 0) :: mvG (s + 1) (.t 5) :: mvG (s + 2) (.t 1) :: _) τ _ _ = _
  rw [mv_run, mv_run, mv_run]
  have q0 : S.ev τ (.t 0) = .own 0 := hE.a
  have q5 : S.ev ((s, SV.own 0) :: τ) (.t 5) = .int .i64 (i : Int) := (hE.put hs).i
  have q1 : S.ev ((s + 1, SV.int .i64 (i : Int)) :: (s, SV.own 0) :: τ) (.t 1) = .int .i64 k := ((hE.put hs).put (by omega)).k
  rw [q0, q5, q1]
  show runR T (⟨some (s + 3), none, .ia sz (.t s) (.t (s + 1))⟩ :: (faG (s + 3) fs ++ [⟨none, none, .st 1 (.t (s + 3 + fs.length)) (.t (s + 2))⟩])) τ1 _ _ = _
  rw [ia_run (by show Tm.get τ1 s = _; rw [tm_ne (by omega), tm_ne (by omega)]; exact tm_eq) (by show Tm.get τ1 (s + 1) = _; rw [tm_ne (by omega)]; exact tm_eq) hz hi]
  rw [h4]
  show stI _ 1 (Tm.get τ2 (s + 3 + fs.length)) (Tm.get τ2 (s + 2)) _ = _
  rw [h2, hk2, st_open (by rw [hA]) hj]
  show runR T (upG (s + 4 + fs.length) 1) τ2 _ _ = _
  rw [up_run (by omega) (by omega) h1.k]
  rfl
theorem ms_call {s c f : Nat} {fs : List Nat} {RA RE RB : List Blk} {e : Kd} {x : List e.T} {y : List e.T × Int} {fn : List e.T × Int → Option (List e.T × Int)} {r : List TE} (hE : MEnv τ (i : Int) k) (hs : 6 ≤ s) (hA : A.length = i * sz) (hz : sz ≠ 0)
    (hi : i < (A ++ E ++ B).length / sz) (hc : E[fs.sum]? = some (.own (RA.length + 1 + c))) (hre : RE[c]? = some (childB e x)) (hT : T.te f = (TM.te ⟨.list e, false, fn⟩) :: r) (hfn : fn (x, k) = some y) :
    ∃ τ', MEnv τ' (i : Int) y.2 ∧ ∀ (R : Type) (kk : Env → Heap → Option R), runRs T (msR sz s (.call fs f)) τ (.cells (A ++ E ++ B) 0 sz :: (RA ++ RE ++ RB)) kk = kk τ' (.cells (A ++ E ++ B) 0 sz :: (RA ++ RE.set c (childB e y.1) ++ RB)) := by
  let τ1 : Env := (s + 1, .int .i64 (i : Int)) :: (s, .own 0) :: τ
  have e1 : MEnv τ1 (i : Int) k := (hE.put hs).put (by omega)
  obtain ⟨τ2, h1, h2, h3, h4⟩ := fa_run (T := T) (H := .cells (A ++ E ++ B) 0 sz :: (RA ++ RE ++ RB)) fs (s + 2) (i * sz) ((s + 2, .ptr 0 (i * sz)) :: τ1) i k (e1.put (by omega)) (by omega) tm_eq
  refine ⟨_, (((h1.put (s := s + 3 + fs.length) (v := .own (RA.length + 1 + c)) (by omega)).put (s := s + 4 + fs.length) (v := .int .i64 k) (by omega)).put (s := s + 5 + fs.length) (v := .int .i64 y.2) (by omega)).setk, fun R kk => ?_⟩
  show runR T (mvG s (.t 0) :: mvG (s + 1) (.t 5) :: _) τ _ _ = _
  rw [mv_run, mv_run]
  have q0 : S.ev τ (.t 0) = .own 0 := hE.a
  have q5 : S.ev ((s, SV.own 0) :: τ) (.t 5) = .int .i64 (i : Int) := (hE.put hs).i
  rw [q0, q5]
  show runR T (⟨some (s + 2), none, .ia sz (.t s) (.t (s + 1))⟩ :: (faG (s + 2) fs ++ _)) τ1 _ _ = _
  rw [ia_run (by show Tm.get τ1 s = _; rw [tm_ne (by omega)]; exact tm_eq) (by show Tm.get τ1 (s + 1) = _; exact tm_eq) hz hi]
  rw [h4]
  show ldI _ 1 false (Tm.get τ2 (s + 2 + fs.length)) _ = _
  rw [h2, ld_open (by rw [hA]) hc]
  show runR T (mvG (s + 4 + fs.length) (.t 1) :: _) ((s + 3 + fs.length, SV.own (RA.length + 1 + c)) :: τ2) _ _ = _
  rw [mv_run]
  have q1 : S.ev ((s + 3 + fs.length, SV.own (RA.length + 1 + c)) :: τ2) (.t 1) = .int .i64 k := (h1.put (by omega)).k
  rw [q1]
  show callL (T.te f) [Tm.get _ (s + 3 + fs.length), Tm.get _ (s + 4 + fs.length)] _ _ = _
  rw [tm_ne (by omega), tm_eq, tm_eq, hT, tm_call (zsv (by omega) hre), hfn, Option.bind_some]
  rw [zsu (by omega) (List.getElem?_eq_some_iff.1 hre).1]
  show runR T (mvG 1 (.t (s + 5 + fs.length)) :: []) ((s + 5 + fs.length, SV.int .i64 y.2) :: _) _ _ = _
  rw [mv_run]
  show kk ((1, Tm.get _ _) :: _) _ = _
  rw [tm_eq]
end
theorem zdc {P : Program} {T : Tab} {f : FuncId} {fn : Func} {c : Code} {e : Kd} (ms : List MS) (e0 : Nat) (g : e.T → Int → Option (e.T × Int)) {fnM : List e.T × Int → Option (List e.T × Int)} {frz : List Nat} {ann : List Norm} {cuts : List (Nat × Norm)} {j : Nat} (hT : TabOK P T) (hmix : P.follows .mixedOrders = true)
    (hf : P.funcs[f]? = some fn) (hb : fn.body = some c) (hl : lightC P frz fn.ntmps ann cuts 0 c = some (markC e.sz ms e0, j)) (ho : okC T c (markC e.sz ms e0) = true) (hn : 2 ≤ fn.ntmps) (hrv : lightRes P fn.results.toList = some [(4, none)]) (hz : e.sz ≠ 0) (he0 : 6 ≤ e0)
    (hfn : ∀ z, fnM z = if z.1.length ≤ 1048576 then markO g z.1 z.2 else none)
    (hm : ∀ (A B : List SV) (RA RB : List Blk) (i : Nat) (x x' : e.T) (k k' : Int) (τ : Env), g x k = some (x', k') → MEnv τ (i : Int) k → A.length = i * e.sz → i < (A ++ (expl e x (RA.length + 1)).1 ++ B).length / e.sz → ∃ τ', MEnv τ' (i : Int) k' ∧ ∀ (R : Type) (kk : Env → Heap → Option R),
      runRs T (msAll e.sz 12 ms) τ (.cells (A ++ (expl e x (RA.length + 1)).1 ++ B) 0 e.sz :: (RA ++ (expl e x (RA.length + 1)).2 ++ RB)) kk = kk τ' (.cells (A ++ (expl e x' (RA.length + 1)).1 ++ B) 0 e.sz :: (RA ++ (expl e x' (RA.length + 1)).2 ++ RB))) :
    FnSpecM P f ⟨.list e, false, fnM⟩ := by
  refine zso (rv := [(4, none)]) hT hmix hf hb hl ho hn hrv (fun k y h => ?_) (fun xs k y _ h => ?_)
  · rw [hfn] at h
    have h : some (([] : List e.T), k) = some y := h
    simp only [Option.some.injEq] at h
    subst h
    refine ⟨rfl, 1, ?_⟩
    show evalRes ((4, Tm.get ((e0, SV.int .i64 k) :: [(9, SV.bool false), (8, .int .i64 0), (7, .es e []), (6, .int .i64 0), (5, .int .i64 0), (0, .es e []), (1, .int .i64 k)]) e0) :: _) [] _ = _
    rw [tm_eq]
    rfl
  · rw [hfn] at h
    split at h
    · rename_i hlen
      have hlen : xs.length ≤ 1048576 := hlen
      obtain ⟨zs, k'⟩ := y
      have hzl : zs.length = xs.length := zmv h
      refine ⟨xs.length + 1, ?_⟩
      have hdiv : ∀ {cs : List SV}, cs.length = xs.length * e.sz → cs.length / e.sz = xs.length := fun h => by rw [h]; exact Nat.mul_div_cancel _ (Nat.pos_of_ne_zero hz)
      have hhead : ∀ (R : Type) (i : Nat) (k : Int) (cs : List SV) (Rs : Heap) (kk : Env → Heap → Option R), cs.length = xs.length * e.sz → runR T [mvG 6 (.t 5), mvG 7 (.t 0), ⟨some 8, none, .len (.t 7)⟩, ⟨some 9, none, .bin .lss (.t 6) (.t 8)⟩] [(5, .int .i64 (i : Int)), (0, .own 0), (1, .int .i64 k)] (.cells cs 0 e.sz :: Rs) kk =
          kk [(9, .bool (decide ((i : Int) < ((cs.length / e.sz : Nat) : Int)))), (8, .int .i64 ((cs.length / e.sz : Nat) : Int)), (7, .own 0), (6, .int .i64 (i : Int)), (5, .int .i64 (i : Int)), (0, .own 0), (1, .int .i64 k)] (.cells cs 0 e.sz :: Rs) := by
        intro R i k cs Rs kk hcs
        rw [mv_run, mv_run]
        show (match lenOf (.cells cs 0 e.sz :: Rs) (.own 0) with
          | some n => _
          | none => none) = _
        simp only [lenOf, List.getElem?_cons_zero]
        rw [if_neg hz]
        rfl
      obtain ⟨τ, h3, hloop⟩ := zmy (T := T) (f2 := xs.length + 1) (n0 := (explL e xs 1).2.length + 1) (markBd e.sz ms) xs.length g (blkK 0 (seqK (run T ((explL e xs 1).2.length + 1) (xs.length + 1) (.seq (.reg false [mvG e0 (.t 1), mvG 4 (.t e0)]) .ret)) (endM [(4, none)] true (.list e) ((explL e xs 1).2.length + 1) [.own 0])))
        (fun A B RA RB i x x' k k' K hg hA hi hcl => by
          have hlt : i < (A ++ (expl e x (RA.length + 1)).1 ++ B).length / e.sz := by rw [hdiv hcl]; exact hi
          obtain ⟨τ', h1, h2⟩ := hm A B RA RB i x x' k k' [(9, .bool (decide ((i : Int) < (((A ++ (expl e x (RA.length + 1)).1 ++ B).length / e.sz : Nat) : Int)))), (8, .int .i64 (((A ++ (expl e x (RA.length + 1)).1 ++ B).length / e.sz : Nat) : Int)), (7, .own 0), (6, .int .i64 (i : Int)), (5, .int .i64 (i : Int)), (0, .own 0), (1, .int .i64 k)] hg ⟨rfl, rfl, rfl⟩ hA hlt
          refine ⟨(5, .int .i64 (w64 ((i : Int) + 1))) :: (11, .int .i64 (w64 ((i : Int) + 1))) :: (10, .int .i64 (i : Int)) :: τ', ?_, ?_⟩
          · rw [w64_up (by omega)]
            simp only [List.map_cons, List.map_nil, tm_eq]
            rw [tm_ne (by omega), tm_ne (by omega), tm_ne (by omega), tm_ne (by omega), tm_ne (by omega), tm_ne (by omega), h1.a, h1.k]
          · show runR T _ _ _ _ = _
            rw [hhead _ _ _ _ _ _ hcl]
            show cond (decide ((i : Int) < (((A ++ (expl e x (RA.length + 1)).1 ++ B).length / e.sz : Nat) : Int))) (run T _ _ (seqR (msAll e.sz 12 ms)) _ _ _) _ = _
            rw [decide_eq_true (by exact_mod_cast hlt), cond_true, zmz]
            have h2' := h2 _ (fun τ H => runR T (upG 10 5) τ H (K .normal))
            rw [decide_eq_true (by exact_mod_cast hlt)] at h2'
            refine Eq.trans h2' ?_
            rw [up_run (by omega) (by omega) h1.i])
        (fun cs Rs k K hcs => by
          refine ⟨[(9, .bool (decide ((xs.length : Int) < ((cs.length / e.sz : Nat) : Int)))), (8, .int .i64 ((cs.length / e.sz : Nat) : Int)), (7, .own 0), (6, .int .i64 (xs.length : Int)), (5, .int .i64 (xs.length : Int)), (0, .own 0), (1, .int .i64 k)], rfl, ?_⟩
          show runR T _ _ _ _ = _
          rw [hhead _ _ _ _ _ _ hcs]
          show cond (decide ((xs.length : Int) < ((cs.length / e.sz : Nat) : Int))) _ (K (.exit 0) _ _) = _
          rw [hdiv hcs, decide_eq_false (by omega), cond_false])
        xs [] k k' zs (by simp) rfl h
      show (match gc ((explL e xs 1).2.length + 1) [(5, .int .i64 (0 : Int)), (0, .own 0), (1, .int .i64 k)] (openH e xs) with
        | some (τ, H) => loopN (run T ((explL e xs 1).2.length + 1) (xs.length + 1) (markBd e.sz ms)) ((explL e xs 1).2.length + 1) markNm (xs.length + 1) τ H (blkK 0 (seqK (run T ((explL e xs 1).2.length + 1) (xs.length + 1) (.seq (.reg false [mvG e0 (.t 1), mvG 4 (.t e0)]) .ret)) (endM [(4, none)] true (.list e) ((explL e xs 1).2.length + 1) [.own 0])))
        | none => none) = _
      rw [gc_open rfl]
      refine Eq.trans hloop ?_
      show endM [(4, none)] true (.list e) ((explL e xs 1).2.length + 1) [.own 0] .ret ((4, Tm.get ((e0, Tm.get τ 1) :: τ) e0) :: (e0, Tm.get τ 1) :: τ) (openH e zs) = some (zs, k')
      rw [tm_eq, h3]
      have hnum : (explL e zs 1).2.length = (explL e xs 1).2.length := explL_num hzl
      unfold endM
      show (cond (Nat.beq (openH e zs).length ((explL e xs 1).2.length + 1)) _ none) = _
      rw [show (openH e zs).length = (explL e xs 1).2.length + 1 by simp [openH, hnum], show Nat.beq ((explL e xs 1).2.length + 1) ((explL e xs 1).2.length + 1) = true by simp, cond_true]
      rw [zsq (e := e) (xs := zs) (t := 0) hz rfl (fun j hj => by rw [Nat.add_comm, List.getElem?_cons_succ])]
      simp only [zms, cond_true]
    · cases h
where
  explL_num {e : Kd} : ∀ {xs ys : List e.T} {k l : Nat}, xs.length = ys.length → (explL e xs k).2.length = (explL e ys l).2.length
    | [], [], _, _, _ => rfl
    | [], _ :: _, _, _, h => by simp at h
    | _ :: _, [], _, _, h => by simp at h
    | x :: xs, y :: ys, k, l, h => by
      simp only [explL, List.length_append]
      rw [zdb (x := x) (y := y) (l := l), explL_num (xs := xs) (ys := ys) (l := l + (expl e y l).2.length) (by simpa using h)]
end Go.Proofs.Ytmkekjmckdkcnaa.Den
namespace Go.Proofs.Ytmkekjmckdkcnaa.Den
open Go Go.RowKit
def endN (rv : List (Nat × Option (Nat × Bool))) (e : Kd) (ex : Ex) (τ : Env) (H : Heap) : Option (List e.T × ((Int × Unit) × Unit)) := (endM rv false (.list e) 1 [.own 0] ex τ H).map fun y => (y.1, ((y.2, ()), ()))
theorem zeP {T : Tab} {n0 f2 : Nat} {c : C} {τ : Env} {H : Heap} {rv : List (Nat × Option (Nat × Bool))} {e : Kd} {o : Option (List e.T × ((Int × Unit) × Unit))} {y : List e.T × Int} (h : run T n0 f2 c τ H (endN rv e) = o) (hy : (o.map fun y => (y.1, y.2.1.1)) = some y) :
    run T n0 f2 c τ H (endM rv false (.list e) 1 [.own 0]) = some y := by
  subst h
  rw [run_nat] at hy ⊢
  cases hr : run T n0 f2 c τ H fun e τ H => some ((e, τ, H) : ES) with
  | none => rw [hr] at hy; cases hy
  | some p =>
    rw [hr, Option.bind_some] at hy
    rw [Option.bind_some, ← hy]
    show endM rv false (.list e) 1 [.own 0] p.1 p.2.1 p.2.2 = Option.map _ (Option.map _ (endM rv false (.list e) 1 [.own 0] p.1 p.2.1 p.2.2))
    cases endM rv false (.list e) 1 [.own 0] p.1 p.2.1 p.2.2 <;> rfl
abbrev zN := Option ((List Int) × ((Int × Unit) × Unit))
def zaW (fuel : Nat) : Tab := Tab.of [] []
abbrev zeT : List Pm := [{ cs := [(I6, false)], ag := false }]
def zhG : List Norm := [{ live := [5, 0, 1], fix := [] }]
noncomputable def zaX : C := irOf Try.prog Try.f10 [] zhG []
theorem zmT : lightC Try.prog [] Try.f10.ntmps zhG [] 0 (bodyOf Try.f10) = some (zaX, 1) := by kernel_rfl
def zaY : List (Nat × Option (Nat × Bool)) := [(4, none)]
abbrev z8 := (Int) × (Int) × (List Int)
def zhH (v : z8) : Env × Heap := ([(5, SV.int .i64 v.1), (0, SV.own 0), (1, SV.int .i64 v.2.1)], [Blk.arr I6 v.2.2 0])
def zaZ (fuel : Nat) (g0 : z8 → zN) (v : z8) : zN :=
 cond (decide (v.1 < (zz (List.length v.2.2))))
 (tst (decide (0 ≤ v.1)) <|
 tst (decide (v.1 < (zz (List.length v.2.2)))) <|
 tst (decide (Int.toNat v.1 < List.length v.2.2)) <|
 g0 (w64 (v.1 + (1 : Int)), w64 (v.2.1 + (1 : Int)), List.set v.2.2 (Int.toNat v.1) v.2.1))
 (some ((v.2.2, (v.2.1, ()), ())))
def zeU (fuel : Nat) (g0 : z8 → zN) : z8 → zN := zaZ fuel g0
theorem zmU (fuel : Nat) (G) : zaX.lp (zaW fuel) 1 fuel G (endN zaY I6) 0 zhH = iter (zeU fuel) fuel := C.lp_iter fun g v => by kernel_rfl
def zhI (fuel : Nat) (X0 : z8 → zN) (d0 : List Int) (x0 : Int) : zN :=
 X0 ((0 : Int), x0, d0)
def zeV (fuel : Nat) (z : (List Int) × Unit × ((Int × Unit) × Unit)) : zN := zhI fuel (iter (zeU fuel) fuel) z.1 z.2.2.1.1
theorem zmV (fuel : Nat) (c : List (Kd.T I6)) (d : CsT []) (x : PsT zeT) : run (zaW fuel) 1 fuel zaX ((0, firstV false 0 (svCs [] d)) :: env0 (svPs zeT x) 1) [.arr I6 c 0] (endN zaY I6) = zeV fuel (c, d, x) :=
  (show run (zaW fuel) 1 fuel zaX ((0, firstV false 0 (svCs [] d)) :: env0 (svPs zeT x) 1) [.arr I6 c 0] (endN zaY I6) = zhI fuel (zaX.lp (zaW fuel) 1 fuel (fun _ _ _ => none) (endN zaY I6) 0 zhH) c x.1.1 by kernel_rfl).trans (by rw [zmU]; rfl)
def z9 (fuel : Nat) (z : List (Kd.T I6) × Int) : Option (List (Kd.T I6) × Int) := (zeV fuel (z.1, (), ((z.2, ()), ()))).map fun y => (y.1, y.2.1.1)
def za0 (fuel : Nat) : TM := ⟨.list I6, false, z9 fuel⟩
theorem zmW (fuel : Nat) : FnSpecM Try.prog 10 (za0 fuel) :=
  zda (T := zaW fuel) (c := bodyOf Try.f10) (fn := Try.f10) (TabOK.of (entNil) (methNil)) mixed (by kernel_rfl) (by kernel_rfl) zmT (by kernel_rfl) (Nat.le_of_ble_eq_true (by kernel_rfl)) (rv := zaY) (by kernel_rfl) (fun x k y h => ⟨fuel, zeP (zmV fuel x () ((k, ()), ())) h⟩)
theorem zeW (fuel : Nat) : EntryOK Try.prog 10 (za0 fuel).te := EntryOK.tm (zmW fuel) (isFn (fn := Try.f10) (by kernel_rfl) (by kernel_rfl) (by kernel_rfl))
abbrev zO := Option (LP × ((Int × Unit) × Unit))
def za1 (fuel : Nat) : Tab := Tab.of [] []
abbrev zeX : List Pm := [{ cs := [(I6, false)], ag := false }]
def zhJ : List Norm := [{ live := [5, 0, 1], fix := [] }]
noncomputable def za2 : C := irOf Try.prog Try.f72 [] zhJ []
theorem zmX : lightC Try.prog [] Try.f72.ntmps zhJ [] 0 (bodyOf Try.f72) = some (za2, 1) := by kernel_rfl
def za3 : List (Nat × Option (Nat × Bool)) := [(4, none)]
abbrev zaa := (Int) × (Int) × LP
def zhK (v : zaa) : Env × Heap := ([(5, SV.int .i64 v.1), (0, SV.own 0), (1, SV.int .i64 v.2.1)], [Blk.arr KP v.2.2 0])
def za4 (fuel : Nat) (g0 : zaa → zO) (v : zaa) : zO :=
 cond (decide (v.1 < (zz (List.length v.2.2))))
 (tst (decide (0 ≤ v.1)) <|
 tst (decide (v.1 < (zz (List.length v.2.2)))) <|
 tst (decide (Int.toNat v.1 < List.length v.2.2)) <|
 tst (decide (0 ≤ v.1)) <|
 tst (decide (v.1 < (zz (List.length (List.set v.2.2 (Int.toNat v.1) (v.2.1, (List.getD v.2.2 (Int.toNat v.1) (0, (0, ()))).2.1, ())))))) <|
 tst (decide (Int.toNat v.1 < List.length (List.set v.2.2 (Int.toNat v.1) (v.2.1, (List.getD v.2.2 (Int.toNat v.1) (0, (0, ()))).2.1, ())))) <|
 g0 (w64 (v.1 + (1 : Int)), w64 (w64 (v.2.1 + (1 : Int)) + (1 : Int)), List.set (List.set v.2.2 (Int.toNat v.1) (v.2.1, (List.getD v.2.2 (Int.toNat v.1) (0, (0, ()))).2.1, ())) (Int.toNat v.1) ((List.getD (List.set v.2.2 (Int.toNat v.1) (v.2.1, (List.getD v.2.2 (Int.toNat v.1) (0, (0, ()))).2.1, ())) (Int.toNat v.1) (0, (0, ()))).1, w64 (v.2.1 + (1 : Int)), ())))
 (some ((v.2.2, (v.2.1, ()), ())))
def zeY (fuel : Nat) (g0 : zaa → zO) : zaa → zO := za4 fuel g0
theorem zmY (fuel : Nat) (G) : za2.lp (za1 fuel) 1 fuel G (endN za3 KP) 0 zhK = iter (zeY fuel) fuel := C.lp_iter fun g v => by kernel_rfl
def zhL (fuel : Nat) (X0 : zaa → zO) (d0 : LP) (x0 : Int) : zO :=
 X0 ((0 : Int), x0, d0)
def zeZ (fuel : Nat) (z : LP × Unit × ((Int × Unit) × Unit)) : zO := zhL fuel (iter (zeY fuel) fuel) z.1 z.2.2.1.1
theorem zmZ (fuel : Nat) (c : List (Kd.T KP)) (d : CsT []) (x : PsT zeX) : run (za1 fuel) 1 fuel za2 ((0, firstV false 0 (svCs [] d)) :: env0 (svPs zeX x) 1) [.arr KP c 0] (endN za3 KP) = zeZ fuel (c, d, x) :=
  (show run (za1 fuel) 1 fuel za2 ((0, firstV false 0 (svCs [] d)) :: env0 (svPs zeX x) 1) [.arr KP c 0] (endN za3 KP) = zhL fuel (za2.lp (za1 fuel) 1 fuel (fun _ _ _ => none) (endN za3 KP) 0 zhK) c x.1.1 by kernel_rfl).trans (by rw [zmY]; rfl)
def zdg (fuel : Nat) (z : List (Kd.T KP) × Int) : Option (List (Kd.T KP) × Int) := (zeZ fuel (z.1, (), ((z.2, ()), ()))).map fun y => (y.1, y.2.1.1)
def ze0 (fuel : Nat) : TM := ⟨.list KP, false, zdg fuel⟩
theorem zm0 (fuel : Nat) : FnSpecM Try.prog 72 (ze0 fuel) :=
  zda (T := za1 fuel) (c := bodyOf Try.f72) (fn := Try.f72) (TabOK.of (entNil) (methNil)) mixed (by kernel_rfl) (by kernel_rfl) zmX (by kernel_rfl) (Nat.le_of_ble_eq_true (by kernel_rfl)) (rv := za3) (by kernel_rfl) (fun x k y h => ⟨fuel, zeP (zmZ fuel x () ((k, ()), ())) h⟩)
theorem zm1 (fuel : Nat) : EntryOK Try.prog 72 (ze0 fuel).te := EntryOK.tm (zm0 fuel) (isFn (fn := Try.f72) (by kernel_rfl) (by kernel_rfl) (by kernel_rfl))
abbrev zP := Option (LP × ((Int × Unit) × Unit))
def za5 (fuel : Nat) : Tab := Tab.of [] []
abbrev ze1 : List Pm := [{ cs := [(I6, false)], ag := false }]
def zhM : List Norm := [{ live := [5, 0, 1], fix := [] }]
noncomputable def za6 : C := irOf Try.prog Try.f73 [] zhM []
theorem zm2 : lightC Try.prog [] Try.f73.ntmps zhM [] 0 (bodyOf Try.f73) = some (za6, 1) := by kernel_rfl
def za7 : List (Nat × Option (Nat × Bool)) := [(4, none)]
abbrev zab := (Int) × (Int) × LP
def zhN (v : zab) : Env × Heap := ([(5, SV.int .i64 v.1), (0, SV.own 0), (1, SV.int .i64 v.2.1)], [Blk.arr KP v.2.2 0])
def za8 (fuel : Nat) (g0 : zab → zP) (v : zab) : zP :=
 cond (decide (v.1 < (zz (List.length v.2.2))))
 (tst (decide (0 ≤ v.1)) <|
 tst (decide (v.1 < (zz (List.length v.2.2)))) <|
 tst (decide (Int.toNat v.1 < List.length v.2.2)) <|
 tst (decide (0 ≤ v.1)) <|
 tst (decide (v.1 < (zz (List.length (List.set v.2.2 (Int.toNat v.1) (v.2.1, (List.getD v.2.2 (Int.toNat v.1) (0, (0, ()))).2.1, ())))))) <|
 tst (decide (Int.toNat v.1 < List.length (List.set v.2.2 (Int.toNat v.1) (v.2.1, (List.getD v.2.2 (Int.toNat v.1) (0, (0, ()))).2.1, ())))) <|
 g0 (w64 (v.1 + (1 : Int)), w64 (w64 (v.2.1 + (1 : Int)) + (1 : Int)), List.set (List.set v.2.2 (Int.toNat v.1) (v.2.1, (List.getD v.2.2 (Int.toNat v.1) (0, (0, ()))).2.1, ())) (Int.toNat v.1) ((List.getD (List.set v.2.2 (Int.toNat v.1) (v.2.1, (List.getD v.2.2 (Int.toNat v.1) (0, (0, ()))).2.1, ())) (Int.toNat v.1) (0, (0, ()))).1, w64 (v.2.1 + (1 : Int)), ())))
 (some ((v.2.2, (v.2.1, ()), ())))
def ze2 (fuel : Nat) (g0 : zab → zP) : zab → zP := za8 fuel g0
theorem zm3 (fuel : Nat) (G) : za6.lp (za5 fuel) 1 fuel G (endN za7 KP) 0 zhN = iter (ze2 fuel) fuel := C.lp_iter fun g v => by kernel_rfl
def zhO (fuel : Nat) (X0 : zab → zP) (d0 : LP) (x0 : Int) : zP :=
 X0 ((0 : Int), x0, d0)
def ze3 (fuel : Nat) (z : LP × Unit × ((Int × Unit) × Unit)) : zP := zhO fuel (iter (ze2 fuel) fuel) z.1 z.2.2.1.1
theorem zm4 (fuel : Nat) (c : List (Kd.T KP)) (d : CsT []) (x : PsT ze1) : run (za5 fuel) 1 fuel za6 ((0, firstV false 0 (svCs [] d)) :: env0 (svPs ze1 x) 1) [.arr KP c 0] (endN za7 KP) = ze3 fuel (c, d, x) :=
  (show run (za5 fuel) 1 fuel za6 ((0, firstV false 0 (svCs [] d)) :: env0 (svPs ze1 x) 1) [.arr KP c 0] (endN za7 KP) = zhO fuel (za6.lp (za5 fuel) 1 fuel (fun _ _ _ => none) (endN za7 KP) 0 zhN) c x.1.1 by kernel_rfl).trans (by rw [zm3]; rfl)
def zdh (fuel : Nat) (z : List (Kd.T KP) × Int) : Option (List (Kd.T KP) × Int) := (ze3 fuel (z.1, (), ((z.2, ()), ()))).map fun y => (y.1, y.2.1.1)
def ze4 (fuel : Nat) : TM := ⟨.list KP, false, zdh fuel⟩
theorem zm5 (fuel : Nat) : FnSpecM Try.prog 73 (ze4 fuel) :=
  zda (T := za5 fuel) (c := bodyOf Try.f73) (fn := Try.f73) (TabOK.of (entNil) (methNil)) mixed (by kernel_rfl) (by kernel_rfl) zm2 (by kernel_rfl) (Nat.le_of_ble_eq_true (by kernel_rfl)) (rv := za7) (by kernel_rfl) (fun x k y h => ⟨fuel, zeP (zm4 fuel x () ((k, ()), ())) h⟩)
theorem zm6 (fuel : Nat) : EntryOK Try.prog 73 (ze4 fuel).te := EntryOK.tm (zm5 fuel) (isFn (fn := Try.f73) (by kernel_rfl) (by kernel_rfl) (by kernel_rfl))
abbrev zQ := Option ((List Bool) × ((Int × Unit) × Unit))
def za9 (fuel : Nat) : Tab := Tab.of [] []
abbrev ze5 : List Pm := [{ cs := [(I6, false)], ag := false }]
def zhP : List Norm := [{ live := [5, 0, 1], fix := [] }]
noncomputable def zba : C := irOf Try.prog Try.f30 [] zhP []
theorem zm7 : lightC Try.prog [] Try.f30.ntmps zhP [] 0 (bodyOf Try.f30) = some (zba, 1) := by kernel_rfl
def zbb : List (Nat × Option (Nat × Bool)) := [(4, none)]
abbrev zac := (Int) × (Int) × (List Bool)
def zhQ (v : zac) : Env × Heap := ([(5, SV.int .i64 v.1), (0, SV.own 0), (1, SV.int .i64 v.2.1)], [Blk.arr Kd.bool v.2.2 0])
def zbc (fuel : Nat) (g0 : zac → zQ) (v : zac) : zQ :=
 cond (decide (v.1 < (zz (List.length v.2.2))))
 (tst (decide (0 ≤ v.1)) <|
 tst (decide (v.1 < (zz (List.length v.2.2)))) <|
 tst (decide (Int.toNat v.1 < List.length v.2.2)) <|
 g0 (w64 (v.1 + (1 : Int)), w64 (v.2.1 + (1 : Int)), List.set v.2.2 (Int.toNat v.1) (Int.tmod v.2.1 (3 : Int) == (0 : Int))))
 (some ((v.2.2, (v.2.1, ()), ())))
def ze6 (fuel : Nat) (g0 : zac → zQ) : zac → zQ := zbc fuel g0
theorem zm8 (fuel : Nat) (G) : zba.lp (za9 fuel) 1 fuel G (endN zbb Kd.bool) 0 zhQ = iter (ze6 fuel) fuel := C.lp_iter fun g v => by kernel_rfl
def zhR (fuel : Nat) (X0 : zac → zQ) (d0 : List Bool) (x0 : Int) : zQ :=
 X0 ((0 : Int), x0, d0)
def ze7 (fuel : Nat) (z : (List Bool) × Unit × ((Int × Unit) × Unit)) : zQ := zhR fuel (iter (ze6 fuel) fuel) z.1 z.2.2.1.1
theorem zm9 (fuel : Nat) (c : List (Kd.T Kd.bool)) (d : CsT []) (x : PsT ze5) : run (za9 fuel) 1 fuel zba ((0, firstV false 0 (svCs [] d)) :: env0 (svPs ze5 x) 1) [.arr Kd.bool c 0] (endN zbb Kd.bool) = ze7 fuel (c, d, x) :=
  (show run (za9 fuel) 1 fuel zba ((0, firstV false 0 (svCs [] d)) :: env0 (svPs ze5 x) 1) [.arr Kd.bool c 0] (endN zbb Kd.bool) = zhR fuel (zba.lp (za9 fuel) 1 fuel (fun _ _ _ => none) (endN zbb Kd.bool) 0 zhQ) c x.1.1 by kernel_rfl).trans (by rw [zm8]; rfl)
def zbd (fuel : Nat) (z : List (Kd.T Kd.bool) × Int) : Option (List (Kd.T Kd.bool) × Int) := (ze7 fuel (z.1, (), ((z.2, ()), ()))).map fun y => (y.1, y.2.1.1)
def ze8 (fuel : Nat) : TM := ⟨.list Kd.bool, false, zbd fuel⟩
theorem zna (fuel : Nat) : FnSpecM Try.prog 30 (ze8 fuel) :=
  zda (T := za9 fuel) (c := bodyOf Try.f30) (fn := Try.f30) (TabOK.of (entNil) (methNil)) mixed (by kernel_rfl) (by kernel_rfl) zm7 (by kernel_rfl) (Nat.le_of_ble_eq_true (by kernel_rfl)) (rv := zbb) (by kernel_rfl) (fun x k y h => ⟨fuel, zeP (zm9 fuel x () ((k, ()), ())) h⟩)
theorem znb (fuel : Nat) : EntryOK Try.prog 30 (ze8 fuel).te := EntryOK.tm (zna fuel) (isFn (fn := Try.f30) (by kernel_rfl) (by kernel_rfl) (by kernel_rfl))
def ze9 (fuel : Nat) : Tab := Tab.of [(10, (za0 fuel).te)] []
def zfa : List MS := [.call [] 10]
def zbe (fuel : Nat) (x : Kd.T (Kd.list I6)) (k : Int) : Option (Kd.T (Kd.list I6) × Int) :=
  Option.bind (z9 fuel (x, k)) fun y1 =>
  some (y1.1, y1.2)
def zbf (fuel : Nat) (z : List (Kd.T (Kd.list I6)) × Int) : Option (List (Kd.T (Kd.list I6)) × Int) := if z.1.length ≤ 1048576 then markO (zbe fuel) z.1 z.2 else none
def zdi (fuel : Nat) : TM := ⟨.list (Kd.list I6), false, zbf fuel⟩
theorem znc : lightC Try.prog [] Try.f56.ntmps [markNm] [] 0 (bodyOf Try.f56) = some (markC 1 zfa 18, 1) := by kernel_rfl
theorem znd (fuel : Nat) (A B : List SV) (RA RB : List Blk) (i : Nat) (x x' : Kd.T (Kd.list I6)) (k k' : Int) (τ : Env) (hg : zbe fuel x k = some (x', k')) (hE : MEnv τ (i : Int) k) (hA : A.length = i * 1) (hi : i < (A ++ (expl (Kd.list I6) x (RA.length + 1)).1 ++ B).length / 1) : ∃ τ', MEnv τ' (i : Int) k' ∧ ∀ (R : Type) (kk : Env → Heap → Option R),
      runRs (ze9 fuel) (msAll 1 12 zfa) τ (.cells (A ++ (expl (Kd.list I6) x (RA.length + 1)).1 ++ B) 0 1 :: (RA ++ (expl (Kd.list I6) x (RA.length + 1)).2 ++ RB)) kk = kk τ' (.cells (A ++ (expl (Kd.list I6) x' (RA.length + 1)).1 ++ B) 0 1 :: (RA ++ (expl (Kd.list I6) x' (RA.length + 1)).2 ++ RB)) := by
  unfold zbe at hg
  obtain ⟨y1, c1, hg⟩ := Option.bind_eq_some_iff.1 hg
  simp only [Option.some.injEq, Prod.mk.injEq] at hg
  obtain ⟨rfl, rfl⟩ := hg
  obtain ⟨t0, h0, r0⟩ := ms_call (T := ze9 fuel) (s := 12) (c := 0) (f := 10) (fs := []) (E := (expl (Kd.list I6) x (RA.length + 1)).1) (B := B) (RA := RA) (RE := (expl (Kd.list I6) x (RA.length + 1)).2) (RB := RB) hE (by omega) hA (by decide) (by simpa only [List.length_append, List.length_set] using hi) rfl rfl rfl c1
  exact ⟨t0, h0, fun R kk => (zf.trans (r0 R _))⟩
theorem zne (fuel : Nat) : FnSpecM Try.prog 56 (zdi fuel) :=
  zdc (T := ze9 fuel) (c := bodyOf Try.f56) (fn := Try.f56) (e := (Kd.list I6)) zfa 18 (zbe fuel) (TabOK.of (entCons (zeW fuel) (entNil)) methNil) mixed (by kernel_rfl) (by kernel_rfl) znc (by kernel_rfl) (Nat.le_of_ble_eq_true (by kernel_rfl)) (by kernel_rfl) (by decide) (by decide) (fun z => rfl) (znd fuel)
theorem zhS (fuel : Nat) : EntryOK Try.prog 56 (zdi fuel).te := EntryOK.tm (zne fuel) (isFn (fn := Try.f56) (by kernel_rfl) (by kernel_rfl) (by kernel_rfl))
def zfb (fuel : Nat) : Tab := Tab.of [(56, (zdi fuel).te)] []
def zfc : List MS := [.call [] 56]
def zbg (fuel : Nat) (x : Kd.T (Kd.list (Kd.list I6))) (k : Int) : Option (Kd.T (Kd.list (Kd.list I6)) × Int) :=
  Option.bind (zbf fuel (x, k)) fun y1 =>
  some (y1.1, y1.2)
def zbh (fuel : Nat) (z : List (Kd.T (Kd.list (Kd.list I6))) × Int) : Option (List (Kd.T (Kd.list (Kd.list I6))) × Int) := if z.1.length ≤ 1048576 then markO (zbg fuel) z.1 z.2 else none
def zfd (fuel : Nat) : TM := ⟨.list (Kd.list (Kd.list I6)), false, zbh fuel⟩
theorem znf : lightC Try.prog [] Try.f32.ntmps [markNm] [] 0 (bodyOf Try.f32) = some (markC 1 zfc 18, 1) := by kernel_rfl
theorem zng (fuel : Nat) (A B : List SV) (RA RB : List Blk) (i : Nat) (x x' : Kd.T (Kd.list (Kd.list I6))) (k k' : Int) (τ : Env) (hg : zbg fuel x k = some (x', k')) (hE : MEnv τ (i : Int) k) (hA : A.length = i * 1) (hi : i < (A ++ (expl (Kd.list (Kd.list I6)) x (RA.length + 1)).1 ++ B).length / 1) : ∃ τ', MEnv τ' (i : Int) k' ∧ ∀ (R : Type) (kk : Env → Heap → Option R),
      runRs (zfb fuel) (msAll 1 12 zfc) τ (.cells (A ++ (expl (Kd.list (Kd.list I6)) x (RA.length + 1)).1 ++ B) 0 1 :: (RA ++ (expl (Kd.list (Kd.list I6)) x (RA.length + 1)).2 ++ RB)) kk = kk τ' (.cells (A ++ (expl (Kd.list (Kd.list I6)) x' (RA.length + 1)).1 ++ B) 0 1 :: (RA ++ (expl (Kd.list (Kd.list I6)) x' (RA.length + 1)).2 ++ RB)) := by
  unfold zbg at hg
  obtain ⟨y1, c1, hg⟩ := Option.bind_eq_some_iff.1 hg
  simp only [Option.some.injEq, Prod.mk.injEq] at hg
  obtain ⟨rfl, rfl⟩ := hg
  obtain ⟨t0, h0, r0⟩ := ms_call (T := zfb fuel) (s := 12) (c := 0) (f := 56) (fs := []) (E := (expl (Kd.list (Kd.list I6)) x (RA.length + 1)).1) (B := B) (RA := RA) (RE := (expl (Kd.list (Kd.list I6)) x (RA.length + 1)).2) (RB := RB) hE (by omega) hA (by decide) (by simpa only [List.length_append, List.length_set] using hi) rfl rfl rfl c1
  exact ⟨t0, h0, fun R kk => (zf.trans (r0 R _))⟩
theorem znh (fuel : Nat) : FnSpecM Try.prog 32 (zfd fuel) :=
  zdc (T := zfb fuel) (c := bodyOf Try.f32) (fn := Try.f32) (e := (Kd.list (Kd.list I6))) zfc 18 (zbg fuel) (TabOK.of (entCons (zhS fuel) (entNil)) methNil) mixed (by kernel_rfl) (by kernel_rfl) znf (by kernel_rfl) (Nat.le_of_ble_eq_true (by kernel_rfl)) (by kernel_rfl) (by decide) (by decide) (fun z => rfl) (zng fuel)
theorem zni (fuel : Nat) : EntryOK Try.prog 32 (zfd fuel).te := EntryOK.tm (znh fuel) (isFn (fn := Try.f32) (by kernel_rfl) (by kernel_rfl) (by kernel_rfl))
def zo (fuel : Nat) : Tab := Tab.of [(56, (zdi fuel).te), (10, (za0 fuel).te), (72, (ze0 fuel).te), (73, (ze4 fuel).te)] []
def zfe : List MS := [.fld [0], .fld [1], .fld [2], .call [3, 0, 0] 56, .call [3, 1, 0] 10, .call [3, 2, 0] 72, .fld [3, 2, 1], .fld [3, 2, 2], .call [3, 5, 0] 73, .fld [3, 5, 1]]
def zbi (fuel : Nat) (x : Kd.T KE) (k : Int) : Option (Kd.T KE × Int) :=
  Option.bind (zbf fuel (x.2.2.2.1.1.1, w64 (w64 (w64 (k + 1) + 1) + 1))) fun y1 =>
  Option.bind (z9 fuel (x.2.2.2.1.2.1.1, y1.2)) fun y2 =>
  Option.bind (zdg fuel (x.2.2.2.1.2.2.1.1, y2.2)) fun y3 =>
  Option.bind (zdh fuel (x.2.2.2.1.2.2.2.1.1, w64 (w64 (y3.2 + 1) + 1))) fun y4 =>
  some ((k, w64 (k + 1), w64 (w64 (k + 1) + 1), ((y1.1, ()), (y2.1, ()), (y3.1, y3.2, w64 (y3.2 + 1), ()), (y4.1, y4.2, ()), ()), ()), w64 (y4.2 + 1))
def zbj (fuel : Nat) (z : List (Kd.T KE) × Int) : Option (List (Kd.T KE) × Int) := if z.1.length ≤ 1048576 then markO (zbi fuel) z.1 z.2 else none
def zdj (fuel : Nat) : TM := ⟨.list KE, false, zbj fuel⟩
theorem znj : lightC Try.prog [] Try.f55.ntmps [markNm] [] 0 (bodyOf Try.f55) = some (markC 10 zfe 96, 1) := by kernel_rfl
theorem znk (fuel : Nat) (A B : List SV) (RA RB : List Blk) (i : Nat) (x x' : Kd.T KE) (k k' : Int) (τ : Env) (hg : zbi fuel x k = some (x', k')) (hE : MEnv τ (i : Int) k) (hA : A.length = i * 10) (hi : i < (A ++ (expl KE x (RA.length + 1)).1 ++ B).length / 10) : ∃ τ', MEnv τ' (i : Int) k' ∧ ∀ (R : Type) (kk : Env → Heap → Option R),
      runRs (zo fuel) (msAll 10 12 zfe) τ (.cells (A ++ (expl KE x (RA.length + 1)).1 ++ B) 0 10 :: (RA ++ (expl KE x (RA.length + 1)).2 ++ RB)) kk = kk τ' (.cells (A ++ (expl KE x' (RA.length + 1)).1 ++ B) 0 10 :: (RA ++ (expl KE x' (RA.length + 1)).2 ++ RB)) := by
  unfold zbi at hg
  obtain ⟨y1, c1, hg⟩ := Option.bind_eq_some_iff.1 hg
  obtain ⟨y2, c2, hg⟩ := Option.bind_eq_some_iff.1 hg
  obtain ⟨y3, c3, hg⟩ := Option.bind_eq_some_iff.1 hg
  obtain ⟨y4, c4, hg⟩ := Option.bind_eq_some_iff.1 hg
  simp only [Option.some.injEq, Prod.mk.injEq] at hg
  obtain ⟨rfl, rfl⟩ := hg
  obtain ⟨t0, h0, r0⟩ := ms_fld (T := zo fuel) (s := 12) (fs := [0]) (E := (expl KE x (RA.length + 1)).1) (B := B) (Rs := RA ++ (expl KE x (RA.length + 1)).2 ++ RB) hE (by omega) hA (by decide) (by simpa only [List.length_append, List.length_set] using hi) (show 0 < 10 by decide)
  obtain ⟨t1, h1, r1⟩ := ms_fld (T := zo fuel) (s := 19) (fs := [1]) (E := ((expl KE x (RA.length + 1)).1.set 0 (.int .i64 (k)))) (B := B) (Rs := RA ++ (expl KE x (RA.length + 1)).2 ++ RB) h0 (by omega) hA (by decide) (by simpa only [List.length_append, List.length_set] using hi) (show 1 < 10 by decide)
  obtain ⟨t2, h2, r2⟩ := ms_fld (T := zo fuel) (s := 26) (fs := [2]) (E := (((expl KE x (RA.length + 1)).1.set 0 (.int .i64 (k))).set 1 (.int .i64 (w64 (k + 1))))) (B := B) (Rs := RA ++ (expl KE x (RA.length + 1)).2 ++ RB) h1 (by omega) hA (by decide) (by simpa only [List.length_append, List.length_set] using hi) (show 2 < 10 by decide)
  obtain ⟨t3, h3, r3⟩ := ms_call (T := zo fuel) (s := 33) (c := 0) (f := 56) (fs := [3, 0, 0]) (E := ((((expl KE x (RA.length + 1)).1.set 0 (.int .i64 (k))).set 1 (.int .i64 (w64 (k + 1)))).set 2 (.int .i64 (w64 (w64 (k + 1) + 1))))) (B := B) (RA := RA) (RE := (expl KE x (RA.length + 1)).2) (RB := RB) h2 (by omega) hA (by decide) (by simpa only [List.length_append, List.length_set] using hi) rfl rfl rfl c1
  obtain ⟨t4, h4, r4⟩ := ms_call (T := zo fuel) (s := 42) (c := 1) (f := 10) (fs := [3, 1, 0]) (E := ((((expl KE x (RA.length + 1)).1.set 0 (.int .i64 (k))).set 1 (.int .i64 (w64 (k + 1)))).set 2 (.int .i64 (w64 (w64 (k + 1) + 1))))) (B := B) (RA := RA) (RE := ((expl KE x (RA.length + 1)).2.set 0 (childB _ y1.1))) (RB := RB) h3 (by omega) hA (by decide) (by simpa only [List.length_append, List.length_set] using hi) rfl rfl rfl c2
  obtain ⟨t5, h5, r5⟩ := ms_call (T := zo fuel) (s := 51) (c := 2) (f := 72) (fs := [3, 2, 0]) (E := ((((expl KE x (RA.length + 1)).1.set 0 (.int .i64 (k))).set 1 (.int .i64 (w64 (k + 1)))).set 2 (.int .i64 (w64 (w64 (k + 1) + 1))))) (B := B) (RA := RA) (RE := (((expl KE x (RA.length + 1)).2.set 0 (childB _ y1.1)).set 1 (childB _ y2.1))) (RB := RB) h4 (by omega) hA (by decide) (by simpa only [List.length_append, List.length_set] using hi) rfl rfl rfl c3
  obtain ⟨t6, h6, r6⟩ := ms_fld (T := zo fuel) (s := 60) (fs := [3, 2, 1]) (E := ((((expl KE x (RA.length + 1)).1.set 0 (.int .i64 (k))).set 1 (.int .i64 (w64 (k + 1)))).set 2 (.int .i64 (w64 (w64 (k + 1) + 1))))) (B := B) (Rs := RA ++ ((((expl KE x (RA.length + 1)).2.set 0 (childB _ y1.1)).set 1 (childB _ y2.1)).set 2 (childB _ y3.1)) ++ RB) h5 (by omega) hA (by decide) (by simpa only [List.length_append, List.length_set] using hi) (show 6 < 10 by decide)
  obtain ⟨t7, h7, r7⟩ := ms_fld (T := zo fuel) (s := 69) (fs := [3, 2, 2]) (E := (((((expl KE x (RA.length + 1)).1.set 0 (.int .i64 (k))).set 1 (.int .i64 (w64 (k + 1)))).set 2 (.int .i64 (w64 (w64 (k + 1) + 1)))).set 6 (.int .i64 (y3.2)))) (B := B) (Rs := RA ++ ((((expl KE x (RA.length + 1)).2.set 0 (childB _ y1.1)).set 1 (childB _ y2.1)).set 2 (childB _ y3.1)) ++ RB) h6 (by omega) hA (by decide) (by simpa only [List.length_append, List.length_set] using hi) (show 7 < 10 by decide)
  obtain ⟨t8, h8, r8⟩ := ms_call (T := zo fuel) (s := 78) (c := 3) (f := 73) (fs := [3, 5, 0]) (E := ((((((expl KE x (RA.length + 1)).1.set 0 (.int .i64 (k))).set 1 (.int .i64 (w64 (k + 1)))).set 2 (.int .i64 (w64 (w64 (k + 1) + 1)))).set 6 (.int .i64 (y3.2))).set 7 (.int .i64 (w64 (y3.2 + 1))))) (B := B) (RA := RA) (RE := ((((expl KE x (RA.length + 1)).2.set 0 (childB _ y1.1)).set 1 (childB _ y2.1)).set 2 (childB _ y3.1))) (RB := RB) h7 (by omega) hA (by decide) (by simpa only [List.length_append, List.length_set] using hi) rfl rfl rfl c4
  obtain ⟨t9, h9, r9⟩ := ms_fld (T := zo fuel) (s := 87) (fs := [3, 5, 1]) (E := ((((((expl KE x (RA.length + 1)).1.set 0 (.int .i64 (k))).set 1 (.int .i64 (w64 (k + 1)))).set 2 (.int .i64 (w64 (w64 (k + 1) + 1)))).set 6 (.int .i64 (y3.2))).set 7 (.int .i64 (w64 (y3.2 + 1))))) (B := B) (Rs := RA ++ (((((expl KE x (RA.length + 1)).2.set 0 (childB _ y1.1)).set 1 (childB _ y2.1)).set 2 (childB _ y3.1)).set 3 (childB _ y4.1)) ++ RB) h8 (by omega) hA (by decide) (by simpa only [List.length_append, List.length_set] using hi) (show 9 < 10 by decide)
  exact ⟨t9, h9, fun R kk => ((zf.trans (r0 R _)).trans ((zf.trans (r1 R _)).trans ((zf.trans (r2 R _)).trans ((zf.trans (r3 R _)).trans ((zf.trans (r4 R _)).trans ((zf.trans (r5 R _)).trans ((zf.trans (r6 R _)).trans ((zf.trans (r7 R _)).trans ((zf.trans (r8 R _)).trans (zf.trans (r9 R _)))))))))))⟩
theorem znl (fuel : Nat) : FnSpecM Try.prog 55 (zdj fuel) :=
  zdc (T := zo fuel) (c := bodyOf Try.f55) (fn := Try.f55) (e := KE) zfe 96 (zbi fuel) (TabOK.of (entCons (zhS fuel) (entCons (zeW fuel) (entCons (zm1 fuel) (entCons (zm6 fuel) (entNil))))) methNil) mixed (by kernel_rfl) (by kernel_rfl) znj (by kernel_rfl) (Nat.le_of_ble_eq_true (by kernel_rfl)) (by kernel_rfl) (by decide) (by decide) (fun z => rfl) (znk fuel)
theorem zhT (fuel : Nat) : EntryOK Try.prog 55 (zdj fuel).te := EntryOK.tm (znl fuel) (isFn (fn := Try.f55) (by kernel_rfl) (by kernel_rfl) (by kernel_rfl))
def zR (fuel : Nat) : Tab := Tab.of [(55, (zdj fuel).te)] []
def zff : List MS := [.fld [0], .call [1] 55, .fld [2], .fld [3], .fld [4]]
def zbk (fuel : Nat) (x : Kd.T KN) (k : Int) : Option (Kd.T KN × Int) :=
  Option.bind (zbj fuel (x.2.1, w64 (k + 1))) fun y1 =>
  some ((k, y1.1, y1.2, w64 (y1.2 + 1), w64 (w64 (y1.2 + 1) + 1), ()), w64 (w64 (w64 (y1.2 + 1) + 1) + 1))
def zbl (fuel : Nat) (z : List (Kd.T KN) × Int) : Option (List (Kd.T KN) × Int) := if z.1.length ≤ 1048576 then markO (zbk fuel) z.1 z.2 else none
def zfg (fuel : Nat) : TM := ⟨.list KN, false, zbl fuel⟩
theorem znm : lightC Try.prog [] Try.f29.ntmps [markNm] [] 0 (bodyOf Try.f29) = some (markC 5 zff 47, 1) := by kernel_rfl
theorem znn (fuel : Nat) (A B : List SV) (RA RB : List Blk) (i : Nat) (x x' : Kd.T KN) (k k' : Int) (τ : Env) (hg : zbk fuel x k = some (x', k')) (hE : MEnv τ (i : Int) k) (hA : A.length = i * 5) (hi : i < (A ++ (expl KN x (RA.length + 1)).1 ++ B).length / 5) : ∃ τ', MEnv τ' (i : Int) k' ∧ ∀ (R : Type) (kk : Env → Heap → Option R),
      runRs (zR fuel) (msAll 5 12 zff) τ (.cells (A ++ (expl KN x (RA.length + 1)).1 ++ B) 0 5 :: (RA ++ (expl KN x (RA.length + 1)).2 ++ RB)) kk = kk τ' (.cells (A ++ (expl KN x' (RA.length + 1)).1 ++ B) 0 5 :: (RA ++ (expl KN x' (RA.length + 1)).2 ++ RB)) := by
  unfold zbk at hg
  obtain ⟨y1, c1, hg⟩ := Option.bind_eq_some_iff.1 hg
  simp only [Option.some.injEq, Prod.mk.injEq] at hg
  obtain ⟨rfl, rfl⟩ := hg
  obtain ⟨t0, h0, r0⟩ := ms_fld (T := zR fuel) (s := 12) (fs := [0]) (E := (expl KN x (RA.length + 1)).1) (B := B) (Rs := RA ++ (expl KN x (RA.length + 1)).2 ++ RB) hE (by omega) hA (by decide) (by simpa only [List.length_append, List.length_set] using hi) (show 0 < 5 by decide)
  obtain ⟨t1, h1, r1⟩ := ms_call (T := zR fuel) (s := 19) (c := 0) (f := 55) (fs := [1]) (E := ((expl KN x (RA.length + 1)).1.set 0 (.int .i64 (k)))) (B := B) (RA := RA) (RE := (expl KN x (RA.length + 1)).2) (RB := RB) h0 (by omega) hA (by decide) (by simpa only [List.length_append, List.length_set] using hi) rfl rfl rfl c1
  obtain ⟨t2, h2, r2⟩ := ms_fld (T := zR fuel) (s := 26) (fs := [2]) (E := ((expl KN x (RA.length + 1)).1.set 0 (.int .i64 (k)))) (B := B) (Rs := RA ++ ((expl KN x (RA.length + 1)).2.set 0 (childB _ y1.1)) ++ RB) h1 (by omega) hA (by decide) (by simpa only [List.length_append, List.length_set] using hi) (show 2 < 5 by decide)
  obtain ⟨t3, h3, r3⟩ := ms_fld (T := zR fuel) (s := 33) (fs := [3]) (E := (((expl KN x (RA.length + 1)).1.set 0 (.int .i64 (k))).set 2 (.int .i64 (y1.2)))) (B := B) (Rs := RA ++ ((expl KN x (RA.length + 1)).2.set 0 (childB _ y1.1)) ++ RB) h2 (by omega) hA (by decide) (by simpa only [List.length_append, List.length_set] using hi) (show 3 < 5 by decide)
  obtain ⟨t4, h4, r4⟩ := ms_fld (T := zR fuel) (s := 40) (fs := [4]) (E := ((((expl KN x (RA.length + 1)).1.set 0 (.int .i64 (k))).set 2 (.int .i64 (y1.2))).set 3 (.int .i64 (w64 (y1.2 + 1))))) (B := B) (Rs := RA ++ ((expl KN x (RA.length + 1)).2.set 0 (childB _ y1.1)) ++ RB) h3 (by omega) hA (by decide) (by simpa only [List.length_append, List.length_set] using hi) (show 4 < 5 by decide)
  exact ⟨t4, h4, fun R kk => ((zf.trans (r0 R _)).trans ((zf.trans (r1 R _)).trans ((zf.trans (r2 R _)).trans ((zf.trans (r3 R _)).trans (zf.trans (r4 R _))))))⟩
theorem zno (fuel : Nat) : FnSpecM Try.prog 29 (zfg fuel) :=
  zdc (T := zR fuel) (c := bodyOf Try.f29) (fn := Try.f29) (e := KN) zff 47 (zbk fuel) (TabOK.of (entCons (zhT fuel) (entNil)) methNil) mixed (by kernel_rfl) (by kernel_rfl) znm (by kernel_rfl) (Nat.le_of_ble_eq_true (by kernel_rfl)) (by kernel_rfl) (by decide) (by decide) (fun z => rfl) (znn fuel)
theorem znp (fuel : Nat) : EntryOK Try.prog 29 (zfg fuel).te := EntryOK.tm (zno fuel) (isFn (fn := Try.f29) (by kernel_rfl) (by kernel_rfl) (by kernel_rfl))
def zF (fuel : Nat) : Tab := Tab.of [(55, (zdj fuel).te)] []
def zfh : List MS := [.fld [0], .fld [1], .fld [2], .fld [3], .fld [4], .call [5] 55]
def zbm (fuel : Nat) (x : Kd.T KW) (k : Int) : Option (Kd.T KW × Int) :=
  Option.bind (zbj fuel (x.2.2.2.2.2.1, w64 (w64 (w64 (w64 (w64 (k + 1) + 1) + 1) + 1) + 1))) fun y1 =>
  some ((k, w64 (k + 1), w64 (w64 (k + 1) + 1), w64 (w64 (w64 (k + 1) + 1) + 1), w64 (w64 (w64 (w64 (k + 1) + 1) + 1) + 1), y1.1, ()), y1.2)
def zbn (fuel : Nat) (z : List (Kd.T KW) × Int) : Option (List (Kd.T KW) × Int) := if z.1.length ≤ 1048576 then markO (zbm fuel) z.1 z.2 else none
def zfi (fuel : Nat) : TM := ⟨.list KW, false, zbn fuel⟩
theorem znq : lightC Try.prog [] Try.f31.ntmps [markNm] [] 0 (bodyOf Try.f31) = some (markC 6 zfh 54, 1) := by kernel_rfl
theorem znr (fuel : Nat) (A B : List SV) (RA RB : List Blk) (i : Nat) (x x' : Kd.T KW) (k k' : Int) (τ : Env) (hg : zbm fuel x k = some (x', k')) (hE : MEnv τ (i : Int) k) (hA : A.length = i * 6) (hi : i < (A ++ (expl KW x (RA.length + 1)).1 ++ B).length / 6) : ∃ τ', MEnv τ' (i : Int) k' ∧ ∀ (R : Type) (kk : Env → Heap → Option R),
      runRs (zF fuel) (msAll 6 12 zfh) τ (.cells (A ++ (expl KW x (RA.length + 1)).1 ++ B) 0 6 :: (RA ++ (expl KW x (RA.length + 1)).2 ++ RB)) kk = kk τ' (.cells (A ++ (expl KW x' (RA.length + 1)).1 ++ B) 0 6 :: (RA ++ (expl KW x' (RA.length + 1)).2 ++ RB)) := by
  unfold zbm at hg
  obtain ⟨y1, c1, hg⟩ := Option.bind_eq_some_iff.1 hg
  simp only [Option.some.injEq, Prod.mk.injEq] at hg
  obtain ⟨rfl, rfl⟩ := hg
  obtain ⟨t0, h0, r0⟩ := ms_fld (T := zF fuel) (s := 12) (fs := [0]) (E := (expl KW x (RA.length + 1)).1) (B := B) (Rs := RA ++ (expl KW x (RA.length + 1)).2 ++ RB) hE (by omega) hA (by decide) (by simpa only [List.length_append, List.length_set] using hi) (show 0 < 6 by decide)
  obtain ⟨t1, h1, r1⟩ := ms_fld (T := zF fuel) (s := 19) (fs := [1]) (E := ((expl KW x (RA.length + 1)).1.set 0 (.int .i64 (k)))) (B := B) (Rs := RA ++ (expl KW x (RA.length + 1)).2 ++ RB) h0 (by omega) hA (by decide) (by simpa only [List.length_append, List.length_set] using hi) (show 1 < 6 by decide)
  obtain ⟨t2, h2, r2⟩ := ms_fld (T := zF fuel) (s := 26) (fs := [2]) (E := (((expl KW x (RA.length + 1)).1.set 0 (.int .i64 (k))).set 1 (.int .i64 (w64 (k + 1))))) (B := B) (Rs := RA ++ (expl KW x (RA.length + 1)).2 ++ RB) h1 (by omega) hA (by decide) (by simpa only [List.length_append, List.length_set] using hi) (show 2 < 6 by decide)
  obtain ⟨t3, h3, r3⟩ := ms_fld (T := zF fuel) (s := 33) (fs := [3]) (E := ((((expl KW x (RA.length + 1)).1.set 0 (.int .i64 (k))).set 1 (.int .i64 (w64 (k + 1)))).set 2 (.int .i64 (w64 (w64 (k + 1) + 1))))) (B := B) (Rs := RA ++ (expl KW x (RA.length + 1)).2 ++ RB) h2 (by omega) hA (by decide) (by simpa only [List.length_append, List.length_set] using hi) (show 3 < 6 by decide)
  obtain ⟨t4, h4, r4⟩ := ms_fld (T := zF fuel) (s := 40) (fs := [4]) (E := (((((expl KW x (RA.length + 1)).1.set 0 (.int .i64 (k))).set 1 (.int .i64 (w64 (k + 1)))).set 2 (.int .i64 (w64 (w64 (k + 1) + 1)))).set 3 (.int .i64 (w64 (w64 (w64 (k + 1) + 1) + 1))))) (B := B) (Rs := RA ++ (expl KW x (RA.length + 1)).2 ++ RB) h3 (by omega) hA (by decide) (by simpa only [List.length_append, List.length_set] using hi) (show 4 < 6 by decide)
  obtain ⟨t5, h5, r5⟩ := ms_call (T := zF fuel) (s := 47) (c := 0) (f := 55) (fs := [5]) (E := ((((((expl KW x (RA.length + 1)).1.set 0 (.int .i64 (k))).set 1 (.int .i64 (w64 (k + 1)))).set 2 (.int .i64 (w64 (w64 (k + 1) + 1)))).set 3 (.int .i64 (w64 (w64 (w64 (k + 1) + 1) + 1)))).set 4 (.int .i64 (w64 (w64 (w64 (w64 (k + 1) + 1) + 1) + 1))))) (B := B) (RA := RA) (RE := (expl KW x (RA.length + 1)).2) (RB := RB) h4 (by omega) hA (by decide) (by simpa only [List.length_append, List.length_set] using hi) rfl rfl rfl c1
  exact ⟨t5, h5, fun R kk => ((zf.trans (r0 R _)).trans ((zf.trans (r1 R _)).trans ((zf.trans (r2 R _)).trans ((zf.trans (r3 R _)).trans ((zf.trans (r4 R _)).trans (zf.trans (r5 R _)))))))⟩
theorem zns (fuel : Nat) : FnSpecM Try.prog 31 (zfi fuel) :=
  zdc (T := zF fuel) (c := bodyOf Try.f31) (fn := Try.f31) (e := KW) zfh 54 (zbm fuel) (TabOK.of (entCons (zhT fuel) (entNil)) methNil) mixed (by kernel_rfl) (by kernel_rfl) znq (by kernel_rfl) (Nat.le_of_ble_eq_true (by kernel_rfl)) (by kernel_rfl) (by decide) (by decide) (fun z => rfl) (znr fuel)
theorem znt (fuel : Nat) : EntryOK Try.prog 31 (zfi fuel).te := EntryOK.tm (zns fuel) (isFn (fn := Try.f31) (by kernel_rfl) (by kernel_rfl) (by kernel_rfl))
abbrev KNET : Kd := .pair (.list KN) (.pair (.list .bool) (.pair (.list KW) (.pair (.list (.list (.list I6))) .unit)))
def zhU (fuel : Nat) : Tab := Tab.of [(29, (zfg fuel).te), (30, (ze8 fuel).te), (31, (zfi fuel).te), (32, (zfd fuel).te)] []
noncomputable def zhV : C := irOf Try.prog Try.f11 [] [] [(4, ⟨[1], []⟩)]
theorem znu : lightC Try.prog [] Try.f11.ntmps [] [(4, ⟨[1], []⟩)] 0 (bodyOf Try.f11) = some (zhV, 0) := by kernel_rfl
def zad (fuel : Nat) (z : Kd.T KNET × Int) : Option (Kd.T KNET × Int) :=
  Option.bind (zbl fuel (z.1.1, z.2)) fun y1 =>
  Option.bind (zbd fuel (z.1.2.1, y1.2)) fun y2 =>
  Option.bind (zbn fuel (z.1.2.2.1, y2.2)) fun y3 =>
  Option.bind (zbh fuel (z.1.2.2.2.1, y3.2)) fun y4 =>
  some ((y1.1, y2.1, y3.1, y4.1, ()), y4.2)
def zfj (fuel : Nat) : TM := ⟨KNET, true, zad fuel⟩
theorem znv (fuel : Nat) (x : Kd.T KNET) (k : Int) : run (zhU fuel) 4 fuel zhV (env0 [valOf true (expl KNET x 0).1, .int .i64 k] 0) (expl KNET x 0).2 (endM [(4, none)] false KNET 4 (expl KNET x 0).1) = zad fuel (x, k) := by kernel_rfl
theorem znw (fuel : Nat) : FnSpecM Try.prog 11 (zfj fuel) :=
  zda (T := zhU fuel) (c := bodyOf Try.f11) (fn := Try.f11) (TabOK.of (entCons (znp fuel) (entCons (znb fuel) (entCons (znt fuel) (entCons (zni fuel) entNil)))) (methNil)) mixed (by kernel_rfl) (by kernel_rfl) znu (by kernel_rfl) (Nat.le_of_ble_eq_true (by kernel_rfl)) (rv := [(4, none)]) (by kernel_rfl) (fun x k y h => ⟨fuel, (znv fuel x k).trans h⟩)
theorem znx (fuel : Nat) : EntryOK Try.prog 11 (zfj fuel).te := EntryOK.tm (znw fuel) (isFn (fn := Try.f11) (by kernel_rfl) (by kernel_rfl) (by kernel_rfl))
end Go.Proofs.Ytmkekjmckdkcnaa.Den
namespace Go.Proofs.Ytmkekjmckdkcnaa.Den
open Go Go.RowKit
structure TV where
  r1 : Rf
  r2 : Rf
  fn : r1.T × r2.T → Option ((r1.T × r2.T) × Int)
def TV.te (tv : TV) : TE where
  X := tv.r1.T × tv.r2.T
  Y := (tv.r1.T × tv.r2.T) × Int
  mono := false
  view args H := match args with
    | [.ptr β 0, .ptr γ 0] => cond (Nat.beq β γ) none (match Rf.view [] tv.r1 H[β]?, Rf.view [] tv.r2 H[γ]? with
      | some c, some d => some (c, d)
      | _, _ => none)
    | _ => none
  fn := tv.fn
  put _ y args H := match args with
    | [.ptr β 0, .ptr γ 0] => some (.int .i64 y.2, (H.set β (tv.r1.blk y.1.1)).set γ (tv.r2.blk y.1.2))
    | _ => none
section
variable {P : Program}
end
end Go.Proofs.Ytmkekjmckdkcnaa.Den
