/- Part 6 of the texts behind the row. -/
import Derived.Test.YtmkekjmckdkcnaaAER5
import Derived.Test.YtmkekjmckdkcnaaChecked
import Derived.KernelRfl
set_option linter.unusedVariables false
set_option linter.unusedSimpArgs false
namespace Go.Proofs.Ytmkekjmckdkcnaa.Den
open Go Go.RowKit
noncomputable def bodyOf (f : Func) : Code := match f.body with | some c => c | none => .skip
noncomputable def irOf (P : Program) (f : Func) (frz : List Nat) (ann : List Norm) (cuts : List (Nat × Norm)) : C := match lightC P frz f.ntmps ann cuts 0 (bodyOf f) with | some (c, _) => c | none => .skip
theorem mixed : Try.prog.follows .mixedOrders = true := Checked.mixed Try.checked
theorem entNil {P : Program} : ∀ p ∈ ([] : List (Nat × TE)), EntryOK P p.1 p.2 := fun _ h => nomatch h
theorem entCons {P : Program} {f : Nat} {te : TE} {l : List (Nat × TE)} (h : EntryOK P f te) (t : ∀ p ∈ l, EntryOK P p.1 p.2) : ∀ p ∈ (f, te) :: l, EntryOK P p.1 p.2 := List.forall_mem_cons.2 ⟨h, t⟩
theorem methNil {P : Program} : ∀ p ∈ ([] : List (Nat × String × Nat)), MethOK P p.1 p.2.1 p.2.2 := fun _ h => nomatch h
theorem isFn {P : Program} {f : Nat} {fn : Func} (h : P.funcs[f]? = some fn) (hn : decide (fn.name = "runtime.NumGoroutine") = false) (hb : fn.body.isSome = true) : ∃ fn, P.funcs[f]? = some fn ∧ fn.name ≠ "runtime.NumGoroutine" ∧ fn.body.isSome = true := ⟨fn, h, of_decide_eq_false hn, hb⟩
abbrev I6 : Kd := .int .i64
abbrev KP : Kd := .pair I6 (.pair I6 .unit)
abbrev LP := List (Int × (Int × Unit))
abbrev SumY := (List (List Int)) × ((List Int) × (LP × (Int × (Int × (LP × (Int × Unit))))))
def w64 (n : Int) : Int := IntKind.wrap .i64 n
def zz (n : Nat) : Int := (n : Int)
theorem zz_eq (n : Nat) : zz n = (n : Int) := rfl
end Go.Proofs.Ytmkekjmckdkcnaa.Den
namespace Go.Proofs.Ytmkekjmckdkcnaa.Den
open Go Go.RowKit
theorem zgm (a m n : Nat) : List.range' a m ++ List.range' (a + m) n = List.range' a (m + n) := by have h := List.range'_append (s := a) (m := m) (n := n) (step := 1); rwa [Nat.one_mul] at h
theorem zjq : ∀ {K : Kd} {x : K.T} {k : Nat}, SV.refsL (expl K x k).1 = List.range' k (expl K x k).2.length
  | .int _, _, _ => rfl
  | .bool, _, _ => rfl
  | .unit, _, _ => rfl
  | .pair a b, x, k => by
    simp only [expl]
    rw [zV, zjq, zjq, List.length_append, zgm]
  | .list e, xs, k => rfl
theorem zjr {e : Kd} : ∀ {xs : List e.T} {k : Nat}, SV.refsL (explL e xs k).1 = List.range' k (explL e xs k).2.length
  | [], _ => rfl
  | x :: xs, k => by
    simp only [explL]
    rw [zV, zjq, zjr, List.length_append, zgm]
theorem zd9 {f : Nat → Option Nat} : ∀ {a b : List SV}, SV.renL f (a ++ b) = SV.renL f a ++ SV.renL f b
  | [], b => rfl
  | c :: a, b => by simp [SV.renL, zd9]
theorem zjs {f : Nat → Option Nat} : ∀ {K : Kd} {x : K.T} {k : Nat}, (∀ i, i < k + (expl K x k).2.length → f i = some i) → SV.renL f (expl K x k).1 = (expl K x k).1
  | .int _, _, _, _ => by simp [expl, SV.renL, SV.ren]
  | .bool, _, _, _ => by simp [expl, SV.renL, SV.ren]
  | .unit, _, _, _ => by simp [expl, SV.renL]
  | .pair a b, x, k, h => by
    simp only [expl, List.length_append] at h ⊢
    rw [zd9, zjs (fun i hi => h i (by omega)), zjs (fun i hi => h i (by omega))]
  | .list e, xs, k, h => by
    simp only [expl, List.length_singleton] at h ⊢
    simp [SV.renL, SV.ren, h k (by omega)]
theorem zjt {f : Nat → Option Nat} {e : Kd} : ∀ {xs : List e.T} {k : Nat}, (∀ i, i < k + (explL e xs k).2.length → f i = some i) → SV.renL f (explL e xs k).1 = (explL e xs k).1
  | [], _, _ => rfl
  | x :: xs, k, h => by
    simp only [explL, List.length_append] at h ⊢
    rw [zd9, zjs (fun i hi => h i (by omega)), zjt (fun i hi => h i (by omega))]
def Leaf (x : Blk) : Prop := x.refs = [] ∧ ∀ f, x.ren f = x
theorem zvI {e : Kd} {xs : List e.T} : Leaf (childB e xs) := by
  unfold childB
  cases e.noList
  · exact ⟨rfl, fun _ => rfl⟩
  · exact ⟨rfl, fun _ => rfl⟩
theorem zju : ∀ {K : Kd} {x : K.T} {k : Nat}, ∀ z ∈ (expl K x k).2, Leaf z
  | .int _, _, _, z, h => by cases h
  | .bool, _, _, z, h => by cases h
  | .unit, _, _, z, h => by cases h
  | .pair a b, x, k, z, h => by
    simp only [expl] at h
    rcases List.mem_append.1 h with h | h
    · exact zju z h
    · exact zju z h
  | .list e, xs, k, z, h => by
    simp only [expl, List.mem_singleton] at h
    subst h; exact zvI
theorem zjv {e : Kd} : ∀ {xs : List e.T} {k : Nat}, ∀ z ∈ (explL e xs k).2, Leaf z
  | [], _, z, h => by cases h
  | x :: xs, k, z, h => by
    simp only [explL] at h
    rcases List.mem_append.1 h with h | h
    · exact zju z h
    · exact zjv z h
theorem zea : ∀ {K : Kd} {x y : K.T} {k l : Nat}, (expl K x k).2.length = (expl K y l).2.length
  | .int _, _, _, _, _ => rfl
  | .bool, _, _, _, _ => rfl
  | .unit, _, _, _, _ => rfl
  | .pair a b, x, y, k, l => by
    simp only [expl, List.length_append]
    rw [zea (y := y.1) (l := l), zea (K := b) (y := y.2) (l := l + (expl a y.1 l).2.length)]
  | .list e, _, _, _, _ => rfl
theorem zaD {e : Kd} : ∀ {xs ys : List e.T} {k : Nat}, explL e (xs ++ ys) k = ((explL e xs k).1 ++ (explL e ys (k + (explL e xs k).2.length)).1, (explL e xs k).2 ++ (explL e ys (k + (explL e xs k).2.length)).2)
  | [], ys, k => by simp [explL]
  | x :: xs, ys, k => by
    rw [List.cons_append]
    simp only [explL]
    rw [zaD (xs := xs)]
    simp only [List.append_assoc, List.length_append, Nat.add_assoc]
theorem zoN {e : Kd} {x : e.T} {k : Nat} : explL e [x] k = expl e x k := by simp [explL]
theorem zag : ∀ {n a : Nat}, nodupB (List.range' a n) = true
  | 0, _ => rfl
  | n + 1, a => by
    rw [List.range'_succ, nodupB, zag, Bool.and_true, Bool.not_eq_true', List.contains_eq_mem]
    simp only [decide_eq_false_iff_not, List.mem_range'_1]
    omega
theorem zjw {dp : Bool} {H : Heap} : ∀ {K : Kd} {x : K.T} {k : Nat}, (∀ j, j < (expl K x k).2.length → H[k + j]? = (expl K x k).2[j]?) → readT dp H K (expl K x k).1 = some (x, List.range' k (expl K x k).2.length)
  | .int _, x, k, _ => by simp [expl, readT]
  | .bool, x, k, _ => by simp [expl, readT]
  | .unit, x, k, _ => by simp [expl, readT]
  | .pair a b, x, k, h => by
    simp only [expl, readT]
    rw [show a.sz = (expl a x.1 k).1.length from zaB.symm, List.take_left, List.drop_left]
    simp only [expl, List.length_append] at h
    rw [zjw (K := a) fun j hj => by rw [h j (by omega), List.getElem?_append_left hj], zjw (K := b) fun j hj => by
      have := h ((expl a x.1 k).2.length + j) (by omega)
      rw [← Nat.add_assoc] at this
      rw [this, List.getElem?_append_right (by omega), Nat.add_sub_cancel_left]]
    simp only [List.length_append, zgm]
  | .list e, xs, k, h => by
    have h0 := h 0 (by simp [expl])
    simp only [expl, Nat.add_zero, List.getElem?_cons_zero] at h0
    simp only [expl, readT, h0]
    unfold childB
    cases hn : e.noList <;> simp [hn, List.range']
theorem zoO {dp : Bool} {H : Heap} {e : Kd} : ∀ {xs : List e.T} {k : Nat}, (∀ j, j < (explL e xs k).2.length → H[k + j]? = (explL e xs k).2[j]?) → readRows (readT dp H e) e.sz xs.length (explL e xs k).1 = some (xs, List.range' k (explL e xs k).2.length)
  | [], k, _ => rfl
  | x :: xs, k, h => by
    simp only [explL, List.length_append] at h
    simp only [explL, List.length_cons, readRows]
    rw [show e.sz = (expl e x k).1.length from zaB.symm, List.take_left, List.drop_left]
    rw [zjw (K := e) fun j hj => by rw [h j (by omega), List.getElem?_append_left hj]]
    rw [show (expl e x k).1.length = e.sz from zaB]
    rw [zoO fun j hj => by
      have := h ((expl e x k).2.length + j) (by omega)
      rw [← Nat.add_assoc] at this
      rw [this, List.getElem?_append_right (by omega), Nat.add_sub_cancel_left]]
    simp only [List.length_append, zgm]
theorem zbC {H : Heap} {e : Kd} {xs : List e.T} {t : TypeId} (hz : e.sz ≠ 0) (h0 : H[0]? = some (.cells (explL e xs 1).1 t e.sz)) (h : ∀ j, j < (explL e xs 1).2.length → H[1 + j]? = (explL e xs 1).2[j]?) :
    readT true H (.list e) [.own 0] = some (xs, List.range' 0 ((explL e xs 1).2.length + 1)) := by
  simp only [readT, h0, hz, ne_eq, not_false_eq_true, and_self, if_true]
  rw [zaf, Nat.mul_div_cancel _ (Nat.pos_of_ne_zero hz), zoO h]
  rfl
theorem zoP : ∀ {n a β k : Nat}, a ≤ β → β < a + n → idxIn β (List.range' a n) k = some (k + (β - a))
  | 0, a, β, k, h1, h2 => by omega
  | n + 1, a, β, k, h1, h2 => by
    rw [List.range'_succ, idxIn]
    by_cases e : a = β
    · subst e
      simp
    · rw [show Nat.beq a β = false by cases hb : Nat.beq a β with
        | false => rfl
        | true => exact absurd (Nat.eq_of_beq_eq_true hb) e, cond_false, zoP (by omega) (by omega)]
      congr 1; omega
theorem blt0 (n : Nat) : Nat.blt n 0 = false := rfl
theorem zvJ {n β : Nat} (h : β < n) : renF 0 (List.range' 0 n) β = some β := by
  unfold renF
  rw [blt0, cond_false, zoP (Nat.zero_le _) (by omega)]
  simp
theorem zoQ (H : Heap) : ∀ (m a : Nat) (fuel : Nat), 0 < a → (∀ i, i < m → ∃ y, H[a + i]? = some y ∧ Leaf y) → gcOrder 0 H (fuel + m) (List.range' a m) (List.range' 0 a) = List.range' 0 (a + m)
  | 0, a, fuel, _, _ => by
    cases fuel with
    | zero => rfl
    | succ f => rfl
  | m + 1, a, fuel, h0, h => by
    obtain ⟨y, hy, hl⟩ := h 0 (by omega)
    rw [Nat.add_zero] at hy
    rw [show fuel + (m + 1) = (fuel + m) + 1 by omega, List.range'_succ, gcOrder]
    have h1 : (Nat.blt a 0 || (List.range' 0 a).contains a) = false := by
      rw [blt0, Bool.false_or, List.contains_eq_mem]
      simp
    rw [h1, cond_false, hy]
    simp only [hl.1, List.append_nil]
    have h2 : List.range' 0 a ++ [a] = List.range' 0 (a + 1) := by
      rw [List.range'_concat]; simp
    rw [h2, zoQ H m (a + 1) fuel (by omega) (fun i hi => by
      obtain ⟨y, h3, h4⟩ := h (i + 1) (by omega)
      exact ⟨y, by rw [← h3]; congr 1; omega, h4⟩)]
    congr 1; omega
theorem zvK {m : Nat} (h : m + 1 ≤ 4294967296) : ∃ f, LIM = (f + m) + 1 := ⟨4294967296 - m - 1, by show 4294967296 = _; omega⟩
theorem gc_of {n0 : Nat} {τ : Env} {H : Heap} {σ : List Nat} (h : gcOrder n0 H LIM (τ.flatMap (fun p => p.2.refs) ++ (H.take n0).flatMap Blk.refs) [] = σ)
    (hc : (nodupB σ && (σ.all (fun β => Nat.ble n0 β && Nat.blt β H.length) && Nat.ble n0 H.length)) = true) :
    gc n0 τ H = some (τ.map (fun p => (p.1, p.2.ren (renF n0 σ))), (H.take n0).map (Blk.ren (renF n0 σ)) ++ σ.map (fun β => match H[β]? with | some x => x.ren (renF n0 σ) | none => .dead)) := by
  unfold gc
  simp only [h]
  rw [hc]; rfl
def NoRef (zs : List SV) : Prop := SV.refsL zs = [] ∧ ∀ f, SV.renL f zs = zs
theorem NoRef.rep {zs : List SV} (h : NoRef zs) : ∀ m, NoRef (List.replicate m zs).flatten
  | 0 => ⟨rfl, fun _ => rfl⟩
  | m + 1 => by
    rw [List.replicate_succ, List.flatten_cons]
    exact ⟨by rw [zV, h.1, (NoRef.rep h m).1]; rfl, fun f => by rw [zd9, h.2, (NoRef.rep h m).2]⟩
abbrev fillH (e : Kd) (zs : List SV) (ys : List e.T) (m : Nat) (t : TypeId) : Heap := .cells ((explL e ys 1).1 ++ (List.replicate m zs).flatten) t e.sz :: (explL e ys 1).2
theorem gc_fill {e : Kd} {X : Kd} {zs : List SV} (hz : NoRef zs) {xs : List X.T} {ys : List e.T} {m : Nat} {t : TypeId} {n : Int} (hl : (explL e ys 1).2.length + 1 ≤ 4294967295) :
    gc 0 [(4, .int .i64 n), (0, .es X xs), (3, .own 0)] (fillH e zs ys m t) = some ([(4, .int .i64 n), (0, .es X xs), (3, .own 0)], fillH e zs ys m 0) := by
  have hzr := hz.rep m
  have hleaf := zjv (e := e) (xs := ys) (k := 1)
  generalize hL : (explL e ys 1).2.length = L at hl
  have hat : ∀ i, i < L → ∃ y, (fillH e zs ys m t)[1 + i]? = some y ∧ Leaf y := fun i hi => by
    refine ⟨(explL e ys 1).2[i]'(by omega), ?_, hleaf _ (List.getElem_mem _)⟩
    rw [Nat.add_comm, List.getElem?_cons_succ, List.getElem?_eq_getElem]
  have hlen : (fillH e zs ys m t).length = L + 1 := by simp [hL]
  have hord : gcOrder 0 (fillH e zs ys m t) LIM [0] [] = List.range' 0 (L + 1) := by
    obtain ⟨f, hf⟩ := zvK (m := L) (by omega)
    rw [hf, gcOrder]
    have h1 : (Nat.blt 0 0 || ([] : List Nat).contains 0) = false := rfl
    rw [h1, cond_false]
    show gcOrder 0 (fillH e zs ys m t) (f + L) ([] ++ SV.refsL ((explL e ys 1).1 ++ (List.replicate m zs).flatten)) [0] = _
    rw [zV, zjr, hzr.1, List.append_nil, List.nil_append, hL]
    have h2 := zoQ (fillH e zs ys m t) L 1 f (by omega) hat
    rw [Nat.add_comm 1] at h2
    exact h2
  have hc : (nodupB (List.range' 0 (L + 1)) && ((List.range' 0 (L + 1)).all (fun β => Nat.ble 0 β && Nat.blt β (fillH e zs ys m t).length) && Nat.ble 0 (fillH e zs ys m t).length)) = true := by
    rw [zag, Bool.true_and, Bool.and_eq_true, List.all_eq_true]
    refine ⟨fun β hβ => ?_, by simp⟩
    have := List.mem_range'_1.1 hβ
    rw [hlen]
    simp [Nat.ble_eq, Nat.blt_eq]; omega
  have hren : ∀ β, β < L + 1 → renF 0 (List.range' 0 (L + 1)) β = some β := fun β h => zvJ h
  have e1 : (List.range' 0 (L + 1)).map (fun β => match (fillH e zs ys m t)[β]? with | some x => x.ren (renF 0 (List.range' 0 (L + 1))) | none => .dead) = fillH e zs ys m 0 := by
    refine List.ext_getElem? fun i => ?_
    rw [List.getElem?_map]
    rcases Nat.lt_or_ge i (L + 1) with h | h
    · rw [List.getElem?_range' h]
      simp only [Nat.zero_add, Nat.one_mul, Option.map_some]
      cases i with
      | zero =>
        simp only [List.getElem?_cons_zero, Blk.ren]
        rw [zd9, zjt (fun j hj => hren j (by rw [hL] at hj; omega)), hzr.2]
      | succ i =>
        have hi : i < (explL e ys 1).2.length := by omega
        simp only [List.getElem?_cons_succ, List.getElem?_eq_getElem hi]
        rw [(hleaf _ (List.getElem_mem hi)).2]
    · rw [List.getElem?_eq_none (by simpa using h), List.getElem?_eq_none (by simp [hL]; omega)]; rfl
  have h0 := hren 0 (by omega)
  rw [gc_of (σ := List.range' 0 (L + 1)) hord hc, e1]
  simp only [List.map_cons, List.map_nil, SV.ren, h0, List.take_zero, List.nil_append]
theorem zvL {e : Kd} {zs : List SV} (hzs : zs.length = e.sz) {ys : List e.T} {y : e.T} {k : Nat} :
    setCells ((explL e ys 1).1 ++ (List.replicate (k + 1) zs).flatten) (ys.length * e.sz) (expl e y ((explL e ys 1).2.length + 1)).1 = (explL e (ys ++ [y]) 1).1 ++ (List.replicate k zs).flatten := by
  unfold setCells
  have hl : (explL e ys 1).1.length = ys.length * e.sz := zaf
  rw [← hl, List.take_left, zaD, zoN, Nat.add_comm 1, List.replicate_succ, List.flatten_cons]
  have h2 : ((explL e ys 1).1 ++ (zs ++ (List.replicate k zs).flatten)).drop ((explL e ys 1).1.length + (expl e y ((explL e ys 1).2.length + 1)).1.length) = (List.replicate k zs).flatten := by
    rw [← List.drop_drop, List.drop_left, zaB, ← hzs, List.drop_left]
  rw [h2, List.append_assoc]
theorem zbD {T : Tab} {f2 : Nat} {R : Type} {e X : Kd} {zs : List SV} (hz : NoRef zs) (hzs : zs.length = e.sz) (bd : C) (xs : List X.T) (g : X.T → Option e.T) (ys : List e.T) (hg : ∀ (i : Nat) (x : X.T), xs[i]? = some x → ∃ y, g x = some y ∧ ys[i]? = some y) (hlen : ys.length = xs.length)
    (hsz : (explL e ys 1).2.length + 1 ≤ 4294967295) (K : Ex → Env → Heap → Option R)
    (hround : ∀ (i : Nat) (x : X.T) (y : e.T) (cs : List SV) (Rs : Heap) (K : Ex → Env → Heap → Option R), xs[i]? = some x → g x = some y → cs.length = xs.length * e.sz → ∃ τ, [4, 0, 3].map (fun s => (s, Tm.get τ s)) = [(4, SV.int .i64 ((i + 1 : Nat) : Int)), (0, .es X xs), (3, .own 0)] ∧
      run T 0 f2 bd [(4, .int .i64 (i : Int)), (0, .es X xs), (3, .own 0)] (.cells cs 0 e.sz :: Rs) K = K .normal τ (.cells (setCells cs (i * e.sz) (expl e y (Rs.length + 1)).1) 0 e.sz :: (Rs ++ (expl e y (Rs.length + 1)).2)))
    (hexit : ∀ (cs : List SV) (Rs : Heap) (K : Ex → Env → Heap → Option R), ∃ τ, Tm.get τ 3 = .own 0 ∧ run T 0 f2 bd [(4, .int .i64 (xs.length : Int)), (0, .es X xs), (3, .own 0)] (.cells cs 0 e.sz :: Rs) K = K (.exit 0) τ (.cells cs 0 e.sz :: Rs)) :
    ∀ (k i : Nat), i + k = xs.length → ∃ τ, Tm.get τ 3 = .own 0 ∧ loopN (run T 0 f2 bd) 0 { live := [4, 0, 3], fix := [] } (k + 1) [(4, .int .i64 (i : Int)), (0, .es X xs), (3, .own 0)] (fillH e zs (ys.take i) k 0) K =
      K (.exit 0) τ (fillH e zs ys 0 0)
  | 0, i, hi => by
    have hi' : i = xs.length := by omega
    subst hi'
    rw [List.take_of_length_le (by omega)]
    obtain ⟨τ, h1, h2⟩ := hexit ((explL e ys 1).1 ++ (List.replicate 0 zs).flatten) (explL e ys 1).2 (loopK 0 { live := [4, 0, 3], fix := [] } (fun τ H => loopN (run T 0 f2 bd) 0 { live := [4, 0, 3], fix := [] } 0 τ H K) K)
    exact ⟨τ, h1, by rw [loopN]; exact h2⟩
  | k + 1, i, hi => by
    have hlt : i < xs.length := by omega
    obtain ⟨τ, h3, ih⟩ := zbD hz hzs bd xs g ys hg hlen hsz K hround hexit k (i + 1) (by omega)
    obtain ⟨y, hgy, hy⟩ := hg i _ (List.getElem?_eq_getElem hlt)
    have hiy : i < ys.length := by omega
    refine ⟨τ, h3, ?_⟩
    have htl : (ys.take i).length = i := by rw [List.length_take]; omega
    have hcl : ((explL e (ys.take i) 1).1 ++ (List.replicate (k + 1) zs).flatten).length = xs.length * e.sz := by
      rw [List.length_append, zaf, List.length_take, List.length_flatten]
      simp only [List.map_replicate, List.sum_replicate_nat, hzs]
      rw [← Nat.add_mul]; congr 1; omega
    obtain ⟨τ1, h4, h5⟩ := hround i _ y ((explL e (ys.take i) 1).1 ++ (List.replicate (k + 1) zs).flatten) (explL e (ys.take i) 1).2 (loopK 0 { live := [4, 0, 3], fix := [] } (fun τ H => loopN (run T 0 f2 bd) 0 { live := [4, 0, 3], fix := [] } (k + 1) τ H K) K) (List.getElem?_eq_getElem hlt) hgy hcl
    rw [loopN]
    refine h5.trans ?_
    have hyi : ys[i] = y := by
      rw [List.getElem?_eq_getElem hiy] at hy
      exact Option.some.inj hy
    have htk : ys.take i ++ [y] = ys.take (i + 1) := by rw [List.take_succ_eq_append_getElem hiy, hyi]
    have hset := zvL (e := e) (zs := zs) hzs (ys := ys.take i) (y := y) (k := k)
    rw [htl, htk] at hset
    have hch : (explL e (ys.take i) 1).2 ++ (expl e y ((explL e (ys.take i) 1).2.length + 1)).2 = (explL e (ys.take (i + 1)) 1).2 := by
      rw [← htk, zaD, zoN, Nat.add_comm 1]
    rw [hset, hch]
    show (match gc 0 ([4, 0, 3].map fun s => (s, Tm.get τ1 s)) (fillH e zs (ys.take (i + 1)) k 0) with
      | some (τ, H) => loopN (run T 0 f2 bd) 0 { live := [4, 0, 3], fix := [] } (k + 1) τ H K
      | none => none) = _
    rw [h4, gc_fill hz (by
      have : (explL e (ys.take (i + 1)) 1).2.length ≤ (explL e ys 1).2.length := by
        conv => rhs; rw [← List.take_append_drop (i + 1) ys, zaD, List.length_append]
        omega
      omega)]
    exact ih
end Go.Proofs.Ytmkekjmckdkcnaa.Den
namespace Go.Proofs.Ytmkekjmckdkcnaa.Den
open Go
theorem w64_id {x : Int} (h1 : -9223372036854775808 ≤ x) (h2 : x ≤ 9223372036854775807) : w64 x = x := by
  unfold w64 IntKind.wrap
  simp only [show IntKind.i64.bits = 64 from rfl, show IntKind.i64.signed = true from rfl, Bool.true_and, decide_eq_true_eq]
  rw [show (2 : Int) ^ 64 = 18446744073709551616 from by decide, show (2 : Int) ^ (64 - 1) = 9223372036854775808 from by decide]
  split <;> omega
def Ret {R : Type} (o : Option R) (Q : R → Prop) : Prop := ∃ r, o = some r ∧ Q r
section
variable {R S V : Type} {Q : R → Prop} {x y : Option R}
theorem Ret.ret {r : R} (h : Q r) : Ret (some r) Q := ⟨r, rfl, h⟩
theorem Ret.mono {Q' : R → Prop} (h : Ret x Q) (h2 : ∀ r, Q r → Q' r) : Ret x Q' := by
  obtain ⟨r, h1, h3⟩ := h; exact ⟨r, h1, h2 r h3⟩
theorem Ret.bind {o : Option S} {k : S → Option R} {P : S → Prop} (h : Ret o P) (hk : ∀ s, P s → Ret (k s) Q) : Ret (o.bind k) Q := by
  obtain ⟨s, h1, h2⟩ := h
  subst h1; exact hk s h2
theorem Ret.cond {b : Bool} (ht : b = true → Ret x Q) (hf : b = false → Ret y Q) : Ret (cond b x y) Q := by
  cases b
  · exact hf rfl
  · exact ht rfl
theorem Ret.tst {b : Bool} (hb : b = true) (h : Ret x Q) : Ret (tst b x) Q := by
  subst hb; exact h
theorem Ret.of {r : R} (h : x = some r) : Ret x fun s => s = r := ⟨r, h, rfl⟩
theorem Ret.loop {step : (V → Option R) → V → Option R} (I : Nat → V → Prop) (h : ∀ (n : Nat) (v : V) (g : V → Option R), I n v → (∀ m v', m < n → I m v' → Ret (g v') Q) → Ret (step g v) Q) :
    ∀ (fuel n : Nat) (v : V), I n v → n < fuel → Ret (iter step fuel v) Q
  | 0, n, v, _, h2 => by omega
  | fuel + 1, n, v, h1, h2 => h n v _ h1 fun m v' h3 h4 => Ret.loop I h fuel m v' h4 (by omega)
end
end Go.Proofs.Ytmkekjmckdkcnaa.Den
namespace Go.Proofs.Ytmkekjmckdkcnaa.Den
open Go
section
variable {R V α β : Type} {σ : Type}
def upGo (body : Nat → (σ → Option R) → σ → Option R) (fin : σ → Option R) : Nat → Nat → σ → Option R
  | 0, _, s => fin s
  | d + 1, i, s => body i (upGo body fin d (i + 1)) s
def goL (b : α → (σ → Option R) → σ → Option R) (fin : σ → Option R) : List α → σ → Option R
  | [], s => fin s
  | x :: r, s => b x (goL b fin r) s
theorem iter_up {st : (V → Option R) → V → Option R} {enc : Nat → σ → V} {body : Nat → (σ → Option R) → σ → Option R} {fin : σ → Option R} (n : Nat)
    (hs : ∀ i s g, i < n → st g (enc i s) = body i (fun s' => g (enc (i + 1) s')) s) (he : ∀ s g, st g (enc n s) = fin s) :
    ∀ (d i : Nat) (s : σ) (fuel : Nat), i + d = n → d < fuel → iter st fuel (enc i s) = upGo body fin d i s
  | 0, i, s, fuel + 1, hi, hf => by
    obtain rfl : i = n := by omega
    rw [iter, he]; rfl
  | d + 1, i, s, fuel + 1, hi, hf => by
    rw [iter, hs i s _ (by omega)]
    show body i _ s = body i _ s
    congr 1
    funext s'
    exact iter_up n hs he d (i + 1) s' fuel (by omega) (by omega)
theorem zoR {l : List α} {i : Nat} (d : α) (h : i < l.length) : l.drop i = l.getD i d :: l.drop (i + 1) := by
  rw [List.drop_eq_getElem_cons h, List.getD_eq_getElem?_getD, List.getElem?_eq_getElem h]; rfl
theorem zvM {st : (V → Option R) → V → Option R} {enc : Nat → σ → V} (b : α → (σ → Option R) → σ → Option R) (fin : σ → Option R) (l : List α) (d0 : α)
    (hs : ∀ i s g, i < l.length → st g (enc i s) = b (l.getD i d0) (fun s' => g (enc (i + 1) s')) s) (he : ∀ s g, st g (enc l.length s) = fin s)
    (fuel : Nat) (s : σ) (hf : l.length < fuel) : iter st fuel (enc 0 s) = goL b fin l s := by
  rw [iter_up (body := fun i => b (l.getD i d0)) (fin := fin) l.length hs he l.length 0 s fuel (by omega) hf]
  have : ∀ (d i : Nat) (s : σ), i + d = l.length → upGo (fun i => b (l.getD i d0)) fin d i s = goL b fin (l.drop i) s := by
    intro d
    induction d with
    | zero => intro i s h; rw [List.drop_eq_nil_of_le (by omega)]; rfl
    | succ d ih =>
      intro i s h
      rw [zoR d0 (show i < l.length by omega)]
      show b _ _ s = b _ _ s
      congr 1
      funext s'
      exact ih (i + 1) s' (by omega)
  exact this l.length 0 s (by omega)
theorem zvN {out : List β} {i : Nat} {y : β} (h : i < out.length) (r : List β) : (out.set i y).take (i + 1) ++ r = out.take i ++ y :: r := by
  rw [List.take_succ_eq_append_getElem (by simpa using h), List.getElem_set_self, List.take_set_of_le (Nat.le_refl i), List.append_assoc]; rfl
theorem zoS {st : (V → Option R) → V → Option R} {enc : Nat → List β → V} (fin : List β → Option R) (l : List α) (d0 : α) (h : α → β)
    (hs : ∀ i out g, i < l.length → out.length = l.length → st g (enc i out) = g (enc (i + 1) (out.set i (h (l.getD i d0))))) (he : ∀ out g, st g (enc l.length out) = fin out) :
    ∀ (d i : Nat) (out : List β) (fuel : Nat), i + d = l.length → out.length = l.length → d < fuel → iter st fuel (enc i out) = fin (out.take i ++ (l.drop i).map h)
  | 0, i, out, fuel + 1, hi, ho, hf => by
    obtain rfl : i = l.length := by omega
    rw [iter, he, List.drop_eq_nil_of_le (Nat.le_refl _), ← ho, List.take_length]; simp
  | d + 1, i, out, fuel + 1, hi, ho, hf => by
    rw [iter, hs i out _ (by omega) ho, zoS fin l d0 h hs he d (i + 1) _ fuel (by omega) (by simpa using ho) (by omega), zvN (by omega), zoR d0 (show i < l.length by omega)]
    rfl
theorem zgn {st : (V → Option R) → V → Option R} {enc : Nat → List β → V} (fin : List β → Option R) (l : List α) (d0 : α) (h : α → β)
    (hs : ∀ i out g, i < l.length → out.length = l.length → st g (enc i out) = g (enc (i + 1) (out.set i (h (l.getD i d0))))) (he : ∀ out g, st g (enc l.length out) = fin out)
    (fuel : Nat) (z : β) (hf : l.length < fuel) : iter st fuel (enc 0 (List.replicate l.length z)) = fin (l.map h) := by
  rw [zoS fin l d0 h hs he l.length 0 _ fuel (by omega) (by simp) hf]; rfl
theorem zO {st : (V → Option R) → V → Option R} {enc : Nat → V} (r : Option R) (n : Nat)
    (hs : ∀ i g, i < n → st g (enc i) = g (enc (i + 1))) (he : ∀ g, st g (enc n) = r) : ∀ (d i fuel : Nat), i + d = n → d < fuel → iter st fuel (enc i) = r
  | 0, i, fuel + 1, hi, hf => by
    obtain rfl : i = n := by omega
    rw [iter, he]
  | d + 1, i, fuel + 1, hi, hf => by
    rw [iter, hs i _ (by omega), zO r n hs he d (i + 1) fuel (by omega) (by omega)]
end
theorem w64_up {i : Nat} (h : i < 4294967296) : w64 ((i : Int) + 1) = ((i + 1 : Nat) : Int) := by rw [w64_id] <;> omega
theorem lt_cast {i n : Nat} (h : i < n) : (i : Int) < (n : Int) := by omega
theorem zf {n : Nat} : ¬ ((n : Int) < (n : Int)) := by omega
theorem le_cast {i : Nat} : (0 : Int) ≤ (i : Int) := by omega
end Go.Proofs.Ytmkekjmckdkcnaa.Den
namespace Go.Proofs.Ytmkekjmckdkcnaa.Den
open Go Go.RowKit
abbrev KS : Kd := (Kd.pair (Kd.pair (Kd.list (Kd.list I6)) Kd.unit) (Kd.pair (Kd.pair (Kd.list I6) Kd.unit) (Kd.pair (Kd.pair (Kd.list KP) (Kd.pair I6 (Kd.pair I6 Kd.unit))) (Kd.pair (Kd.pair (Kd.list KP) (Kd.pair I6 Kd.unit)) Kd.unit))))
abbrev KE : Kd := (Kd.pair I6 (Kd.pair I6 (Kd.pair I6 (Kd.pair KS Kd.unit))))
abbrev KN : Kd := (Kd.pair I6 (Kd.pair (Kd.list KE) (Kd.pair I6 (Kd.pair I6 (Kd.pair I6 Kd.unit)))))
abbrev KW : Kd := (Kd.pair I6 (Kd.pair I6 (Kd.pair I6 (Kd.pair I6 (Kd.pair I6 (Kd.pair (Kd.list KE) Kd.unit))))))
def mapO {α β : Type} (g : α → Option β) : List α → Option (List β)
  | [] => some []
  | x :: xs => (g x).bind fun y => (mapO g xs).map fun ys => y :: ys
theorem zbE {α β : Type} {g : α → Option β} : ∀ {xs : List α} {ys : List β}, mapO g xs = some ys → ys.length = xs.length ∧ ∀ (i : Nat) (x : α), xs[i]? = some x → ∃ y, g x = some y ∧ ys[i]? = some y
  | [], ys, h => by simp only [mapO, Option.some.injEq] at h; subst h; exact ⟨rfl, fun i x h => by simp at h⟩
  | x :: xs, ys, h => by
    simp only [mapO, Option.bind_eq_some_iff, Option.map_eq_some_iff] at h
    obtain ⟨y, h1, ys', h2, rfl⟩ := h
    obtain ⟨h3, h4⟩ := zbE h2
    refine ⟨by simp [h3], fun i z hz => ?_⟩
    cases i with
    | zero => simp at hz; subst hz; exact ⟨y, h1, rfl⟩
    | succ i => obtain ⟨y', h5, h6⟩ := h4 i z (by simpa using hz); exact ⟨y', h5, by simpa using h6⟩
theorem zz_cast (n : Nat) : zz n = (n : Int) := rfl
theorem w64_up2 {n : Nat} (h : n ≤ 1048576) : w64 ((n : Int) + 1) = ((n + 1 : Nat) : Int) := by
  rw [w64_up (show n < 4294967296 by omega)]
abbrev zah := Option (((List Int) × Unit) × Unit)
def zbG (fuel : Nat) : Tab := Tab.of [] []
abbrev zee : List Pm := [{ cs := [(Kd.list I6, false)], ag := false }]
abbrev zbH : List Pm := [{ cs := [(Kd.list I6, true)], ag := false }]
def zjE : List Norm := [{ live := [4, 0, 3], fix := [] }]
noncomputable def zbI : C := irOf Try.prog Try.f6 [] zjE []
theorem zpo : lightC Try.prog [] Try.f6.ntmps zjE [] 0 (bodyOf Try.f6) = some (zbI, 1) := by kernel_rfl
def zbJ : List (Nat × Option (Nat × Bool)) := [(2, none)]
abbrev zaE := (Int) × (List Int) × (List Int)
def zjF (v : zaE) : Env × Heap := ([(4, SV.int .i64 v.1), (0, SV.es I6 v.2.1), (3, SV.own 0)], [Blk.arr I6 v.2.2 0])
def zbK (fuel : Nat) (g0 : zaE → zah) (v : zaE) : zah :=
 cond (decide (v.1 < (zz (List.length v.2.1))))
 (tst (decide (0 ≤ v.1)) <|
 tst (decide (v.1 < (zz (List.length v.2.1)))) <|
 tst (decide (0 ≤ v.1)) <|
 tst (decide (v.1 < (zz (List.length v.2.2)))) <|
 tst (decide (Int.toNat v.1 < List.length v.2.2)) <|
 g0 (w64 (v.1 + (1 : Int)), v.2.1, List.set v.2.2 (Int.toNat v.1) (List.getD v.2.1 (Int.toNat v.1) 0)))
 (some (((v.2.2, ()), ())))
def zef (fuel : Nat) (g0 : zaE → zah) : zaE → zah := zbK fuel g0
theorem zpp (fuel : Nat) (G) : zbI.lp (zbG fuel) 0 fuel G (endF zbJ zbH) 0 zjF = iter (zef fuel) fuel := C.lp_iter fun g v => by kernel_rfl
def zeg (fuel : Nat) (X0 : zaE → zah) (x0 : List Int) : zah :=
 tst (decide (0 ≤ (zz (List.length x0)))) <|
 tst (decide ((zz (List.length x0)) ≤ (zz (List.length x0)))) <|
 tst (decide (Int.toNat (zz (List.length x0)) < LIM)) <|
 X0 ((0 : Int), x0, List.replicate (Int.toNat (zz (List.length x0))) 0)
def zaF (fuel : Nat) (x : (((List Int) × Unit) × Unit)) : zah := zeg fuel (iter (zef fuel) fuel) x.1.1
theorem zpq (fuel : Nat) (x : PsT zee) : run (zbG fuel) 0 fuel zbI (env0 (svPs zee x) 0) [] (endF zbJ zbH) = zaF fuel x :=
  (show run (zbG fuel) 0 fuel zbI (env0 (svPs zee x) 0) [] (endF zbJ zbH) = zeg fuel (zbI.lp (zbG fuel) 0 fuel (fun _ _ _ => none) (endF zbJ zbH) 0 zjF) x.1.1 by kernel_rfl).trans (by rw [zpp]; rfl)
def zeh (fuel : Nat) : TF := ⟨zee, zbH, true, zaF fuel⟩
theorem zpr (fuel : Nat) : FnSpec Try.prog 6 (zeh fuel) :=
  fn_spec (T := zbG fuel) (c := bodyOf Try.f6) (fn := Try.f6) (TabOK.of (entNil) (methNil)) mixed (by kernel_rfl) (by kernel_rfl) zpo (by kernel_rfl) (Nat.le_of_ble_eq_true (by kernel_rfl)) (rv := zbJ) (by kernel_rfl) (zpq fuel)
theorem zjG (fuel : Nat) : EntryOK Try.prog 6 (zeh fuel).te := EntryOK.tf rfl (zpr fuel) (isFn (fn := Try.f6) (by kernel_rfl) (by kernel_rfl) (by kernel_rfl))
def zY (fuel : Nat) : Tab := Tab.of [(6, (zeh fuel).te)] []
def zps : List Norm := [{ live := [4, 0, 3], fix := [] }]
abbrev zei : C := (C.seq (C.seq (C.reg false [{ d := some 8, g := none, i := I.mv (S.t 4) }, { d := some 9, g := none, i := I.mv (S.t 0) }, { d := some 10, g := none, i := I.len (S.t 9) }, { d := some 11, g := none, i := I.bin BinOp.lss (S.t 8) (S.t 10) }]) (C.cnd (S.t 11) C.skip (C.exit 0))) (C.seq (C.blk 1 (C.reg false [{ d := some 14, g := none, i := I.mv (S.t 3) }, { d := some 15, g := none, i := I.mv (S.t 4) }, { d := some 16, g := none, i := I.mv (S.t 0) }, { d := some 17, g := none, i := I.mv (S.t 4) }, { d := some 18, g := none, i := I.ia 1 (S.t 16) (S.t 17) }, { d := some 19, g := none, i := I.ld 1 false (S.t 18) }, { d := some 20, g := none, i := I.call 6 [S.t 19] }, { d := some 21, g := none, i := I.ia 1 (S.t 14) (S.t 15) }, { d := none, g := none, i := I.st 1 (S.t 21) (S.t 20) }])) (C.reg false [{ d := some 12, g := none, i := I.mv (S.t 4) }, { d := some 13, g := none, i := I.bin BinOp.add (S.t 12) (S.c (SV.int .i64 (Int.ofNat 1))) }, { d := some 4, g := none, i := I.mv (S.t 13) }])))
def zgq : C := C.seq (C.reg false [{ d := some 2, g := none, i := I.mv (S.c SV.nils) }]) (C.seq (C.reg false [{ d := some 5, g := none, i := I.mv (S.t 0) }, { d := some 6, g := none, i := I.len (S.t 5) }, { d := some 7, g := none, i := I.mk none [SV.nils] 22 (S.t 6) (some (S.t 6)) }, { d := some 3, g := none, i := I.mv (S.t 7) }]) (C.seq (C.seq (C.reg false [{ d := some 4, g := none, i := I.mv (S.c (SV.int .i64 (Int.ofNat 0))) }]) (C.blk 0 (C.loop { live := [4, 0, 3], fix := [] } zei))) (C.seq (C.reg false [{ d := some 22, g := none, i := I.mv (S.t 3) }, { d := some 2, g := none, i := I.mv (S.t 22) }]) C.ret)))
theorem zpt : lightC Try.prog [7] Try.f64.ntmps zps [] 0 (bodyOf Try.f64) = some (zgq, 1) := by kernel_rfl
def zai : List (Nat × Option (Nat × Bool)) := [(2, none)]
abbrev zgr : Sh := .cell (.list (Kd.list I6)) 0 .nil
def zgs (fuel : Nat) (x : Kd.T (Kd.list I6)) : Option (Kd.T (Kd.list I6)) := (zaF fuel ((x, ()), ())).map fun y => y.1.1
def zZ (fuel : Nat) (x : List (Kd.T (Kd.list I6)) × Unit) : Option (List (Kd.T (Kd.list I6))) := if x.1.length ≤ 1048576 then mapO (zgs fuel) x.1 else none
def zej (fuel : Nat) : TR := ⟨zgr, .list (Kd.list I6), false, zZ fuel⟩
theorem zjH (fuel f2 : Nat) (R : Type) (i : Int) (xs : List (Kd.T (Kd.list I6))) (cs : List SV) (Rs : Heap) (K : Ex → Env → Heap → Option R) :
    run (zY fuel) 0 f2 zei [(4, .int .i64 i), (0, .es (Kd.list I6) xs), (3, .own 0)] (.cells cs 0 1 :: Rs) K =
    cond (decide (i < (zz xs.length)))
      (tst (decide (0 ≤ i)) <| tst (decide (i < (zz xs.length))) <| Option.bind (zaF fuel (((xs.getD i.toNat (Kd.dflt (Kd.list I6))), ()), ())) fun y =>
        tst (decide (0 ≤ i)) <| tst (decide (i < (zz (cs.length / 1)))) <| if i.toNat * 1 + 1 ≤ cs.length ∧ (expl (Kd.list I6) y.1.1 (Rs.length + 1)).1.all SV.oneB = true then
          K .normal [(4, .int .i64 (w64 (i + 1))), (13, .int .i64 (w64 (i + 1))), (12, .int .i64 i), (21, .ptr 0 (i.toNat * 1)), (20, .own (Rs.length + 1)), (19, .es I6 (xs.getD i.toNat (Kd.dflt (Kd.list I6)))), (18, .eptr (Kd.list I6) (xs.getD i.toNat (Kd.dflt (Kd.list I6))) 0), (17, .int .i64 i), (16, .es (Kd.list I6) xs), (15, .int .i64 i), (14, .own 0), (11, .bool (decide (i < (zz xs.length)))), (10, .int .i64 (zz xs.length)), (9, .es (Kd.list I6) xs), (8, .int .i64 i), (4, .int .i64 i), (0, .es (Kd.list I6) xs), (3, .own 0)] (.cells (setCells cs (i.toNat * 1) (expl (Kd.list I6) y.1.1 (Rs.length + 1)).1) 0 1 :: (Rs ++ (expl (Kd.list I6) y.1.1 (Rs.length + 1)).2))
        else none)
      (K (.exit 0) [(11, .bool (decide (i < (zz xs.length)))), (10, .int .i64 (zz xs.length)), (9, .es (Kd.list I6) xs), (8, .int .i64 i), (4, .int .i64 i), (0, .es (Kd.list I6) xs), (3, .own 0)] (.cells cs 0 1 :: Rs)) := by
  kernel_rfl
theorem zjI : ∀ (ys : List (Kd.T (Kd.list I6))) (k : Nat), (explL (Kd.list I6) ys k).2.length = ys.length * 1
  | [], _ => rfl
  | y :: ys, k => by
    have e : (expl (Kd.list I6) y k).2.length = 1 := rfl
    simp only [explL, List.length_append, zjI ys, e, List.length_cons]; omega
theorem zpu (fuel : Nat) (x : List (Kd.T (Kd.list I6)) × Unit) (y : List (Kd.T (Kd.list I6))) (h : zZ fuel x = some y) : ∃ f2, run (zY fuel) 0 f2 zgq (env0 (svS zgr x) 0) [] (endR zai (.list (Kd.list I6)) false) = some y := by
  obtain ⟨xs, u⟩ := x
  unfold zZ at h
  split at h
  · rename_i hl
    have hl : xs.length ≤ 1048576 := hl
    obtain ⟨hlen, hg⟩ := zbE h
    refine ⟨xs.length + 1, ?_⟩
    have hn := zjI y 1
    obtain ⟨τ, h3, hloop⟩ := zbD (T := zY fuel) (f2 := xs.length + 1) (e := (Kd.list I6)) (X := (Kd.list I6)) (zs := [SV.nils]) ⟨rfl, fun _ => rfl⟩ rfl zei xs (zgs fuel) y hg hlen (by omega) (blkK 0 (seqK (run (zY fuel) 0 (xs.length + 1) (C.seq (C.reg false [{ d := some 22, g := none, i := I.mv (S.t 3) }, { d := some 2, g := none, i := I.mv (S.t 22) }]) C.ret)) (endR zai (.list (Kd.list I6)) false)))
      (fun i x y cs Rs K hx hy hc => by
        have hlt : i < xs.length := (List.getElem?_eq_some_iff.1 hx).1
        have h1 : decide ((i : Int) < zz xs.length) = true := by rw [zz_cast]; simp; omega
        have h2 : decide ((0 : Int) ≤ (i : Int)) = true := by simp
        have hgd : xs.getD i (Kd.dflt (Kd.list I6)) = x := by rw [List.getD_eq_getElem?_getD, hx]; rfl
        have hc : cs.length = xs.length * 1 := hc
        have hcl : cs.length / 1 = xs.length := by rw [hc]; exact Nat.mul_div_cancel _ (by decide)
        have h4 : decide ((i : Int) < zz (cs.length / 1)) = true := by rw [hcl]; exact h1
        have hle : (i + 1) * 1 ≤ xs.length * 1 := Nat.mul_le_mul_right _ hlt
        obtain ⟨y0, hy', rfl⟩ := Option.map_eq_some_iff.1 hy
        have hr := zjH fuel (xs.length + 1) _ (i : Int) xs cs Rs K
        rw [h1, cond_true, h2, h4] at hr
        simp only [cond_true, Int.toNat_natCast, hgd] at hr
        rw [hy', Option.bind_some, if_pos ⟨by omega, rfl⟩] at hr
        have hw : w64 ((i : Int) + 1) = ((i + 1 : Nat) : Int) := w64_up2 (by omega)
        rw [hw] at hr
        exact ⟨_, rfl, hr⟩)
      (fun cs Rs K => by
        have h1 : decide ((xs.length : Int) < zz xs.length) = false := by rw [zz_cast]; simp
        have hr := zjH fuel (xs.length + 1) _ (xs.length : Int) xs cs Rs K
        rw [h1, cond_false] at hr
        exact ⟨_, rfl, hr⟩)
      xs.length 0 (by omega)
    have hpre : run (zY fuel) 0 (xs.length + 1) zgq (env0 (svS zgr (xs, u)) 0) [] (endR zai (.list (Kd.list I6)) false) =
        if xs.length ≤ xs.length ∧ xs.length < LIM then (match gc 0 [(4, .int .i64 (0 : Int)), (0, .es (Kd.list I6) xs), (3, .own 0)] [.cells ((List.replicate xs.length [SV.nils]).flatten) 22 1] with
          | some (τ, H) => loopN (run (zY fuel) 0 (xs.length + 1) zei) 0 { live := [4, 0, 3], fix := [] } (xs.length + 1) τ H (blkK 0 (seqK (run (zY fuel) 0 (xs.length + 1) (C.seq (C.reg false [{ d := some 22, g := none, i := I.mv (S.t 3) }, { d := some 2, g := none, i := I.mv (S.t 22) }]) C.ret)) (endR zai (.list (Kd.list I6)) false)))
          | none => none) else none := by kernel_rfl
    rw [hpre, if_pos ⟨Nat.le_refl _, by show xs.length < 4294967296; omega⟩]
    have hg0 := gc_fill (e := (Kd.list I6)) (X := (Kd.list I6)) (zs := [SV.nils]) ⟨rfl, fun _ => rfl⟩ (xs := xs) (ys := []) (m := xs.length) (t := 22) (n := 0) (by simp [explL])
    have hg' : gc 0 [(4, .int .i64 (0 : Int)), (0, .es (Kd.list I6) xs), (3, .own 0)] [.cells ((List.replicate xs.length [SV.nils]).flatten) 22 1] = some ([(4, .int .i64 (0 : Int)), (0, .es (Kd.list I6) xs), (3, .own 0)], fillH (Kd.list I6) [SV.nils] [] xs.length 0) := hg0
    rw [hg']
    refine Eq.trans hloop ?_
    show (endR zai (.list (Kd.list I6)) false) .ret ((2, Tm.get ((22, Tm.get τ 3) :: τ) 22) :: (22, Tm.get τ 3) :: τ) (fillH (Kd.list I6) [SV.nils] y 0 0) = some y
    have e : evalRes ((2, Tm.get ((22, Tm.get τ 3) :: τ) 22) :: (22, Tm.get τ 3) :: τ) (fillH (Kd.list I6) [SV.nils] y 0 0) zai = some [.own 0] := by
      show some [Tm.get τ 3] = _
      rw [h3]
    unfold endR
    simp only [e, cellsOf]
    rw [zbC (e := (Kd.list I6)) (xs := y) (t := 0) (by decide) (by simp [fillH]) (fun j hj => by rw [Nat.add_comm, List.getElem?_cons_succ])]
    simp only [zag, cond_true]
  · cases h
theorem zpv (fuel : Nat) : FnSpecR Try.prog 64 (zej fuel) :=
  zN (T := zY fuel) (c := bodyOf Try.f64) (fn := Try.f64) (TabOK.of (entCons (zjG fuel) entNil) methNil) mixed (by kernel_rfl) (by kernel_rfl) zpt (by kernel_rfl) (Nat.le_of_ble_eq_true (by kernel_rfl)) (rv := zai) (by kernel_rfl) (fun x y h => zpu fuel x y h)
theorem zjJ (fuel : Nat) : EntryOK Try.prog 64 (zej fuel).te := EntryOK.tr (zpv fuel) (isFn (fn := Try.f64) (by kernel_rfl) (by kernel_rfl) (by kernel_rfl))
def z4 (fuel : Nat) : Tab := Tab.of [(64, (zej fuel).te)] []
def zpw : List Norm := [{ live := [4, 0, 3], fix := [] }]
abbrev zek : C := (C.seq (C.seq (C.reg false [{ d := some 8, g := none, i := I.mv (S.t 4) }, { d := some 9, g := none, i := I.mv (S.t 0) }, { d := some 10, g := none, i := I.len (S.t 9) }, { d := some 11, g := none, i := I.bin BinOp.lss (S.t 8) (S.t 10) }]) (C.cnd (S.t 11) C.skip (C.exit 0))) (C.seq (C.blk 1 (C.reg false [{ d := some 14, g := none, i := I.mv (S.t 3) }, { d := some 15, g := none, i := I.mv (S.t 4) }, { d := some 16, g := none, i := I.mv (S.t 0) }, { d := some 17, g := none, i := I.mv (S.t 4) }, { d := some 18, g := none, i := I.ia 1 (S.t 16) (S.t 17) }, { d := some 19, g := none, i := I.ld 1 false (S.t 18) }, { d := some 20, g := none, i := I.call 64 [S.t 19] }, { d := some 21, g := none, i := I.ia 1 (S.t 14) (S.t 15) }, { d := none, g := none, i := I.st 1 (S.t 21) (S.t 20) }])) (C.reg false [{ d := some 12, g := none, i := I.mv (S.t 4) }, { d := some 13, g := none, i := I.bin BinOp.add (S.t 12) (S.c (SV.int .i64 (Int.ofNat 1))) }, { d := some 4, g := none, i := I.mv (S.t 13) }])))
def zgt : C := C.seq (C.reg false [{ d := some 2, g := none, i := I.mv (S.c SV.nils) }]) (C.seq (C.reg false [{ d := some 5, g := none, i := I.mv (S.t 0) }, { d := some 6, g := none, i := I.len (S.t 5) }, { d := some 7, g := none, i := I.mk none [SV.nils] 51 (S.t 6) (some (S.t 6)) }, { d := some 3, g := none, i := I.mv (S.t 7) }]) (C.seq (C.seq (C.reg false [{ d := some 4, g := none, i := I.mv (S.c (SV.int .i64 (Int.ofNat 0))) }]) (C.blk 0 (C.loop { live := [4, 0, 3], fix := [] } zek))) (C.seq (C.reg false [{ d := some 22, g := none, i := I.mv (S.t 3) }, { d := some 2, g := none, i := I.mv (S.t 22) }]) C.ret)))
theorem zpx : lightC Try.prog [7] Try.f44.ntmps zpw [] 0 (bodyOf Try.f44) = some (zgt, 1) := by kernel_rfl
def zaj : List (Nat × Option (Nat × Bool)) := [(2, none)]
abbrev zgu : Sh := .cell (.list (Kd.list (Kd.list I6))) 0 .nil
def zel (fuel : Nat) (x : Kd.T (Kd.list (Kd.list I6))) : Option (Kd.T (Kd.list (Kd.list I6))) := (zZ fuel (x, ()))
def zaG (fuel : Nat) (x : List (Kd.T (Kd.list (Kd.list I6))) × Unit) : Option (List (Kd.T (Kd.list (Kd.list I6)))) := if x.1.length ≤ 1048576 then mapO (zel fuel) x.1 else none
def zgv (fuel : Nat) : TR := ⟨zgu, .list (Kd.list (Kd.list I6)), false, zaG fuel⟩
theorem zjK (fuel f2 : Nat) (R : Type) (i : Int) (xs : List (Kd.T (Kd.list (Kd.list I6)))) (cs : List SV) (Rs : Heap) (K : Ex → Env → Heap → Option R) :
    run (z4 fuel) 0 f2 zek [(4, .int .i64 i), (0, .es (Kd.list (Kd.list I6)) xs), (3, .own 0)] (.cells cs 0 1 :: Rs) K =
    cond (decide (i < (zz xs.length)))
      (tst (decide (0 ≤ i)) <| tst (decide (i < (zz xs.length))) <| Option.bind (zZ fuel ((xs.getD i.toNat (Kd.dflt (Kd.list (Kd.list I6)))), ())) fun y =>
        tst (decide (0 ≤ i)) <| tst (decide (i < (zz (cs.length / 1)))) <| if i.toNat * 1 + 1 ≤ cs.length ∧ (expl (Kd.list (Kd.list I6)) y (Rs.length + 1)).1.all SV.oneB = true then
          K .normal [(4, .int .i64 (w64 (i + 1))), (13, .int .i64 (w64 (i + 1))), (12, .int .i64 i), (21, .ptr 0 (i.toNat * 1)), (20, .own (Rs.length + 1)), (19, .es (Kd.list I6) (xs.getD i.toNat (Kd.dflt (Kd.list (Kd.list I6))))), (18, .eptr (Kd.list (Kd.list I6)) (xs.getD i.toNat (Kd.dflt (Kd.list (Kd.list I6)))) 0), (17, .int .i64 i), (16, .es (Kd.list (Kd.list I6)) xs), (15, .int .i64 i), (14, .own 0), (11, .bool (decide (i < (zz xs.length)))), (10, .int .i64 (zz xs.length)), (9, .es (Kd.list (Kd.list I6)) xs), (8, .int .i64 i), (4, .int .i64 i), (0, .es (Kd.list (Kd.list I6)) xs), (3, .own 0)] (.cells (setCells cs (i.toNat * 1) (expl (Kd.list (Kd.list I6)) y (Rs.length + 1)).1) 0 1 :: (Rs ++ (expl (Kd.list (Kd.list I6)) y (Rs.length + 1)).2))
        else none)
      (K (.exit 0) [(11, .bool (decide (i < (zz xs.length)))), (10, .int .i64 (zz xs.length)), (9, .es (Kd.list (Kd.list I6)) xs), (8, .int .i64 i), (4, .int .i64 i), (0, .es (Kd.list (Kd.list I6)) xs), (3, .own 0)] (.cells cs 0 1 :: Rs)) := by
  kernel_rfl
theorem zjL : ∀ (ys : List (Kd.T (Kd.list (Kd.list I6)))) (k : Nat), (explL (Kd.list (Kd.list I6)) ys k).2.length = ys.length * 1
  | [], _ => rfl
  | y :: ys, k => by
    have e : (expl (Kd.list (Kd.list I6)) y k).2.length = 1 := rfl
    simp only [explL, List.length_append, zjL ys, e, List.length_cons]; omega
theorem zpy (fuel : Nat) (x : List (Kd.T (Kd.list (Kd.list I6))) × Unit) (y : List (Kd.T (Kd.list (Kd.list I6)))) (h : zaG fuel x = some y) : ∃ f2, run (z4 fuel) 0 f2 zgt (env0 (svS zgu x) 0) [] (endR zaj (.list (Kd.list (Kd.list I6))) false) = some y := by
  obtain ⟨xs, u⟩ := x
  unfold zaG at h
  split at h
  · rename_i hl
    have hl : xs.length ≤ 1048576 := hl
    obtain ⟨hlen, hg⟩ := zbE h
    refine ⟨xs.length + 1, ?_⟩
    have hn := zjL y 1
    obtain ⟨τ, h3, hloop⟩ := zbD (T := z4 fuel) (f2 := xs.length + 1) (e := (Kd.list (Kd.list I6))) (X := (Kd.list (Kd.list I6))) (zs := [SV.nils]) ⟨rfl, fun _ => rfl⟩ rfl zek xs (zel fuel) y hg hlen (by omega) (blkK 0 (seqK (run (z4 fuel) 0 (xs.length + 1) (C.seq (C.reg false [{ d := some 22, g := none, i := I.mv (S.t 3) }, { d := some 2, g := none, i := I.mv (S.t 22) }]) C.ret)) (endR zaj (.list (Kd.list (Kd.list I6))) false)))
      (fun i x y cs Rs K hx hy hc => by
        have hlt : i < xs.length := (List.getElem?_eq_some_iff.1 hx).1
        have h1 : decide ((i : Int) < zz xs.length) = true := by rw [zz_cast]; simp; omega
        have h2 : decide ((0 : Int) ≤ (i : Int)) = true := by simp
        have hgd : xs.getD i (Kd.dflt (Kd.list (Kd.list I6))) = x := by rw [List.getD_eq_getElem?_getD, hx]; rfl
        have hc : cs.length = xs.length * 1 := hc
        have hcl : cs.length / 1 = xs.length := by rw [hc]; exact Nat.mul_div_cancel _ (by decide)
        have h4 : decide ((i : Int) < zz (cs.length / 1)) = true := by rw [hcl]; exact h1
        have hle : (i + 1) * 1 ≤ xs.length * 1 := Nat.mul_le_mul_right _ hlt
        have hy' := hy
        unfold zel at hy'
        have hr := zjK fuel (xs.length + 1) _ (i : Int) xs cs Rs K
        rw [h1, cond_true, h2, h4] at hr
        simp only [cond_true, Int.toNat_natCast, hgd] at hr
        rw [hy', Option.bind_some, if_pos ⟨by omega, rfl⟩] at hr
        have hw : w64 ((i : Int) + 1) = ((i + 1 : Nat) : Int) := w64_up2 (by omega)
        rw [hw] at hr
        exact ⟨_, rfl, hr⟩)
      (fun cs Rs K => by
        have h1 : decide ((xs.length : Int) < zz xs.length) = false := by rw [zz_cast]; simp
        have hr := zjK fuel (xs.length + 1) _ (xs.length : Int) xs cs Rs K
        rw [h1, cond_false] at hr
        exact ⟨_, rfl, hr⟩)
      xs.length 0 (by omega)
    have hpre : run (z4 fuel) 0 (xs.length + 1) zgt (env0 (svS zgu (xs, u)) 0) [] (endR zaj (.list (Kd.list (Kd.list I6))) false) =
        if xs.length ≤ xs.length ∧ xs.length < LIM then (match gc 0 [(4, .int .i64 (0 : Int)), (0, .es (Kd.list (Kd.list I6)) xs), (3, .own 0)] [.cells ((List.replicate xs.length [SV.nils]).flatten) 51 1] with
          | some (τ, H) => loopN (run (z4 fuel) 0 (xs.length + 1) zek) 0 { live := [4, 0, 3], fix := [] } (xs.length + 1) τ H (blkK 0 (seqK (run (z4 fuel) 0 (xs.length + 1) (C.seq (C.reg false [{ d := some 22, g := none, i := I.mv (S.t 3) }, { d := some 2, g := none, i := I.mv (S.t 22) }]) C.ret)) (endR zaj (.list (Kd.list (Kd.list I6))) false)))
          | none => none) else none := by kernel_rfl
    rw [hpre, if_pos ⟨Nat.le_refl _, by show xs.length < 4294967296; omega⟩]
    have hg0 := gc_fill (e := (Kd.list (Kd.list I6))) (X := (Kd.list (Kd.list I6))) (zs := [SV.nils]) ⟨rfl, fun _ => rfl⟩ (xs := xs) (ys := []) (m := xs.length) (t := 51) (n := 0) (by simp [explL])
    have hg' : gc 0 [(4, .int .i64 (0 : Int)), (0, .es (Kd.list (Kd.list I6)) xs), (3, .own 0)] [.cells ((List.replicate xs.length [SV.nils]).flatten) 51 1] = some ([(4, .int .i64 (0 : Int)), (0, .es (Kd.list (Kd.list I6)) xs), (3, .own 0)], fillH (Kd.list (Kd.list I6)) [SV.nils] [] xs.length 0) := hg0
    rw [hg']
    refine Eq.trans hloop ?_
    show (endR zaj (.list (Kd.list (Kd.list I6))) false) .ret ((2, Tm.get ((22, Tm.get τ 3) :: τ) 22) :: (22, Tm.get τ 3) :: τ) (fillH (Kd.list (Kd.list I6)) [SV.nils] y 0 0) = some y
    have e : evalRes ((2, Tm.get ((22, Tm.get τ 3) :: τ) 22) :: (22, Tm.get τ 3) :: τ) (fillH (Kd.list (Kd.list I6)) [SV.nils] y 0 0) zaj = some [.own 0] := by
      show some [Tm.get τ 3] = _
      rw [h3]
    unfold endR
    simp only [e, cellsOf]
    rw [zbC (e := (Kd.list (Kd.list I6))) (xs := y) (t := 0) (by decide) (by simp [fillH]) (fun j hj => by rw [Nat.add_comm, List.getElem?_cons_succ])]
    simp only [zag, cond_true]
  · cases h
theorem zpz (fuel : Nat) : FnSpecR Try.prog 44 (zgv fuel) :=
  zN (T := z4 fuel) (c := bodyOf Try.f44) (fn := Try.f44) (TabOK.of (entCons (zjJ fuel) entNil) methNil) mixed (by kernel_rfl) (by kernel_rfl) zpx (by kernel_rfl) (Nat.le_of_ble_eq_true (by kernel_rfl)) (rv := zaj) (by kernel_rfl) (fun x y h => zpy fuel x y h)
theorem zpA (fuel : Nat) : EntryOK Try.prog 44 (zgv fuel).te := EntryOK.tr (zpz fuel) (isFn (fn := Try.f44) (by kernel_rfl) (by kernel_rfl) (by kernel_rfl))
def zjM (fuel : Nat) : Tab := Tab.of [(64, (zej fuel).te)] []
def zjN : List Norm := []
noncomputable def zjO : C := irOf Try.prog Try.f93 [] zjN []
theorem zpB : lightC Try.prog [] Try.f93.ntmps zjN [] 0 (bodyOf Try.f93) = some (zjO, 0) := by kernel_rfl
def zjP : List (Nat × Option (Nat × Bool)) := [(2, some (1, true))]
noncomputable def zjQ (fuel : Nat) : IE := inlIE 1 (zjM fuel) fuel zjO zjP
theorem zpC (fuel : Nat) : ISound Try.prog 93 (zjQ fuel) :=
  zgi (T := zjM fuel) (c := bodyOf Try.f93) (fn := Try.f93) (TabOK.of (entCons (zjJ fuel) entNil) (methNil)) mixed (by kernel_rfl) (by kernel_rfl) zpB (by kernel_rfl) (Nat.le_of_ble_eq_true (by kernel_rfl)) (rv := zjP) (by kernel_rfl) (isFn (fn := Try.f93) (by kernel_rfl) (by kernel_rfl) (by kernel_rfl))
def zjR (fuel : Nat) : Tab := Tab.of [(6, (zeh fuel).te)] []
def zjS : List Norm := []
noncomputable def zjT : C := irOf Try.prog Try.f94 [] zjS []
theorem zpD : lightC Try.prog [] Try.f94.ntmps zjS [] 0 (bodyOf Try.f94) = some (zjT, 0) := by kernel_rfl
def zjU : List (Nat × Option (Nat × Bool)) := [(2, some (1, true))]
noncomputable def zjV (fuel : Nat) : IE := inlIE 1 (zjR fuel) fuel zjT zjU
theorem zpE (fuel : Nat) : ISound Try.prog 94 (zjV fuel) :=
  zgi (T := zjR fuel) (c := bodyOf Try.f94) (fn := Try.f94) (TabOK.of (entCons (zjG fuel) entNil) (methNil)) mixed (by kernel_rfl) (by kernel_rfl) zpD (by kernel_rfl) (Nat.le_of_ble_eq_true (by kernel_rfl)) (rv := zjU) (by kernel_rfl) (isFn (fn := Try.f94) (by kernel_rfl) (by kernel_rfl) (by kernel_rfl))
def zjW (fuel : Nat) : Tab := Tab.of [] []
abbrev zgw : List Pm := [{ cs := [(I6, false), (I6, false)], ag := true }]
abbrev zjX : List Pm := [{ cs := [(I6, false), (I6, false)], ag := true }]
def zjY : List Norm := []
noncomputable def zjZ : C := irOf Try.prog Try.f105 [] zjY []
theorem zpF : lightC Try.prog [] Try.f105.ntmps zjY [] 0 (bodyOf Try.f105) = some (zjZ, 0) := by kernel_rfl
def zj0 : List (Nat × Option (Nat × Bool)) := [(2, some (2, true))]
def zpG (fuel : Nat) (x0 : Int) (x1 : Int) : Option ((Int × (Int × Unit)) × Unit) :=
 some (((x0, x1, ()), ()))
def zem (fuel : Nat) (x : ((Int × (Int × Unit)) × Unit)) : Option ((Int × (Int × Unit)) × Unit) := zpG fuel x.1.1 x.1.2.1
theorem zpH (fuel : Nat) (x : PsT zgw) : run (zjW fuel) 0 fuel zjZ (env0 (svPs zgw x) 0) [] (endF zj0 zjX) = zem fuel x := by kernel_rfl
def zgx (fuel : Nat) : TF := ⟨zgw, zjX, true, zem fuel⟩
theorem zpI (fuel : Nat) : FnSpec Try.prog 105 (zgx fuel) :=
  fn_spec (T := zjW fuel) (c := bodyOf Try.f105) (fn := Try.f105) (TabOK.of (entNil) (methNil)) mixed (by kernel_rfl) (by kernel_rfl) zpF (by kernel_rfl) (Nat.le_of_ble_eq_true (by kernel_rfl)) (rv := zj0) (by kernel_rfl) (zpH fuel)
theorem zpJ (fuel : Nat) : EntryOK Try.prog 105 (zgx fuel).te := EntryOK.tf rfl (zpI fuel) (isFn (fn := Try.f105) (by kernel_rfl) (by kernel_rfl) (by kernel_rfl))
abbrev zak := Option ((LP × Unit) × Unit)
def zbL (fuel : Nat) : Tab := Tab.of [(105, (zgx fuel).te)] []
abbrev zen : List Pm := [{ cs := [(Kd.list KP, false)], ag := false }]
abbrev zbM : List Pm := [{ cs := [(Kd.list KP, true)], ag := false }]
def zj1 : List Norm := [{ live := [4, 0, 3], fix := [] }]
noncomputable def zbN : C := irOf Try.prog Try.f101 [] zj1 []
theorem zpK : lightC Try.prog [] Try.f101.ntmps zj1 [] 0 (bodyOf Try.f101) = some (zbN, 1) := by kernel_rfl
def zbO : List (Nat × Option (Nat × Bool)) := [(2, none)]
abbrev zaH := (Int) × LP × LP
def zj2 (v : zaH) : Env × Heap := ([(4, SV.int .i64 v.1), (0, SV.es KP v.2.1), (3, SV.own 0)], [Blk.arr KP v.2.2 0])
def zbP (fuel : Nat) (g0 : zaH → zak) (v : zaH) : zak :=
 cond (decide (v.1 < (zz (List.length v.2.1))))
 (tst (decide (0 ≤ v.1)) <|
 tst (decide (v.1 < (zz (List.length v.2.1)))) <|
 Option.bind (zem fuel (((List.getD v.2.1 (Int.toNat v.1) (0, (0, ()))).1, (List.getD v.2.1 (Int.toNat v.1) (0, (0, ()))).2.1, ()), ())) fun y_2 =>
 tst (decide (0 ≤ v.1)) <|
 tst (decide (v.1 < (zz (List.length v.2.2)))) <|
 tst (decide (Int.toNat v.1 < List.length v.2.2)) <|
 g0 (w64 (v.1 + (1 : Int)), v.2.1, List.set v.2.2 (Int.toNat v.1) (y_2.1.1, y_2.1.2.1, ())))
 (some (((v.2.2, ()), ())))
def zeo (fuel : Nat) (g0 : zaH → zak) : zaH → zak := zbP fuel g0
theorem zpL (fuel : Nat) (G) : zbN.lp (zbL fuel) 0 fuel G (endF zbO zbM) 0 zj2 = iter (zeo fuel) fuel := C.lp_iter fun g v => by kernel_rfl
def zep (fuel : Nat) (X0 : zaH → zak) (x0 : LP) : zak :=
 tst (decide (0 ≤ (zz (List.length x0)))) <|
 tst (decide ((zz (List.length x0)) ≤ (zz (List.length x0)))) <|
 tst (decide (Int.toNat (zz (List.length x0)) < LIM)) <|
 X0 ((0 : Int), x0, List.replicate (Int.toNat (zz (List.length x0))) (0, (0, ())))
def zeq (fuel : Nat) (x : ((LP × Unit) × Unit)) : zak := zep fuel (iter (zeo fuel) fuel) x.1.1
theorem zpM (fuel : Nat) (x : PsT zen) : run (zbL fuel) 0 fuel zbN (env0 (svPs zen x) 0) [] (endF zbO zbM) = zeq fuel x :=
  (show run (zbL fuel) 0 fuel zbN (env0 (svPs zen x) 0) [] (endF zbO zbM) = zep fuel (zbN.lp (zbL fuel) 0 fuel (fun _ _ _ => none) (endF zbO zbM) 0 zj2) x.1.1 by kernel_rfl).trans (by rw [zpL]; rfl)
def zgy (fuel : Nat) : TF := ⟨zen, zbM, true, zeq fuel⟩
theorem zpN (fuel : Nat) : FnSpec Try.prog 101 (zgy fuel) :=
  fn_spec (T := zbL fuel) (c := bodyOf Try.f101) (fn := Try.f101) (TabOK.of (entCons (zpJ fuel) entNil) (methNil)) mixed (by kernel_rfl) (by kernel_rfl) zpK (by kernel_rfl) (Nat.le_of_ble_eq_true (by kernel_rfl)) (rv := zbO) (by kernel_rfl) (zpM fuel)
theorem zpO (fuel : Nat) : EntryOK Try.prog 101 (zgy fuel).te := EntryOK.tf rfl (zpN fuel) (isFn (fn := Try.f101) (by kernel_rfl) (by kernel_rfl) (by kernel_rfl))
def zj3 (fuel : Nat) : Tab := Tab.of [(101, (zgy fuel).te)] []
def zj4 : List Norm := []
noncomputable def zj5 : C := irOf Try.prog Try.f95 [] zj4 []
theorem zpP : lightC Try.prog [] Try.f95.ntmps zj4 [] 0 (bodyOf Try.f95) = some (zj5, 0) := by kernel_rfl
def zj6 : List (Nat × Option (Nat × Bool)) := [(2, some (3, true))]
noncomputable def zj7 (fuel : Nat) : IE := inlIE 1 (zj3 fuel) fuel zj5 zj6
theorem zpQ (fuel : Nat) : ISound Try.prog 95 (zj7 fuel) :=
  zgi (T := zj3 fuel) (c := bodyOf Try.f95) (fn := Try.f95) (TabOK.of (entCons (zpO fuel) entNil) (methNil)) mixed (by kernel_rfl) (by kernel_rfl) zpP (by kernel_rfl) (Nat.le_of_ble_eq_true (by kernel_rfl)) (rv := zj6) (by kernel_rfl) (isFn (fn := Try.f95) (by kernel_rfl) (by kernel_rfl) (by kernel_rfl))
def zj8 (fuel : Nat) : Tab := Tab.of [] []
abbrev zgz : List Pm := [{ cs := [(I6, false), (I6, false)], ag := true }]
abbrev zj9 : List Pm := [{ cs := [(I6, false), (I6, false)], ag := true }]
def zka : List Norm := []
noncomputable def zkb : C := irOf Try.prog Try.f106 [] zka []
theorem zpR : lightC Try.prog [] Try.f106.ntmps zka [] 0 (bodyOf Try.f106) = some (zkb, 0) := by kernel_rfl
def zkc : List (Nat × Option (Nat × Bool)) := [(2, some (2, true))]
def zpS (fuel : Nat) (x0 : Int) (x1 : Int) : Option ((Int × (Int × Unit)) × Unit) :=
 some (((x0, x1, ()), ()))
def zer (fuel : Nat) (x : ((Int × (Int × Unit)) × Unit)) : Option ((Int × (Int × Unit)) × Unit) := zpS fuel x.1.1 x.1.2.1
theorem zpT (fuel : Nat) (x : PsT zgz) : run (zj8 fuel) 0 fuel zkb (env0 (svPs zgz x) 0) [] (endF zkc zj9) = zer fuel x := by kernel_rfl
def zgA (fuel : Nat) : TF := ⟨zgz, zj9, true, zer fuel⟩
theorem zpU (fuel : Nat) : FnSpec Try.prog 106 (zgA fuel) :=
  fn_spec (T := zj8 fuel) (c := bodyOf Try.f106) (fn := Try.f106) (TabOK.of (entNil) (methNil)) mixed (by kernel_rfl) (by kernel_rfl) zpR (by kernel_rfl) (Nat.le_of_ble_eq_true (by kernel_rfl)) (rv := zkc) (by kernel_rfl) (zpT fuel)
theorem zpV (fuel : Nat) : EntryOK Try.prog 106 (zgA fuel).te := EntryOK.tf rfl (zpU fuel) (isFn (fn := Try.f106) (by kernel_rfl) (by kernel_rfl) (by kernel_rfl))
abbrev zal := Option ((LP × Unit) × Unit)
def zbQ (fuel : Nat) : Tab := Tab.of [(106, (zgA fuel).te)] []
abbrev zes : List Pm := [{ cs := [(Kd.list KP, false)], ag := false }]
abbrev zbR : List Pm := [{ cs := [(Kd.list KP, true)], ag := false }]
def zkd : List Norm := [{ live := [4, 0, 3], fix := [] }]
noncomputable def zbS : C := irOf Try.prog Try.f102 [] zkd []
theorem zpW : lightC Try.prog [] Try.f102.ntmps zkd [] 0 (bodyOf Try.f102) = some (zbS, 1) := by kernel_rfl
def zbT : List (Nat × Option (Nat × Bool)) := [(2, none)]
abbrev zaI := (Int) × LP × LP
def zke (v : zaI) : Env × Heap := ([(4, SV.int .i64 v.1), (0, SV.es KP v.2.1), (3, SV.own 0)], [Blk.arr KP v.2.2 0])
def zbU (fuel : Nat) (g0 : zaI → zal) (v : zaI) : zal :=
 cond (decide (v.1 < (zz (List.length v.2.1))))
 (tst (decide (0 ≤ v.1)) <|
 tst (decide (v.1 < (zz (List.length v.2.1)))) <|
 Option.bind (zer fuel (((List.getD v.2.1 (Int.toNat v.1) (0, (0, ()))).1, (List.getD v.2.1 (Int.toNat v.1) (0, (0, ()))).2.1, ()), ())) fun y_2 =>
 tst (decide (0 ≤ v.1)) <|
 tst (decide (v.1 < (zz (List.length v.2.2)))) <|
 tst (decide (Int.toNat v.1 < List.length v.2.2)) <|
 g0 (w64 (v.1 + (1 : Int)), v.2.1, List.set v.2.2 (Int.toNat v.1) (y_2.1.1, y_2.1.2.1, ())))
 (some (((v.2.2, ()), ())))
def zet (fuel : Nat) (g0 : zaI → zal) : zaI → zal := zbU fuel g0
theorem zpX (fuel : Nat) (G) : zbS.lp (zbQ fuel) 0 fuel G (endF zbT zbR) 0 zke = iter (zet fuel) fuel := C.lp_iter fun g v => by kernel_rfl
def zeu (fuel : Nat) (X0 : zaI → zal) (x0 : LP) : zal :=
 tst (decide (0 ≤ (zz (List.length x0)))) <|
 tst (decide ((zz (List.length x0)) ≤ (zz (List.length x0)))) <|
 tst (decide (Int.toNat (zz (List.length x0)) < LIM)) <|
 X0 ((0 : Int), x0, List.replicate (Int.toNat (zz (List.length x0))) (0, (0, ())))
def zev (fuel : Nat) (x : ((LP × Unit) × Unit)) : zal := zeu fuel (iter (zet fuel) fuel) x.1.1
theorem zpY (fuel : Nat) (x : PsT zes) : run (zbQ fuel) 0 fuel zbS (env0 (svPs zes x) 0) [] (endF zbT zbR) = zev fuel x :=
  (show run (zbQ fuel) 0 fuel zbS (env0 (svPs zes x) 0) [] (endF zbT zbR) = zeu fuel (zbS.lp (zbQ fuel) 0 fuel (fun _ _ _ => none) (endF zbT zbR) 0 zke) x.1.1 by kernel_rfl).trans (by rw [zpX]; rfl)
def zgB (fuel : Nat) : TF := ⟨zes, zbR, true, zev fuel⟩
theorem zpZ (fuel : Nat) : FnSpec Try.prog 102 (zgB fuel) :=
  fn_spec (T := zbQ fuel) (c := bodyOf Try.f102) (fn := Try.f102) (TabOK.of (entCons (zpV fuel) entNil) (methNil)) mixed (by kernel_rfl) (by kernel_rfl) zpW (by kernel_rfl) (Nat.le_of_ble_eq_true (by kernel_rfl)) (rv := zbT) (by kernel_rfl) (zpY fuel)
theorem zp0 (fuel : Nat) : EntryOK Try.prog 102 (zgB fuel).te := EntryOK.tf rfl (zpZ fuel) (isFn (fn := Try.f102) (by kernel_rfl) (by kernel_rfl) (by kernel_rfl))
def zkf (fuel : Nat) : Tab := Tab.of [(102, (zgB fuel).te)] []
def zkg : List Norm := []
noncomputable def zkh : C := irOf Try.prog Try.f96 [] zkg []
theorem zp1 : lightC Try.prog [] Try.f96.ntmps zkg [] 0 (bodyOf Try.f96) = some (zkh, 0) := by kernel_rfl
def zki : List (Nat × Option (Nat × Bool)) := [(2, some (2, true))]
noncomputable def zkj (fuel : Nat) : IE := inlIE 1 (zkf fuel) fuel zkh zki
theorem zp2 (fuel : Nat) : ISound Try.prog 96 (zkj fuel) :=
  zgi (T := zkf fuel) (c := bodyOf Try.f96) (fn := Try.f96) (TabOK.of (entCons (zp0 fuel) entNil) (methNil)) mixed (by kernel_rfl) (by kernel_rfl) zp1 (by kernel_rfl) (Nat.le_of_ble_eq_true (by kernel_rfl)) (rv := zki) (by kernel_rfl) (isFn (fn := Try.f96) (by kernel_rfl) (by kernel_rfl) (by kernel_rfl))
noncomputable def zkk (fuel : Nat) : Tab := Tab.ofI [] [] [(93, zjQ fuel), (94, zjV fuel), (95, zj7 fuel), (96, zkj fuel)]
abbrev zgC : Sh := (.agg (.cell (Kd.list (Kd.list I6)) 0 (.cell (Kd.list I6) 0 (.cell (Kd.list KP) 0 (.cell I6 0 (.cell I6 0 (.cell (Kd.list KP) 0 (.cell I6 0 .nil))))))) .nil)
def zkl : List Norm := []
noncomputable def zkm : C := irOf Try.prog Try.f84 [6, 10, 14, 18] zkl []
theorem zp3 : lightC Try.prog [6, 10, 14, 18] Try.f84.ntmps zkl [] 0 (bodyOf Try.f84) = some (zkm, 0) := by kernel_rfl
def zkn : List (Nat × Option (Nat × Bool)) := [(2, some (7, true))]
def zgD (fuel : Nat) (x0 : List (List Int)) (x1 : List Int) (x2 : LP) (x3 : Int) (x4 : Int) (x5 : LP) (x6 : Int) : Option (((List (List Int)) × Unit) × (((List Int) × Unit) × ((LP × (Int × (Int × Unit))) × ((LP × (Int × Unit)) × Unit)))) :=
 Option.bind (zZ fuel (x0, ())) fun y_1 =>
 Option.bind (zaF fuel ((x1, ()), ())) fun y_2 =>
 Option.bind (zeq fuel ((x2, ()), ())) fun y_3 =>
 Option.bind (zev fuel ((x5, ()), ())) fun y_4 =>
 some (((y_1, ()), (y_2.1.1, ()), (y_3.1.1, x3, x4, ()), (y_4.1.1, x6, ()), ()))
def zew (fuel : Nat) (x : (SumY × Unit)) : Option (((List (List Int)) × Unit) × (((List Int) × Unit) × ((LP × (Int × (Int × Unit))) × ((LP × (Int × Unit)) × Unit)))) := zgD fuel x.1.1 x.1.2.1 x.1.2.2.1 x.1.2.2.2.1 x.1.2.2.2.2.1 x.1.2.2.2.2.2.1 x.1.2.2.2.2.2.2.1
theorem zp4 (fuel : Nat) (x : Sh.T zgC) : run (zkk fuel) 0 fuel zkm (env0 (svS zgC x) 0) [] (endR zkn (Kd.pair (Kd.pair (Kd.list (Kd.list I6)) Kd.unit) (Kd.pair (Kd.pair (Kd.list I6) Kd.unit) (Kd.pair (Kd.pair (Kd.list KP) KP) (Kd.pair (Kd.pair (Kd.list KP) (Kd.pair I6 Kd.unit)) Kd.unit)))) true) = zew fuel x := by kernel_rfl
def zgE (fuel : Nat) : TR := ⟨zgC, (Kd.pair (Kd.pair (Kd.list (Kd.list I6)) Kd.unit) (Kd.pair (Kd.pair (Kd.list I6) Kd.unit) (Kd.pair (Kd.pair (Kd.list KP) KP) (Kd.pair (Kd.pair (Kd.list KP) (Kd.pair I6 Kd.unit)) Kd.unit)))), true, zew fuel⟩
theorem zp5 (fuel : Nat) : FnSpecR Try.prog 84 (zgE fuel) :=
  zN (T := zkk fuel) (c := bodyOf Try.f84) (fn := Try.f84) (TabOK.ofI (entNil) (methNil) (inlCons (zpC fuel) (inlCons (zpE fuel) (inlCons (zpQ fuel) (inlCons (zp2 fuel) (inlNil)))))) mixed (by kernel_rfl) (by kernel_rfl) zp3 (by kernel_rfl) (Nat.le_of_ble_eq_true (by kernel_rfl)) (rv := zkn) (by kernel_rfl) (fun x y h => ⟨fuel, (zp4 fuel x).trans h⟩)
theorem zp6 (fuel : Nat) : EntryOK Try.prog 84 (zgE fuel).te := EntryOK.tr (zp5 fuel) (isFn (fn := Try.f84) (by kernel_rfl) (by kernel_rfl) (by kernel_rfl))
def zko (fuel : Nat) : Tab := Tab.of [(84, (zgE fuel).te)] []
abbrev zgF : Sh := (.agg (.cell I6 0 (.cell I6 0 (.cell I6 0 (.cell (Kd.list (Kd.list I6)) 0 (.cell (Kd.list I6) 0 (.cell (Kd.list KP) 0 (.cell I6 0 (.cell I6 0 (.cell (Kd.list KP) 0 (.cell I6 0 .nil)))))))))) .nil)
def zkp : List Norm := []
noncomputable def zkq : C := irOf Try.prog Try.f81 [] zkp []
theorem zp7 : lightC Try.prog [] Try.f81.ntmps zkp [] 0 (bodyOf Try.f81) = some (zkq, 0) := by kernel_rfl
def zkr : List (Nat × Option (Nat × Bool)) := [(2, some (10, true))]
def zgG (fuel : Nat) (x0 : Int) (x1 : Int) (x2 : Int) (x3 : List (List Int)) (x4 : List Int) (x5 : LP) (x6 : Int) (x7 : Int) (x8 : LP) (x9 : Int) : Option (Int × (Int × (Int × ((((List (List Int)) × Unit) × (((List Int) × Unit) × ((LP × (Int × (Int × Unit))) × ((LP × (Int × Unit)) × Unit)))) × Unit)))) :=
 Option.bind (zew fuel ((x3, x4, x5, x6, x7, x8, x9, ()), ())) fun y_1 =>
 some ((x0, x1, x2, ((y_1.1.1, ()), (y_1.2.1.1, ()), (y_1.2.2.1.1, y_1.2.2.1.2.1, y_1.2.2.1.2.2.1, ()), (y_1.2.2.2.1.1, y_1.2.2.2.1.2.1, ()), ()), ()))
def zbV (fuel : Nat) (x : ((Int × (Int × (Int × SumY))) × Unit)) : Option (Int × (Int × (Int × ((((List (List Int)) × Unit) × (((List Int) × Unit) × ((LP × (Int × (Int × Unit))) × ((LP × (Int × Unit)) × Unit)))) × Unit)))) := zgG fuel x.1.1 x.1.2.1 x.1.2.2.1 x.1.2.2.2.1 x.1.2.2.2.2.1 x.1.2.2.2.2.2.1 x.1.2.2.2.2.2.2.1 x.1.2.2.2.2.2.2.2.1 x.1.2.2.2.2.2.2.2.2.1 x.1.2.2.2.2.2.2.2.2.2.1
theorem zp8 (fuel : Nat) (x : Sh.T zgF) : run (zko fuel) 0 fuel zkq (env0 (svS zgF x) 0) [] (endR zkr (Kd.pair I6 (Kd.pair I6 (Kd.pair I6 (Kd.pair (Kd.pair (Kd.pair (Kd.list (Kd.list I6)) Kd.unit) (Kd.pair (Kd.pair (Kd.list I6) Kd.unit) (Kd.pair (Kd.pair (Kd.list KP) KP) (Kd.pair (Kd.pair (Kd.list KP) (Kd.pair I6 Kd.unit)) Kd.unit)))) Kd.unit)))) true) = zbV fuel x := by kernel_rfl
def zgH (fuel : Nat) : TR := ⟨zgF, (Kd.pair I6 (Kd.pair I6 (Kd.pair I6 (Kd.pair (Kd.pair (Kd.pair (Kd.list (Kd.list I6)) Kd.unit) (Kd.pair (Kd.pair (Kd.list I6) Kd.unit) (Kd.pair (Kd.pair (Kd.list KP) KP) (Kd.pair (Kd.pair (Kd.list KP) (Kd.pair I6 Kd.unit)) Kd.unit)))) Kd.unit)))), true, zbV fuel⟩
theorem zp9 (fuel : Nat) : FnSpecR Try.prog 81 (zgH fuel) :=
  zN (T := zko fuel) (c := bodyOf Try.f81) (fn := Try.f81) (TabOK.of (entCons (zp6 fuel) entNil) (methNil)) mixed (by kernel_rfl) (by kernel_rfl) zp7 (by kernel_rfl) (Nat.le_of_ble_eq_true (by kernel_rfl)) (rv := zkr) (by kernel_rfl) (fun x y h => ⟨fuel, (zp8 fuel x).trans h⟩)
theorem zqa (fuel : Nat) : EntryOK Try.prog 81 (zgH fuel).te := EntryOK.tr (zp9 fuel) (isFn (fn := Try.f81) (by kernel_rfl) (by kernel_rfl) (by kernel_rfl))
def z5 (fuel : Nat) : Tab := Tab.of [(81, (zgH fuel).te)] []
def zqb : List Norm := [{ live := [4, 0, 3], fix := [] }]
abbrev zex : C := (C.seq (C.seq (C.reg false [{ d := some 8, g := none, i := I.mv (S.t 4) }, { d := some 9, g := none, i := I.mv (S.t 0) }, { d := some 10, g := none, i := I.len (S.t 9) }, { d := some 11, g := none, i := I.bin BinOp.lss (S.t 8) (S.t 10) }]) (C.cnd (S.t 11) C.skip (C.exit 0))) (C.seq (C.blk 1 (C.reg false [{ d := some 14, g := none, i := I.mv (S.t 3) }, { d := some 15, g := none, i := I.mv (S.t 4) }, { d := some 16, g := none, i := I.mv (S.t 0) }, { d := some 17, g := none, i := I.mv (S.t 4) }, { d := some 18, g := none, i := I.ia 10 (S.t 16) (S.t 17) }, { d := some 19, g := none, i := I.ld 10 true (S.t 18) }, { d := some 20, g := none, i := I.call 81 [S.t 19] }, { d := some 21, g := none, i := I.ia 10 (S.t 14) (S.t 15) }, { d := none, g := none, i := I.st 10 (S.t 21) (S.t 20) }])) (C.reg false [{ d := some 12, g := none, i := I.mv (S.t 4) }, { d := some 13, g := none, i := I.bin BinOp.add (S.t 12) (S.c (SV.int .i64 (Int.ofNat 1))) }, { d := some 4, g := none, i := I.mv (S.t 13) }])))
def zgI : C := C.seq (C.reg false [{ d := some 2, g := none, i := I.mv (S.c SV.nils) }]) (C.seq (C.reg false [{ d := some 5, g := none, i := I.mv (S.t 0) }, { d := some 6, g := none, i := I.len (S.t 5) }, { d := some 7, g := none, i := I.mk none [SV.int .i64 (Int.ofNat 0), SV.int .i64 (Int.ofNat 0), SV.int .i64 (Int.ofNat 0), SV.nils, SV.nils, SV.nils, SV.int .i64 (Int.ofNat 0), SV.int .i64 (Int.ofNat 0), SV.nils, SV.int .i64 (Int.ofNat 0)] 92 (S.t 6) (some (S.t 6)) }, { d := some 3, g := none, i := I.mv (S.t 7) }]) (C.seq (C.seq (C.reg false [{ d := some 4, g := none, i := I.mv (S.c (SV.int .i64 (Int.ofNat 0))) }]) (C.blk 0 (C.loop { live := [4, 0, 3], fix := [] } zex))) (C.seq (C.reg false [{ d := some 22, g := none, i := I.mv (S.t 3) }, { d := some 2, g := none, i := I.mv (S.t 22) }]) C.ret)))
theorem zqc : lightC Try.prog [7] Try.f78.ntmps zqb [] 0 (bodyOf Try.f78) = some (zgI, 1) := by kernel_rfl
def zam : List (Nat × Option (Nat × Bool)) := [(2, none)]
abbrev zgJ : Sh := .cell (.list KE) 0 .nil
def zey (fuel : Nat) (x : Kd.T KE) : Option (Kd.T KE) := (zbV fuel ((x.1, x.2.1, x.2.2.1, x.2.2.2.1.1.1, x.2.2.2.1.2.1.1, x.2.2.2.1.2.2.1.1, x.2.2.2.1.2.2.1.2.1, x.2.2.2.1.2.2.1.2.2.1, x.2.2.2.1.2.2.2.1.1, x.2.2.2.1.2.2.2.1.2.1, ()), ()))
def zan (fuel : Nat) (x : List (Kd.T KE) × Unit) : Option (List (Kd.T KE)) := if x.1.length ≤ 1048576 then mapO (zey fuel) x.1 else none
def zez (fuel : Nat) : TR := ⟨zgJ, .list KE, false, zan fuel⟩
theorem zks (fuel f2 : Nat) (R : Type) (i : Int) (xs : List (Kd.T KE)) (cs : List SV) (Rs : Heap) (K : Ex → Env → Heap → Option R) :
    run (z5 fuel) 0 f2 zex [(4, .int .i64 i), (0, .es KE xs), (3, .own 0)] (.cells cs 0 10 :: Rs) K =
    cond (decide (i < (zz xs.length)))
      (tst (decide (0 ≤ i)) <| tst (decide (i < (zz xs.length))) <| Option.bind (zbV fuel (((xs.getD i.toNat (Kd.dflt KE)).1, (xs.getD i.toNat (Kd.dflt KE)).2.1, (xs.getD i.toNat (Kd.dflt KE)).2.2.1, (xs.getD i.toNat (Kd.dflt KE)).2.2.2.1.1.1, (xs.getD i.toNat (Kd.dflt KE)).2.2.2.1.2.1.1, (xs.getD i.toNat (Kd.dflt KE)).2.2.2.1.2.2.1.1, (xs.getD i.toNat (Kd.dflt KE)).2.2.2.1.2.2.1.2.1, (xs.getD i.toNat (Kd.dflt KE)).2.2.2.1.2.2.1.2.2.1, (xs.getD i.toNat (Kd.dflt KE)).2.2.2.1.2.2.2.1.1, (xs.getD i.toNat (Kd.dflt KE)).2.2.2.1.2.2.2.1.2.1, ()), ())) fun y =>
        tst (decide (0 ≤ i)) <| tst (decide (i < (zz (cs.length / 10)))) <| if i.toNat * 10 + 10 ≤ cs.length ∧ (expl KE y (Rs.length + 1)).1.all SV.oneB = true then
          K .normal [(4, .int .i64 (w64 (i + 1))), (13, .int .i64 (w64 (i + 1))), (12, .int .i64 i), (21, .ptr 0 (i.toNat * 10)), (20, .agg (expl KE y (Rs.length + 1)).1), (19, .agg (enc KE (xs.getD i.toNat (Kd.dflt KE)))), (18, .eptr KE (xs.getD i.toNat (Kd.dflt KE)) 0), (17, .int .i64 i), (16, .es KE xs), (15, .int .i64 i), (14, .own 0), (11, .bool (decide (i < (zz xs.length)))), (10, .int .i64 (zz xs.length)), (9, .es KE xs), (8, .int .i64 i), (4, .int .i64 i), (0, .es KE xs), (3, .own 0)] (.cells (setCells cs (i.toNat * 10) (expl KE y (Rs.length + 1)).1) 0 10 :: (Rs ++ (expl KE y (Rs.length + 1)).2))
        else none)
      (K (.exit 0) [(11, .bool (decide (i < (zz xs.length)))), (10, .int .i64 (zz xs.length)), (9, .es KE xs), (8, .int .i64 i), (4, .int .i64 i), (0, .es KE xs), (3, .own 0)] (.cells cs 0 10 :: Rs)) := by
  kernel_rfl
theorem zkt : ∀ (ys : List (Kd.T KE)) (k : Nat), (explL KE ys k).2.length = ys.length * 4
  | [], _ => rfl
  | y :: ys, k => by
    have e : (expl KE y k).2.length = 4 := rfl
    simp only [explL, List.length_append, zkt ys, e, List.length_cons]; omega
theorem zqd (fuel : Nat) (x : List (Kd.T KE) × Unit) (y : List (Kd.T KE)) (h : zan fuel x = some y) : ∃ f2, run (z5 fuel) 0 f2 zgI (env0 (svS zgJ x) 0) [] (endR zam (.list KE) false) = some y := by
  obtain ⟨xs, u⟩ := x
  unfold zan at h
  split at h
  · rename_i hl
    have hl : xs.length ≤ 1048576 := hl
    obtain ⟨hlen, hg⟩ := zbE h
    refine ⟨xs.length + 1, ?_⟩
    have hn := zkt y 1
    obtain ⟨τ, h3, hloop⟩ := zbD (T := z5 fuel) (f2 := xs.length + 1) (e := KE) (X := KE) (zs := [SV.int .i64 (Int.ofNat 0), SV.int .i64 (Int.ofNat 0), SV.int .i64 (Int.ofNat 0), SV.nils, SV.nils, SV.nils, SV.int .i64 (Int.ofNat 0), SV.int .i64 (Int.ofNat 0), SV.nils, SV.int .i64 (Int.ofNat 0)]) ⟨rfl, fun _ => rfl⟩ rfl zex xs (zey fuel) y hg hlen (by omega) (blkK 0 (seqK (run (z5 fuel) 0 (xs.length + 1) (C.seq (C.reg false [{ d := some 22, g := none, i := I.mv (S.t 3) }, { d := some 2, g := none, i := I.mv (S.t 22) }]) C.ret)) (endR zam (.list KE) false)))
      (fun i x y cs Rs K hx hy hc => by
        have hlt : i < xs.length := (List.getElem?_eq_some_iff.1 hx).1
        have h1 : decide ((i : Int) < zz xs.length) = true := by rw [zz_cast]; simp; omega
        have h2 : decide ((0 : Int) ≤ (i : Int)) = true := by simp
        have hgd : xs.getD i (Kd.dflt KE) = x := by rw [List.getD_eq_getElem?_getD, hx]; rfl
        have hc : cs.length = xs.length * 10 := hc
        have hcl : cs.length / 10 = xs.length := by rw [hc]; exact Nat.mul_div_cancel _ (by decide)
        have h4 : decide ((i : Int) < zz (cs.length / 10)) = true := by rw [hcl]; exact h1
        have hle : (i + 1) * 10 ≤ xs.length * 10 := Nat.mul_le_mul_right _ hlt
        have hy' := hy
        unfold zey at hy'
        have hr := zks fuel (xs.length + 1) _ (i : Int) xs cs Rs K
        rw [h1, cond_true, h2, h4] at hr
        simp only [cond_true, Int.toNat_natCast, hgd] at hr
        rw [hy', Option.bind_some, if_pos ⟨by omega, rfl⟩] at hr
        have hw : w64 ((i : Int) + 1) = ((i + 1 : Nat) : Int) := w64_up2 (by omega)
        rw [hw] at hr
        exact ⟨_, rfl, hr⟩)
      (fun cs Rs K => by
        have h1 : decide ((xs.length : Int) < zz xs.length) = false := by rw [zz_cast]; simp
        have hr := zks fuel (xs.length + 1) _ (xs.length : Int) xs cs Rs K
        rw [h1, cond_false] at hr
        exact ⟨_, rfl, hr⟩)
      xs.length 0 (by omega)
    have hpre : run (z5 fuel) 0 (xs.length + 1) zgI (env0 (svS zgJ (xs, u)) 0) [] (endR zam (.list KE) false) =
        if xs.length ≤ xs.length ∧ xs.length < LIM then (match gc 0 [(4, .int .i64 (0 : Int)), (0, .es KE xs), (3, .own 0)] [.cells ((List.replicate xs.length [SV.int .i64 (Int.ofNat 0), SV.int .i64 (Int.ofNat 0), SV.int .i64 (Int.ofNat 0), SV.nils, SV.nils, SV.nils, SV.int .i64 (Int.ofNat 0), SV.int .i64 (Int.ofNat 0), SV.nils, SV.int .i64 (Int.ofNat 0)]).flatten) 92 10] with
          | some (τ, H) => loopN (run (z5 fuel) 0 (xs.length + 1) zex) 0 { live := [4, 0, 3], fix := [] } (xs.length + 1) τ H (blkK 0 (seqK (run (z5 fuel) 0 (xs.length + 1) (C.seq (C.reg false [{ d := some 22, g := none, i := I.mv (S.t 3) }, { d := some 2, g := none, i := I.mv (S.t 22) }]) C.ret)) (endR zam (.list KE) false)))
          | none => none) else none := by kernel_rfl
    rw [hpre, if_pos ⟨Nat.le_refl _, by show xs.length < 4294967296; omega⟩]
    have hg0 := gc_fill (e := KE) (X := KE) (zs := [SV.int .i64 (Int.ofNat 0), SV.int .i64 (Int.ofNat 0), SV.int .i64 (Int.ofNat 0), SV.nils, SV.nils, SV.nils, SV.int .i64 (Int.ofNat 0), SV.int .i64 (Int.ofNat 0), SV.nils, SV.int .i64 (Int.ofNat 0)]) ⟨rfl, fun _ => rfl⟩ (xs := xs) (ys := []) (m := xs.length) (t := 92) (n := 0) (by simp [explL])
    have hg' : gc 0 [(4, .int .i64 (0 : Int)), (0, .es KE xs), (3, .own 0)] [.cells ((List.replicate xs.length [SV.int .i64 (Int.ofNat 0), SV.int .i64 (Int.ofNat 0), SV.int .i64 (Int.ofNat 0), SV.nils, SV.nils, SV.nils, SV.int .i64 (Int.ofNat 0), SV.int .i64 (Int.ofNat 0), SV.nils, SV.int .i64 (Int.ofNat 0)]).flatten) 92 10] = some ([(4, .int .i64 (0 : Int)), (0, .es KE xs), (3, .own 0)], fillH KE [SV.int .i64 (Int.ofNat 0), SV.int .i64 (Int.ofNat 0), SV.int .i64 (Int.ofNat 0), SV.nils, SV.nils, SV.nils, SV.int .i64 (Int.ofNat 0), SV.int .i64 (Int.ofNat 0), SV.nils, SV.int .i64 (Int.ofNat 0)] [] xs.length 0) := hg0
    rw [hg']
    refine Eq.trans hloop ?_
    show (endR zam (.list KE) false) .ret ((2, Tm.get ((22, Tm.get τ 3) :: τ) 22) :: (22, Tm.get τ 3) :: τ) (fillH KE [SV.int .i64 (Int.ofNat 0), SV.int .i64 (Int.ofNat 0), SV.int .i64 (Int.ofNat 0), SV.nils, SV.nils, SV.nils, SV.int .i64 (Int.ofNat 0), SV.int .i64 (Int.ofNat 0), SV.nils, SV.int .i64 (Int.ofNat 0)] y 0 0) = some y
    have e : evalRes ((2, Tm.get ((22, Tm.get τ 3) :: τ) 22) :: (22, Tm.get τ 3) :: τ) (fillH KE [SV.int .i64 (Int.ofNat 0), SV.int .i64 (Int.ofNat 0), SV.int .i64 (Int.ofNat 0), SV.nils, SV.nils, SV.nils, SV.int .i64 (Int.ofNat 0), SV.int .i64 (Int.ofNat 0), SV.nils, SV.int .i64 (Int.ofNat 0)] y 0 0) zam = some [.own 0] := by
      show some [Tm.get τ 3] = _
      rw [h3]
    unfold endR
    simp only [e, cellsOf]
    rw [zbC (e := KE) (xs := y) (t := 0) (by decide) (by simp [fillH]) (fun j hj => by rw [Nat.add_comm, List.getElem?_cons_succ])]
    simp only [zag, cond_true]
  · cases h
theorem zqe (fuel : Nat) : FnSpecR Try.prog 78 (zez fuel) :=
  zN (T := z5 fuel) (c := bodyOf Try.f78) (fn := Try.f78) (TabOK.of (entCons (zqa fuel) entNil) methNil) mixed (by kernel_rfl) (by kernel_rfl) zqc (by kernel_rfl) (Nat.le_of_ble_eq_true (by kernel_rfl)) (rv := zam) (by kernel_rfl) (fun x y h => zqd fuel x y h)
theorem zku (fuel : Nat) : EntryOK Try.prog 78 (zez fuel).te := EntryOK.tr (zqe fuel) (isFn (fn := Try.f78) (by kernel_rfl) (by kernel_rfl) (by kernel_rfl))
def zkv (fuel : Nat) : Tab := Tab.of [(78, (zez fuel).te)] []
abbrev zgK : Sh := (.agg (.cell I6 0 (.cell (Kd.list (Kd.pair I6 (Kd.pair I6 (Kd.pair I6 (Kd.pair (Kd.pair (Kd.pair (Kd.list (Kd.list I6)) Kd.unit) (Kd.pair (Kd.pair (Kd.list I6) Kd.unit) (Kd.pair (Kd.pair (Kd.list KP) KP) (Kd.pair (Kd.pair (Kd.list KP) (Kd.pair I6 Kd.unit)) Kd.unit)))) Kd.unit))))) 0 (.cell I6 0 (.cell I6 0 (.cell I6 0 .nil))))) .nil)
def zkw : List Norm := []
noncomputable def zkx : C := irOf Try.prog Try.f62 [] zkw []
theorem zqf : lightC Try.prog [] Try.f62.ntmps zkw [] 0 (bodyOf Try.f62) = some (zkx, 0) := by kernel_rfl
def zky : List (Nat × Option (Nat × Bool)) := [(2, some (5, true))]
def zgL (fuel : Nat) (x0 : Int) (x1 : List (Int × Int × Int × ((List (List Int) × Unit) × (List Int × Unit) × (LP × Int × Int × Unit) × (LP × Int × Unit) × Unit) × Unit)) (x2 : Int) (x3 : Int) (x4 : Int) : Option (Int × ((List (Int × (Int × (Int × ((((List (List Int)) × Unit) × (((List Int) × Unit) × ((LP × (Int × (Int × Unit))) × ((LP × (Int × Unit)) × Unit)))) × Unit))))) × (Int × (Int × (Int × Unit))))) :=
 Option.bind (zan fuel (x1, ())) fun y_1 =>
 some ((x0, y_1, x2, x3, x4, ()))
def zbW (fuel : Nat) (x : ((Int × ((List (Int × (Int × (Int × ((((List (List Int)) × Unit) × (((List Int) × Unit) × ((LP × (Int × (Int × Unit))) × ((LP × (Int × Unit)) × Unit)))) × Unit))))) × (Int × (Int × (Int × Unit))))) × Unit)) : Option (Int × ((List (Int × (Int × (Int × ((((List (List Int)) × Unit) × (((List Int) × Unit) × ((LP × (Int × (Int × Unit))) × ((LP × (Int × Unit)) × Unit)))) × Unit))))) × (Int × (Int × (Int × Unit))))) := zgL fuel x.1.1 x.1.2.1 x.1.2.2.1 x.1.2.2.2.1 x.1.2.2.2.2.1
theorem zqg (fuel : Nat) (x : Sh.T zgK) : run (zkv fuel) 0 fuel zkx (env0 (svS zgK x) 0) [] (endR zky (Kd.pair I6 (Kd.pair (Kd.list (Kd.pair I6 (Kd.pair I6 (Kd.pair I6 (Kd.pair (Kd.pair (Kd.pair (Kd.list (Kd.list I6)) Kd.unit) (Kd.pair (Kd.pair (Kd.list I6) Kd.unit) (Kd.pair (Kd.pair (Kd.list KP) KP) (Kd.pair (Kd.pair (Kd.list KP) (Kd.pair I6 Kd.unit)) Kd.unit)))) Kd.unit))))) (Kd.pair I6 KP))) true) = zbW fuel x := by kernel_rfl
def zgM (fuel : Nat) : TR := ⟨zgK, (Kd.pair I6 (Kd.pair (Kd.list (Kd.pair I6 (Kd.pair I6 (Kd.pair I6 (Kd.pair (Kd.pair (Kd.pair (Kd.list (Kd.list I6)) Kd.unit) (Kd.pair (Kd.pair (Kd.list I6) Kd.unit) (Kd.pair (Kd.pair (Kd.list KP) KP) (Kd.pair (Kd.pair (Kd.list KP) (Kd.pair I6 Kd.unit)) Kd.unit)))) Kd.unit))))) (Kd.pair I6 KP))), true, zbW fuel⟩
theorem zqh (fuel : Nat) : FnSpecR Try.prog 62 (zgM fuel) :=
  zN (T := zkv fuel) (c := bodyOf Try.f62) (fn := Try.f62) (TabOK.of (entCons (zku fuel) entNil) (methNil)) mixed (by kernel_rfl) (by kernel_rfl) zqf (by kernel_rfl) (Nat.le_of_ble_eq_true (by kernel_rfl)) (rv := zky) (by kernel_rfl) (fun x y h => ⟨fuel, (zqg fuel x).trans h⟩)
theorem zqi (fuel : Nat) : EntryOK Try.prog 62 (zgM fuel).te := EntryOK.tr (zqh fuel) (isFn (fn := Try.f62) (by kernel_rfl) (by kernel_rfl) (by kernel_rfl))
def zkz (fuel : Nat) : Tab := Tab.of [(78, (zez fuel).te)] []
abbrev zgN : Sh := (.agg (.cell I6 0 (.cell I6 0 (.cell I6 0 (.cell I6 0 (.cell I6 0 (.cell (Kd.list (Kd.pair I6 (Kd.pair I6 (Kd.pair I6 (Kd.pair (Kd.pair (Kd.pair (Kd.list (Kd.list I6)) Kd.unit) (Kd.pair (Kd.pair (Kd.list I6) Kd.unit) (Kd.pair (Kd.pair (Kd.list KP) KP) (Kd.pair (Kd.pair (Kd.list KP) (Kd.pair I6 Kd.unit)) Kd.unit)))) Kd.unit))))) 0 .nil)))))) .nil)
def zkA : List Norm := []
noncomputable def zkB : C := irOf Try.prog Try.f63 [] zkA []
theorem zqj : lightC Try.prog [] Try.f63.ntmps zkA [] 0 (bodyOf Try.f63) = some (zkB, 0) := by kernel_rfl
def zkC : List (Nat × Option (Nat × Bool)) := [(2, some (6, true))]
def zgO (fuel : Nat) (x0 : Int) (x1 : Int) (x2 : Int) (x3 : Int) (x4 : Int) (x5 : List (Int × Int × Int × ((List (List Int) × Unit) × (List Int × Unit) × (LP × Int × Int × Unit) × (LP × Int × Unit) × Unit) × Unit)) : Option (Int × (Int × (Int × (Int × (Int × ((List (Int × (Int × (Int × ((((List (List Int)) × Unit) × (((List Int) × Unit) × ((LP × (Int × (Int × Unit))) × ((LP × (Int × Unit)) × Unit)))) × Unit))))) × Unit)))))) :=
 Option.bind (zan fuel (x5, ())) fun y_1 =>
 some ((x0, x1, x2, x3, x4, y_1, ()))
def zbX (fuel : Nat) (x : ((Int × (Int × (Int × (Int × (Int × ((List (Int × (Int × (Int × ((((List (List Int)) × Unit) × (((List Int) × Unit) × ((LP × (Int × (Int × Unit))) × ((LP × (Int × Unit)) × Unit)))) × Unit))))) × Unit)))))) × Unit)) : Option (Int × (Int × (Int × (Int × (Int × ((List (Int × (Int × (Int × ((((List (List Int)) × Unit) × (((List Int) × Unit) × ((LP × (Int × (Int × Unit))) × ((LP × (Int × Unit)) × Unit)))) × Unit))))) × Unit)))))) := zgO fuel x.1.1 x.1.2.1 x.1.2.2.1 x.1.2.2.2.1 x.1.2.2.2.2.1 x.1.2.2.2.2.2.1
theorem zqk (fuel : Nat) (x : Sh.T zgN) : run (zkz fuel) 0 fuel zkB (env0 (svS zgN x) 0) [] (endR zkC (Kd.pair I6 (Kd.pair I6 (Kd.pair I6 (Kd.pair I6 (Kd.pair I6 (Kd.pair (Kd.list (Kd.pair I6 (Kd.pair I6 (Kd.pair I6 (Kd.pair (Kd.pair (Kd.pair (Kd.list (Kd.list I6)) Kd.unit) (Kd.pair (Kd.pair (Kd.list I6) Kd.unit) (Kd.pair (Kd.pair (Kd.list KP) KP) (Kd.pair (Kd.pair (Kd.list KP) (Kd.pair I6 Kd.unit)) Kd.unit)))) Kd.unit))))) Kd.unit)))))) true) = zbX fuel x := by kernel_rfl
def zgP (fuel : Nat) : TR := ⟨zgN, (Kd.pair I6 (Kd.pair I6 (Kd.pair I6 (Kd.pair I6 (Kd.pair I6 (Kd.pair (Kd.list (Kd.pair I6 (Kd.pair I6 (Kd.pair I6 (Kd.pair (Kd.pair (Kd.pair (Kd.list (Kd.list I6)) Kd.unit) (Kd.pair (Kd.pair (Kd.list I6) Kd.unit) (Kd.pair (Kd.pair (Kd.list KP) KP) (Kd.pair (Kd.pair (Kd.list KP) (Kd.pair I6 Kd.unit)) Kd.unit)))) Kd.unit))))) Kd.unit)))))), true, zbX fuel⟩
theorem zql (fuel : Nat) : FnSpecR Try.prog 63 (zgP fuel) :=
  zN (T := zkz fuel) (c := bodyOf Try.f63) (fn := Try.f63) (TabOK.of (entCons (zku fuel) entNil) (methNil)) mixed (by kernel_rfl) (by kernel_rfl) zqj (by kernel_rfl) (Nat.le_of_ble_eq_true (by kernel_rfl)) (rv := zkC) (by kernel_rfl) (fun x y h => ⟨fuel, (zqk fuel x).trans h⟩)
theorem zqm (fuel : Nat) : EntryOK Try.prog 63 (zgP fuel).te := EntryOK.tr (zql fuel) (isFn (fn := Try.f63) (by kernel_rfl) (by kernel_rfl) (by kernel_rfl))
def z6 (fuel : Nat) : Tab := Tab.of [(62, (zgM fuel).te)] []
def zqn : List Norm := [{ live := [4, 0, 3], fix := [] }]
abbrev zeA : C := (C.seq (C.seq (C.reg false [{ d := some 8, g := none, i := I.mv (S.t 4) }, { d := some 9, g := none, i := I.mv (S.t 0) }, { d := some 10, g := none, i := I.len (S.t 9) }, { d := some 11, g := none, i := I.bin BinOp.lss (S.t 8) (S.t 10) }]) (C.cnd (S.t 11) C.skip (C.exit 0))) (C.seq (C.blk 1 (C.reg false [{ d := some 14, g := none, i := I.mv (S.t 3) }, { d := some 15, g := none, i := I.mv (S.t 4) }, { d := some 16, g := none, i := I.mv (S.t 0) }, { d := some 17, g := none, i := I.mv (S.t 4) }, { d := some 18, g := none, i := I.ia 5 (S.t 16) (S.t 17) }, { d := some 19, g := none, i := I.ld 5 true (S.t 18) }, { d := some 20, g := none, i := I.call 62 [S.t 19] }, { d := some 21, g := none, i := I.ia 5 (S.t 14) (S.t 15) }, { d := none, g := none, i := I.st 5 (S.t 21) (S.t 20) }])) (C.reg false [{ d := some 12, g := none, i := I.mv (S.t 4) }, { d := some 13, g := none, i := I.bin BinOp.add (S.t 12) (S.c (SV.int .i64 (Int.ofNat 1))) }, { d := some 4, g := none, i := I.mv (S.t 13) }])))
def zgQ : C := C.seq (C.reg false [{ d := some 2, g := none, i := I.mv (S.c SV.nils) }]) (C.seq (C.reg false [{ d := some 5, g := none, i := I.mv (S.t 0) }, { d := some 6, g := none, i := I.len (S.t 5) }, { d := some 7, g := none, i := I.mk none [SV.int .i64 (Int.ofNat 0), SV.nils, SV.int .i64 (Int.ofNat 0), SV.int .i64 (Int.ofNat 0), SV.int .i64 (Int.ofNat 0)] 49 (S.t 6) (some (S.t 6)) }, { d := some 3, g := none, i := I.mv (S.t 7) }]) (C.seq (C.seq (C.reg false [{ d := some 4, g := none, i := I.mv (S.c (SV.int .i64 (Int.ofNat 0))) }]) (C.blk 0 (C.loop { live := [4, 0, 3], fix := [] } zeA))) (C.seq (C.reg false [{ d := some 22, g := none, i := I.mv (S.t 3) }, { d := some 2, g := none, i := I.mv (S.t 22) }]) C.ret)))
theorem zqo : lightC Try.prog [7] Try.f41.ntmps zqn [] 0 (bodyOf Try.f41) = some (zgQ, 1) := by kernel_rfl
def zao : List (Nat × Option (Nat × Bool)) := [(2, none)]
abbrev zgR : Sh := .cell (.list KN) 0 .nil
def zeB (fuel : Nat) (x : Kd.T KN) : Option (Kd.T KN) := (zbW fuel ((x.1, x.2.1, x.2.2.1, x.2.2.2.1, x.2.2.2.2.1, ()), ()))
def zaJ (fuel : Nat) (x : List (Kd.T KN) × Unit) : Option (List (Kd.T KN)) := if x.1.length ≤ 1048576 then mapO (zeB fuel) x.1 else none
def zgS (fuel : Nat) : TR := ⟨zgR, .list KN, false, zaJ fuel⟩
theorem zkD (fuel f2 : Nat) (R : Type) (i : Int) (xs : List (Kd.T KN)) (cs : List SV) (Rs : Heap) (K : Ex → Env → Heap → Option R) :
    run (z6 fuel) 0 f2 zeA [(4, .int .i64 i), (0, .es KN xs), (3, .own 0)] (.cells cs 0 5 :: Rs) K =
    cond (decide (i < (zz xs.length)))
      (tst (decide (0 ≤ i)) <| tst (decide (i < (zz xs.length))) <| Option.bind (zbW fuel (((xs.getD i.toNat (Kd.dflt KN)).1, (xs.getD i.toNat (Kd.dflt KN)).2.1, (xs.getD i.toNat (Kd.dflt KN)).2.2.1, (xs.getD i.toNat (Kd.dflt KN)).2.2.2.1, (xs.getD i.toNat (Kd.dflt KN)).2.2.2.2.1, ()), ())) fun y =>
        tst (decide (0 ≤ i)) <| tst (decide (i < (zz (cs.length / 5)))) <| if i.toNat * 5 + 5 ≤ cs.length ∧ (expl KN y (Rs.length + 1)).1.all SV.oneB = true then
          K .normal [(4, .int .i64 (w64 (i + 1))), (13, .int .i64 (w64 (i + 1))), (12, .int .i64 i), (21, .ptr 0 (i.toNat * 5)), (20, .agg (expl KN y (Rs.length + 1)).1), (19, .agg (enc KN (xs.getD i.toNat (Kd.dflt KN)))), (18, .eptr KN (xs.getD i.toNat (Kd.dflt KN)) 0), (17, .int .i64 i), (16, .es KN xs), (15, .int .i64 i), (14, .own 0), (11, .bool (decide (i < (zz xs.length)))), (10, .int .i64 (zz xs.length)), (9, .es KN xs), (8, .int .i64 i), (4, .int .i64 i), (0, .es KN xs), (3, .own 0)] (.cells (setCells cs (i.toNat * 5) (expl KN y (Rs.length + 1)).1) 0 5 :: (Rs ++ (expl KN y (Rs.length + 1)).2))
        else none)
      (K (.exit 0) [(11, .bool (decide (i < (zz xs.length)))), (10, .int .i64 (zz xs.length)), (9, .es KN xs), (8, .int .i64 i), (4, .int .i64 i), (0, .es KN xs), (3, .own 0)] (.cells cs 0 5 :: Rs)) := by
  kernel_rfl
theorem zkE : ∀ (ys : List (Kd.T KN)) (k : Nat), (explL KN ys k).2.length = ys.length * 1
  | [], _ => rfl
  | y :: ys, k => by
    have e : (expl KN y k).2.length = 1 := rfl
    simp only [explL, List.length_append, zkE ys, e, List.length_cons]; omega
theorem zqp (fuel : Nat) (x : List (Kd.T KN) × Unit) (y : List (Kd.T KN)) (h : zaJ fuel x = some y) : ∃ f2, run (z6 fuel) 0 f2 zgQ (env0 (svS zgR x) 0) [] (endR zao (.list KN) false) = some y := by
  obtain ⟨xs, u⟩ := x
  unfold zaJ at h
  split at h
  · rename_i hl
    have hl : xs.length ≤ 1048576 := hl
    obtain ⟨hlen, hg⟩ := zbE h
    refine ⟨xs.length + 1, ?_⟩
    have hn := zkE y 1
    obtain ⟨τ, h3, hloop⟩ := zbD (T := z6 fuel) (f2 := xs.length + 1) (e := KN) (X := KN) (zs := [SV.int .i64 (Int.ofNat 0), SV.nils, SV.int .i64 (Int.ofNat 0), SV.int .i64 (Int.ofNat 0), SV.int .i64 (Int.ofNat 0)]) ⟨rfl, fun _ => rfl⟩ rfl zeA xs (zeB fuel) y hg hlen (by omega) (blkK 0 (seqK (run (z6 fuel) 0 (xs.length + 1) (C.seq (C.reg false [{ d := some 22, g := none, i := I.mv (S.t 3) }, { d := some 2, g := none, i := I.mv (S.t 22) }]) C.ret)) (endR zao (.list KN) false)))
      (fun i x y cs Rs K hx hy hc => by
        have hlt : i < xs.length := (List.getElem?_eq_some_iff.1 hx).1
        have h1 : decide ((i : Int) < zz xs.length) = true := by rw [zz_cast]; simp; omega
        have h2 : decide ((0 : Int) ≤ (i : Int)) = true := by simp
        have hgd : xs.getD i (Kd.dflt KN) = x := by rw [List.getD_eq_getElem?_getD, hx]; rfl
        have hc : cs.length = xs.length * 5 := hc
        have hcl : cs.length / 5 = xs.length := by rw [hc]; exact Nat.mul_div_cancel _ (by decide)
        have h4 : decide ((i : Int) < zz (cs.length / 5)) = true := by rw [hcl]; exact h1
        have hle : (i + 1) * 5 ≤ xs.length * 5 := Nat.mul_le_mul_right _ hlt
        have hy' := hy
        unfold zeB at hy'
        have hr := zkD fuel (xs.length + 1) _ (i : Int) xs cs Rs K
        rw [h1, cond_true, h2, h4] at hr
        simp only [cond_true, Int.toNat_natCast, hgd] at hr
        rw [hy', Option.bind_some, if_pos ⟨by omega, rfl⟩] at hr
        have hw : w64 ((i : Int) + 1) = ((i + 1 : Nat) : Int) := w64_up2 (by omega)
        rw [hw] at hr
        exact ⟨_, rfl, hr⟩)
      (fun cs Rs K => by
        have h1 : decide ((xs.length : Int) < zz xs.length) = false := by rw [zz_cast]; simp
        have hr := zkD fuel (xs.length + 1) _ (xs.length : Int) xs cs Rs K
        rw [h1, cond_false] at hr
        exact ⟨_, rfl, hr⟩)
      xs.length 0 (by omega)
    have hpre : run (z6 fuel) 0 (xs.length + 1) zgQ (env0 (svS zgR (xs, u)) 0) [] (endR zao (.list KN) false) =
        if xs.length ≤ xs.length ∧ xs.length < LIM then (match gc 0 [(4, .int .i64 (0 : Int)), (0, .es KN xs), (3, .own 0)] [.cells ((List.replicate xs.length [SV.int .i64 (Int.ofNat 0), SV.nils, SV.int .i64 (Int.ofNat 0), SV.int .i64 (Int.ofNat 0), SV.int .i64 (Int.ofNat 0)]).flatten) 49 5] with
          | some (τ, H) => loopN (run (z6 fuel) 0 (xs.length + 1) zeA) 0 { live := [4, 0, 3], fix := [] } (xs.length + 1) τ H (blkK 0 (seqK (run (z6 fuel) 0 (xs.length + 1) (C.seq (C.reg false [{ d := some 22, g := none, i := I.mv (S.t 3) }, { d := some 2, g := none, i := I.mv (S.t 22) }]) C.ret)) (endR zao (.list KN) false)))
          | none => none) else none := by kernel_rfl
    rw [hpre, if_pos ⟨Nat.le_refl _, by show xs.length < 4294967296; omega⟩]
    have hg0 := gc_fill (e := KN) (X := KN) (zs := [SV.int .i64 (Int.ofNat 0), SV.nils, SV.int .i64 (Int.ofNat 0), SV.int .i64 (Int.ofNat 0), SV.int .i64 (Int.ofNat 0)]) ⟨rfl, fun _ => rfl⟩ (xs := xs) (ys := []) (m := xs.length) (t := 49) (n := 0) (by simp [explL])
    have hg' : gc 0 [(4, .int .i64 (0 : Int)), (0, .es KN xs), (3, .own 0)] [.cells ((List.replicate xs.length [SV.int .i64 (Int.ofNat 0), SV.nils, SV.int .i64 (Int.ofNat 0), SV.int .i64 (Int.ofNat 0), SV.int .i64 (Int.ofNat 0)]).flatten) 49 5] = some ([(4, .int .i64 (0 : Int)), (0, .es KN xs), (3, .own 0)], fillH KN [SV.int .i64 (Int.ofNat 0), SV.nils, SV.int .i64 (Int.ofNat 0), SV.int .i64 (Int.ofNat 0), SV.int .i64 (Int.ofNat 0)] [] xs.length 0) := hg0
    rw [hg']
    refine Eq.trans hloop ?_
    show (endR zao (.list KN) false) .ret ((2, Tm.get ((22, Tm.get τ 3) :: τ) 22) :: (22, Tm.get τ 3) :: τ) (fillH KN [SV.int .i64 (Int.ofNat 0), SV.nils, SV.int .i64 (Int.ofNat 0), SV.int .i64 (Int.ofNat 0), SV.int .i64 (Int.ofNat 0)] y 0 0) = some y
    have e : evalRes ((2, Tm.get ((22, Tm.get τ 3) :: τ) 22) :: (22, Tm.get τ 3) :: τ) (fillH KN [SV.int .i64 (Int.ofNat 0), SV.nils, SV.int .i64 (Int.ofNat 0), SV.int .i64 (Int.ofNat 0), SV.int .i64 (Int.ofNat 0)] y 0 0) zao = some [.own 0] := by
      show some [Tm.get τ 3] = _
      rw [h3]
    unfold endR
    simp only [e, cellsOf]
    rw [zbC (e := KN) (xs := y) (t := 0) (by decide) (by simp [fillH]) (fun j hj => by rw [Nat.add_comm, List.getElem?_cons_succ])]
    simp only [zag, cond_true]
  · cases h
theorem zqq (fuel : Nat) : FnSpecR Try.prog 41 (zgS fuel) :=
  zN (T := z6 fuel) (c := bodyOf Try.f41) (fn := Try.f41) (TabOK.of (entCons (zqi fuel) entNil) methNil) mixed (by kernel_rfl) (by kernel_rfl) zqo (by kernel_rfl) (Nat.le_of_ble_eq_true (by kernel_rfl)) (rv := zao) (by kernel_rfl) (fun x y h => zqp fuel x y h)
theorem zqr (fuel : Nat) : EntryOK Try.prog 41 (zgS fuel).te := EntryOK.tr (zqq fuel) (isFn (fn := Try.f41) (by kernel_rfl) (by kernel_rfl) (by kernel_rfl))
def z7 (fuel : Nat) : Tab := Tab.of [(63, (zgP fuel).te)] []
def zqs : List Norm := [{ live := [4, 0, 3], fix := [] }]
abbrev zeC : C := (C.seq (C.seq (C.reg false [{ d := some 8, g := none, i := I.mv (S.t 4) }, { d := some 9, g := none, i := I.mv (S.t 0) }, { d := some 10, g := none, i := I.len (S.t 9) }, { d := some 11, g := none, i := I.bin BinOp.lss (S.t 8) (S.t 10) }]) (C.cnd (S.t 11) C.skip (C.exit 0))) (C.seq (C.blk 1 (C.reg false [{ d := some 14, g := none, i := I.mv (S.t 3) }, { d := some 15, g := none, i := I.mv (S.t 4) }, { d := some 16, g := none, i := I.mv (S.t 0) }, { d := some 17, g := none, i := I.mv (S.t 4) }, { d := some 18, g := none, i := I.ia 6 (S.t 16) (S.t 17) }, { d := some 19, g := none, i := I.ld 6 true (S.t 18) }, { d := some 20, g := none, i := I.call 63 [S.t 19] }, { d := some 21, g := none, i := I.ia 6 (S.t 14) (S.t 15) }, { d := none, g := none, i := I.st 6 (S.t 21) (S.t 20) }])) (C.reg false [{ d := some 12, g := none, i := I.mv (S.t 4) }, { d := some 13, g := none, i := I.bin BinOp.add (S.t 12) (S.c (SV.int .i64 (Int.ofNat 1))) }, { d := some 4, g := none, i := I.mv (S.t 13) }])))
def zgT : C := C.seq (C.reg false [{ d := some 2, g := none, i := I.mv (S.c SV.nils) }]) (C.seq (C.reg false [{ d := some 5, g := none, i := I.mv (S.t 0) }, { d := some 6, g := none, i := I.len (S.t 5) }, { d := some 7, g := none, i := I.mk none [SV.int .i64 (Int.ofNat 0), SV.int .i64 (Int.ofNat 0), SV.int .i64 (Int.ofNat 0), SV.int .i64 (Int.ofNat 0), SV.int .i64 (Int.ofNat 0), SV.nils] 99 (S.t 6) (some (S.t 6)) }, { d := some 3, g := none, i := I.mv (S.t 7) }]) (C.seq (C.seq (C.reg false [{ d := some 4, g := none, i := I.mv (S.c (SV.int .i64 (Int.ofNat 0))) }]) (C.blk 0 (C.loop { live := [4, 0, 3], fix := [] } zeC))) (C.seq (C.reg false [{ d := some 22, g := none, i := I.mv (S.t 3) }, { d := some 2, g := none, i := I.mv (S.t 22) }]) C.ret)))
theorem zqt : lightC Try.prog [7] Try.f43.ntmps zqs [] 0 (bodyOf Try.f43) = some (zgT, 1) := by kernel_rfl
def zap : List (Nat × Option (Nat × Bool)) := [(2, none)]
abbrev zgU : Sh := .cell (.list KW) 0 .nil
def zeD (fuel : Nat) (x : Kd.T KW) : Option (Kd.T KW) := (zbX fuel ((x.1, x.2.1, x.2.2.1, x.2.2.2.1, x.2.2.2.2.1, x.2.2.2.2.2.1, ()), ()))
def zaK (fuel : Nat) (x : List (Kd.T KW) × Unit) : Option (List (Kd.T KW)) := if x.1.length ≤ 1048576 then mapO (zeD fuel) x.1 else none
def zgV (fuel : Nat) : TR := ⟨zgU, .list KW, false, zaK fuel⟩
theorem zkF (fuel f2 : Nat) (R : Type) (i : Int) (xs : List (Kd.T KW)) (cs : List SV) (Rs : Heap) (K : Ex → Env → Heap → Option R) :
    run (z7 fuel) 0 f2 zeC [(4, .int .i64 i), (0, .es KW xs), (3, .own 0)] (.cells cs 0 6 :: Rs) K =
    cond (decide (i < (zz xs.length)))
      (tst (decide (0 ≤ i)) <| tst (decide (i < (zz xs.length))) <| Option.bind (zbX fuel (((xs.getD i.toNat (Kd.dflt KW)).1, (xs.getD i.toNat (Kd.dflt KW)).2.1, (xs.getD i.toNat (Kd.dflt KW)).2.2.1, (xs.getD i.toNat (Kd.dflt KW)).2.2.2.1, (xs.getD i.toNat (Kd.dflt KW)).2.2.2.2.1, (xs.getD i.toNat (Kd.dflt KW)).2.2.2.2.2.1, ()), ())) fun y =>
        tst (decide (0 ≤ i)) <| tst (decide (i < (zz (cs.length / 6)))) <| if i.toNat * 6 + 6 ≤ cs.length ∧ (expl KW y (Rs.length + 1)).1.all SV.oneB = true then
          K .normal [(4, .int .i64 (w64 (i + 1))), (13, .int .i64 (w64 (i + 1))), (12, .int .i64 i), (21, .ptr 0 (i.toNat * 6)), (20, .agg (expl KW y (Rs.length + 1)).1), (19, .agg (enc KW (xs.getD i.toNat (Kd.dflt KW)))), (18, .eptr KW (xs.getD i.toNat (Kd.dflt KW)) 0), (17, .int .i64 i), (16, .es KW xs), (15, .int .i64 i), (14, .own 0), (11, .bool (decide (i < (zz xs.length)))), (10, .int .i64 (zz xs.length)), (9, .es KW xs), (8, .int .i64 i), (4, .int .i64 i), (0, .es KW xs), (3, .own 0)] (.cells (setCells cs (i.toNat * 6) (expl KW y (Rs.length + 1)).1) 0 6 :: (Rs ++ (expl KW y (Rs.length + 1)).2))
        else none)
      (K (.exit 0) [(11, .bool (decide (i < (zz xs.length)))), (10, .int .i64 (zz xs.length)), (9, .es KW xs), (8, .int .i64 i), (4, .int .i64 i), (0, .es KW xs), (3, .own 0)] (.cells cs 0 6 :: Rs)) := by
  kernel_rfl
theorem zkG : ∀ (ys : List (Kd.T KW)) (k : Nat), (explL KW ys k).2.length = ys.length * 1
  | [], _ => rfl
  | y :: ys, k => by
    have e : (expl KW y k).2.length = 1 := rfl
    simp only [explL, List.length_append, zkG ys, e, List.length_cons]; omega
theorem zqu (fuel : Nat) (x : List (Kd.T KW) × Unit) (y : List (Kd.T KW)) (h : zaK fuel x = some y) : ∃ f2, run (z7 fuel) 0 f2 zgT (env0 (svS zgU x) 0) [] (endR zap (.list KW) false) = some y := by
  obtain ⟨xs, u⟩ := x
  unfold zaK at h
  split at h
  · rename_i hl
    have hl : xs.length ≤ 1048576 := hl
    obtain ⟨hlen, hg⟩ := zbE h
    refine ⟨xs.length + 1, ?_⟩
    have hn := zkG y 1
    obtain ⟨τ, h3, hloop⟩ := zbD (T := z7 fuel) (f2 := xs.length + 1) (e := KW) (X := KW) (zs := [SV.int .i64 (Int.ofNat 0), SV.int .i64 (Int.ofNat 0), SV.int .i64 (Int.ofNat 0), SV.int .i64 (Int.ofNat 0), SV.int .i64 (Int.ofNat 0), SV.nils]) ⟨rfl, fun _ => rfl⟩ rfl zeC xs (zeD fuel) y hg hlen (by omega) (blkK 0 (seqK (run (z7 fuel) 0 (xs.length + 1) (C.seq (C.reg false [{ d := some 22, g := none, i := I.mv (S.t 3) }, { d := some 2, g := none, i := I.mv (S.t 22) }]) C.ret)) (endR zap (.list KW) false)))
      (fun i x y cs Rs K hx hy hc => by
        have hlt : i < xs.length := (List.getElem?_eq_some_iff.1 hx).1
        have h1 : decide ((i : Int) < zz xs.length) = true := by rw [zz_cast]; simp; omega
        have h2 : decide ((0 : Int) ≤ (i : Int)) = true := by simp
        have hgd : xs.getD i (Kd.dflt KW) = x := by rw [List.getD_eq_getElem?_getD, hx]; rfl
        have hc : cs.length = xs.length * 6 := hc
        have hcl : cs.length / 6 = xs.length := by rw [hc]; exact Nat.mul_div_cancel _ (by decide)
        have h4 : decide ((i : Int) < zz (cs.length / 6)) = true := by rw [hcl]; exact h1
        have hle : (i + 1) * 6 ≤ xs.length * 6 := Nat.mul_le_mul_right _ hlt
        have hy' := hy
        unfold zeD at hy'
        have hr := zkF fuel (xs.length + 1) _ (i : Int) xs cs Rs K
        rw [h1, cond_true, h2, h4] at hr
        simp only [cond_true, Int.toNat_natCast, hgd] at hr
        rw [hy', Option.bind_some, if_pos ⟨by omega, rfl⟩] at hr
        have hw : w64 ((i : Int) + 1) = ((i + 1 : Nat) : Int) := w64_up2 (by omega)
        rw [hw] at hr
        exact ⟨_, rfl, hr⟩)
      (fun cs Rs K => by
        have h1 : decide ((xs.length : Int) < zz xs.length) = false := by rw [zz_cast]; simp
        have hr := zkF fuel (xs.length + 1) _ (xs.length : Int) xs cs Rs K
        rw [h1, cond_false] at hr
        exact ⟨_, rfl, hr⟩)
      xs.length 0 (by omega)
    have hpre : run (z7 fuel) 0 (xs.length + 1) zgT (env0 (svS zgU (xs, u)) 0) [] (endR zap (.list KW) false) =
        if xs.length ≤ xs.length ∧ xs.length < LIM then (match gc 0 [(4, .int .i64 (0 : Int)), (0, .es KW xs), (3, .own 0)] [.cells ((List.replicate xs.length [SV.int .i64 (Int.ofNat 0), SV.int .i64 (Int.ofNat 0), SV.int .i64 (Int.ofNat 0), SV.int .i64 (Int.ofNat 0), SV.int .i64 (Int.ofNat 0), SV.nils]).flatten) 99 6] with
          | some (τ, H) => loopN (run (z7 fuel) 0 (xs.length + 1) zeC) 0 { live := [4, 0, 3], fix := [] } (xs.length + 1) τ H (blkK 0 (seqK (run (z7 fuel) 0 (xs.length + 1) (C.seq (C.reg false [{ d := some 22, g := none, i := I.mv (S.t 3) }, { d := some 2, g := none, i := I.mv (S.t 22) }]) C.ret)) (endR zap (.list KW) false)))
          | none => none) else none := by kernel_rfl
    rw [hpre, if_pos ⟨Nat.le_refl _, by show xs.length < 4294967296; omega⟩]
    have hg0 := gc_fill (e := KW) (X := KW) (zs := [SV.int .i64 (Int.ofNat 0), SV.int .i64 (Int.ofNat 0), SV.int .i64 (Int.ofNat 0), SV.int .i64 (Int.ofNat 0), SV.int .i64 (Int.ofNat 0), SV.nils]) ⟨rfl, fun _ => rfl⟩ (xs := xs) (ys := []) (m := xs.length) (t := 99) (n := 0) (by simp [explL])
    have hg' : gc 0 [(4, .int .i64 (0 : Int)), (0, .es KW xs), (3, .own 0)] [.cells ((List.replicate xs.length [SV.int .i64 (Int.ofNat 0), SV.int .i64 (Int.ofNat 0), SV.int .i64 (Int.ofNat 0), SV.int .i64 (Int.ofNat 0), SV.int .i64 (Int.ofNat 0), SV.nils]).flatten) 99 6] = some ([(4, .int .i64 (0 : Int)), (0, .es KW xs), (3, .own 0)], fillH KW [SV.int .i64 (Int.ofNat 0), SV.int .i64 (Int.ofNat 0), SV.int .i64 (Int.ofNat 0), SV.int .i64 (Int.ofNat 0), SV.int .i64 (Int.ofNat 0), SV.nils] [] xs.length 0) := hg0
    rw [hg']
    refine Eq.trans hloop ?_
    show (endR zap (.list KW) false) .ret ((2, Tm.get ((22, Tm.get τ 3) :: τ) 22) :: (22, Tm.get τ 3) :: τ) (fillH KW [SV.int .i64 (Int.ofNat 0), SV.int .i64 (Int.ofNat 0), SV.int .i64 (Int.ofNat 0), SV.int .i64 (Int.ofNat 0), SV.int .i64 (Int.ofNat 0), SV.nils] y 0 0) = some y
    have e : evalRes ((2, Tm.get ((22, Tm.get τ 3) :: τ) 22) :: (22, Tm.get τ 3) :: τ) (fillH KW [SV.int .i64 (Int.ofNat 0), SV.int .i64 (Int.ofNat 0), SV.int .i64 (Int.ofNat 0), SV.int .i64 (Int.ofNat 0), SV.int .i64 (Int.ofNat 0), SV.nils] y 0 0) zap = some [.own 0] := by
      show some [Tm.get τ 3] = _
      rw [h3]
    unfold endR
    simp only [e, cellsOf]
    rw [zbC (e := KW) (xs := y) (t := 0) (by decide) (by simp [fillH]) (fun j hj => by rw [Nat.add_comm, List.getElem?_cons_succ])]
    simp only [zag, cond_true]
  · cases h
theorem zqv (fuel : Nat) : FnSpecR Try.prog 43 (zgV fuel) :=
  zN (T := z7 fuel) (c := bodyOf Try.f43) (fn := Try.f43) (TabOK.of (entCons (zqm fuel) entNil) methNil) mixed (by kernel_rfl) (by kernel_rfl) zqt (by kernel_rfl) (Nat.le_of_ble_eq_true (by kernel_rfl)) (rv := zap) (by kernel_rfl) (fun x y h => zqu fuel x y h)
theorem zqw (fuel : Nat) : EntryOK Try.prog 43 (zgV fuel).te := EntryOK.tr (zqv fuel) (isFn (fn := Try.f43) (by kernel_rfl) (by kernel_rfl) (by kernel_rfl))
end Go.Proofs.Ytmkekjmckdkcnaa.Den
namespace Go.Proofs.Ytmkekjmckdkcnaa.Den
open Go Go.RowKit
def markO {α : Type} (g : α → Int → Option (α × Int)) : List α → Int → Option (List α × Int)
  | [], k => some ([], k)
  | x :: xs, k => (g x k).bind fun y => (markO g xs y.2).map fun z => (y.1 :: z.1, z.2)
theorem zoT {α : Type} {g : α → Int → Option (α × Int)} : ∀ {xs : List α} {k : Int} {y : List α × Int}, markO g xs k = some y → y.1.length = xs.length
  | [], k, y, h => by simp only [markO, Option.some.injEq] at h; subst h; rfl
  | x :: xs, k, y, h => by
    simp only [markO, Option.bind_eq_some_iff, Option.map_eq_some_iff] at h
    obtain ⟨y, hy, z, hz, rfl⟩ := h
    simp [zoT hz]
theorem zoU (n0 : Nat) (H : Heap) : ∀ (l : List Nat) (f : Nat), (∀ β ∈ l, β < n0) → gcOrder n0 H f l [] = []
  | l, 0, _ => by cases l <;> rfl
  | [], f + 1, _ => rfl
  | β :: r, f + 1, h => by
    rw [gcOrder]
    have h1 : Nat.blt β n0 = true := by rw [Nat.blt_eq]; exact h β (by simp)
    rw [h1, Bool.true_or, cond_true]
    exact zoU n0 H r f fun γ hγ => h γ (by simp [hγ])
theorem gc_open {e : Kd} {xs : List e.T} {n : Nat} {i k : Int} (hn : (explL e xs 1).2.length = n) :
    gc (n + 1) [(5, .int .i64 i), (0, .own 0), (1, .int .i64 k)] (openH e xs) = some ([(5, .int .i64 i), (0, .own 0), (1, .int .i64 k)], openH e xs) := by
  have hlen : (openH e xs).length = n + 1 := by simp [openH, hn]
  have htake : (openH e xs).take (n + 1) = openH e xs := List.take_of_length_le (by omega)
  have hleaf := zjv (e := e) (xs := xs) (k := 1)
  have hord : gcOrder (n + 1) (openH e xs) LIM (([(5, .int .i64 i), (0, .own 0), (1, .int .i64 k)] : Env).flatMap (fun p => p.2.refs) ++ ((openH e xs).take (n + 1)).flatMap Blk.refs) [] = [] := by
    refine zoU _ _ _ _ fun β hβ => ?_
    rw [htake] at hβ
    have hβ : β ∈ [0] ++ (SV.refsL (explL e xs 1).1 ++ (explL e xs 1).2.flatMap Blk.refs) := hβ
    rw [zjr, hn] at hβ
    simp only [List.mem_append, List.mem_singleton, List.mem_range'_1, List.mem_flatMap] at hβ
    rcases hβ with h | h | ⟨z, hz, h⟩
    · omega
    · omega
    · rw [(hleaf z hz).1] at h; cases h
  rw [gc_of (σ := []) hord (by simp [nodupB, hlen])]
  have hren : ∀ β, β < n + 1 → renF (n + 1) [] β = some β := fun β h => by
    unfold renF
    rw [show Nat.blt β (n + 1) = true by rw [Nat.blt_eq]; exact h, cond_true]
  have h0 := hren 0 (by omega)
  have e1 : (openH e xs).map (Blk.ren (renF (n + 1) [])) = openH e xs := by
    rw [List.map_cons, Blk.ren, zjt (fun j hj => hren j (by omega))]
    congr 1
    conv => rhs; rw [← List.map_id (explL e xs 1).2]
    exact List.map_congr_left fun z hz => (hleaf z hz).2 _
  rw [htake, e1]
  simp only [List.map_cons, List.map_nil, SV.ren, h0, List.append_nil]
theorem zoV {e : Kd} {ys xs : List e.T} {x : e.T} : openH e (ys ++ x :: xs) =
    .cells ((explL e ys 1).1 ++ (expl e x ((explL e ys 1).2.length + 1)).1 ++ (explL e xs (1 + (explL e ys 1).2.length + (expl e x (1 + (explL e ys 1).2.length)).2.length)).1) 0 e.sz ::
      ((explL e ys 1).2 ++ (expl e x ((explL e ys 1).2.length + 1)).2 ++ (explL e xs (1 + (explL e ys 1).2.length + (expl e x (1 + (explL e ys 1).2.length)).2.length)).2) := by
  unfold openH
  rw [zaD, Nat.add_comm 1]
  simp only [explL, List.append_assoc]
theorem zoW {T : Tab} {f2 n0 : Nat} {R : Type} {e : Kd} (bd : C) (n : Nat) (g : e.T → Int → Option (e.T × Int)) (K : Ex → Env → Heap → Option R)
    (hround : ∀ (A B : List SV) (RA RB : List Blk) (i : Nat) (x x' : e.T) (k k' : Int) (K : Ex → Env → Heap → Option R), g x k = some (x', k') → A.length = i * e.sz → i < n → (A ++ (expl e x (RA.length + 1)).1 ++ B).length = n * e.sz → ∃ τ, [5, 0, 1].map (fun s => (s, Tm.get τ s)) = [(5, SV.int .i64 ((i + 1 : Nat) : Int)), (0, .own 0), (1, .int .i64 k')] ∧
      run T n0 f2 bd [(5, .int .i64 (i : Int)), (0, .own 0), (1, .int .i64 k)] (.cells (A ++ (expl e x (RA.length + 1)).1 ++ B) 0 e.sz :: (RA ++ (expl e x (RA.length + 1)).2 ++ RB)) K =
        K .normal τ (.cells (A ++ (expl e x' (RA.length + 1)).1 ++ B) 0 e.sz :: (RA ++ (expl e x' (RA.length + 1)).2 ++ RB)))
    (hexit : ∀ (cs : List SV) (Rs : Heap) (k : Int) (K : Ex → Env → Heap → Option R), cs.length = n * e.sz → ∃ τ, Tm.get τ 1 = .int .i64 k ∧ run T n0 f2 bd [(5, .int .i64 (n : Int)), (0, .own 0), (1, .int .i64 k)] (.cells cs 0 e.sz :: Rs) K = K (.exit 0) τ (.cells cs 0 e.sz :: Rs)) :
    ∀ (xs ys : List e.T) (k k' : Int) (zs : List e.T), ys.length + xs.length = n → (explL e (ys ++ xs) 1).2.length + 1 = n0 → markO g xs k = some (zs, k') →
      ∃ τ, Tm.get τ 1 = .int .i64 k' ∧ loopN (run T n0 f2 bd) n0 { live := [5, 0, 1], fix := [] } (xs.length + 1) [(5, .int .i64 (ys.length : Int)), (0, .own 0), (1, .int .i64 k)] (openH e (ys ++ xs)) K = K (.exit 0) τ (openH e (ys ++ zs))
  | [], ys, k, k', zs, hl, hn0, hm => by
    simp only [markO, Option.some.injEq, Prod.mk.injEq] at hm
    obtain ⟨rfl, rfl⟩ := hm
    have hl' : ys.length = n := by simpa using hl
    obtain ⟨τ, h1, h2⟩ := hexit (explL e (ys ++ []) 1).1 (explL e (ys ++ []) 1).2 k (loopK n0 { live := [5, 0, 1], fix := [] } (fun τ H => loopN (run T n0 f2 bd) n0 { live := [5, 0, 1], fix := [] } 0 τ H K) K) (by rw [zaf]; simp [hl'])
    refine ⟨τ, h1, ?_⟩
    rw [loopN, hl']
    exact h2
  | x :: xs, ys, k, k', zs, hl, hn0, hm => by
    simp only [markO, Option.bind_eq_some_iff, Option.map_eq_some_iff] at hm
    obtain ⟨⟨x', k1⟩, hy, ⟨zs', k2⟩, hz, he⟩ := hm
    simp only [Prod.mk.injEq] at he
    obtain ⟨rfl, rfl⟩ := he
    simp only [List.length_cons] at hl
    have hnum : (explL e (ys ++ [x'] ++ xs) 1).2.length = (explL e (ys ++ x :: xs) 1).2.length := by
      rw [List.append_assoc, zaD (xs := ys), zaD (xs := ys)]
      simp only [List.length_append, List.singleton_append, explL]
      rw [zea (x := x') (y := x) (l := 1 + (explL e ys 1).2.length)]
    obtain ⟨τ, h3, ih⟩ := zoW bd n g K hround hexit xs (ys ++ [x']) k1 k2 zs' (by simp; omega) (by rw [hnum]; exact hn0) hz
    refine ⟨τ, h3, ?_⟩
    have hcl : ((explL e ys 1).1 ++ (expl e x ((explL e ys 1).2.length + 1)).1 ++ (explL e xs (1 + (explL e ys 1).2.length + (expl e x (1 + (explL e ys 1).2.length)).2.length)).1).length = n * e.sz := by
      simp only [List.length_append, zaf, zaB]
      rw [← hl, ← Nat.add_assoc, Nat.add_mul, Nat.add_mul, Nat.one_mul]; omega
    obtain ⟨τ1, h4, h5⟩ := hround (explL e ys 1).1 (explL e xs (1 + (explL e ys 1).2.length + (expl e x (1 + (explL e ys 1).2.length)).2.length)).1 (explL e ys 1).2 (explL e xs (1 + (explL e ys 1).2.length + (expl e x (1 + (explL e ys 1).2.length)).2.length)).2 ys.length x x' k k1
      (loopK n0 { live := [5, 0, 1], fix := [] } (fun τ H => loopN (run T n0 f2 bd) n0 { live := [5, 0, 1], fix := [] } (xs.length + 1) τ H K) K) hy zaf (by omega) hcl
    rw [loopN, zoV]
    refine h5.trans ?_
    have hheap : (.cells ((explL e ys 1).1 ++ (expl e x' ((explL e ys 1).2.length + 1)).1 ++ (explL e xs (1 + (explL e ys 1).2.length + (expl e x (1 + (explL e ys 1).2.length)).2.length)).1) 0 e.sz ::
      ((explL e ys 1).2 ++ (expl e x' ((explL e ys 1).2.length + 1)).2 ++ (explL e xs (1 + (explL e ys 1).2.length + (expl e x (1 + (explL e ys 1).2.length)).2.length)).2) : Heap) = openH e (ys ++ [x'] ++ xs) := by
      rw [List.append_assoc ys, List.singleton_append, zoV, zea (x := x') (y := x) (l := 1 + (explL e ys 1).2.length)]
    rw [hheap]
    show (match gc n0 ([5, 0, 1].map fun s => (s, Tm.get τ1 s)) (openH e (ys ++ [x'] ++ xs)) with
      | some (τ, H) => loopN (run T n0 f2 bd) n0 { live := [5, 0, 1], fix := [] } (xs.length + 1) τ H K
      | none => none) = _
    rw [h4, ← hn0, gc_open hnum]
    rw [show ys ++ x' :: zs' = ys ++ [x'] ++ zs' by simp]
    rw [hn0]
    have e1 : (((ys.length + 1 : Nat) : Int)) = ((ys ++ [x']).length : Int) := by simp
    rw [e1]
    exact ih
theorem ia_open {R : Type} {cs : List SV} {t : TypeId} {sz : Nat} {Rs : Heap} {i : Nat} {ik : IntKind} {k : SV → Option R} (hz : sz ≠ 0) (h : i < cs.length / sz) : iaI (.cells cs t sz :: Rs) sz (.own 0) (.int ik (i : Int)) k = k (.ptr 0 (i * sz)) := by
  simp only [iaI, List.getElem?_cons_zero]
  rw [if_pos ⟨trivial, hz⟩]
  have h1 : decide ((0 : Int) ≤ (i : Int)) = true := by simp
  have h2 : decide ((i : Int) < ((cs.length / sz : Nat) : Int)) = true := decide_eq_true (by exact_mod_cast h)
  rw [h1, h2]; rfl
theorem st_open {R : Type} {A E B : List SV} {t : TypeId} {sz : Nat} {Rs : Heap} {j off : Nat} {ik : IntKind} {v : Int} {k : Heap → Option R} (ho : off = A.length + j) (hj : j < E.length) : stI (.cells (A ++ E ++ B) t sz :: Rs) 1 (.ptr 0 off) (.int ik v) k = k (.cells (A ++ E.set j (.int ik v) ++ B) t sz :: Rs) := by
  subst ho
  simp only [stI, SV.cells?, List.getElem?_cons_zero, List.length_singleton, if_true]
  rw [if_pos ⟨by simp; omega, rfl⟩]
  congr 1
  rw [List.set_cons_zero]
  congr 2
  unfold setCells
  rw [List.append_assoc, List.take_append, List.take_of_length_le (by omega), Nat.add_sub_cancel_left, List.take_append_of_le_length (by omega)]
  rw [List.drop_append, List.drop_of_length_le (by simp; omega), List.nil_append, show A.length + j + [SV.int ik v].length - A.length = j + 1 by simp; omega, List.drop_append_of_le_length (by omega)]
  rw [List.set_eq_take_append_cons_drop, if_pos hj]
  simp
theorem ld_open {R : Type} {A E B : List SV} {t : TypeId} {sz : Nat} {Rs : Heap} {j off : Nat} {s : SV} {k : SV → Option R} (ho : off = A.length + j) (hj : E[j]? = some s) : ldI (.cells (A ++ E ++ B) t sz :: Rs) 1 false (.ptr 0 off) k = k s := by
  subst ho
  have hl := (List.getElem?_eq_some_iff.1 hj).1
  simp only [ldI, getC, List.getElem?_cons_zero]
  rw [List.append_assoc, List.getElem?_append_right (by omega), Nat.add_sub_cancel_left, List.getElem?_append_left hl, hj]
theorem zvO {c : Blk} {RA RE RB : List Blk} {j b : Nat} {z : Blk} (hb : b = RA.length + 1 + j) (hj : j < RE.length) : (c :: (RA ++ RE ++ RB)).set b z = c :: (RA ++ RE.set j z ++ RB) := by
  subst hb
  rw [show RA.length + 1 + j = (RA.length + j) + 1 by omega, List.set_cons_succ, List.append_assoc, List.set_append_right _ _ (by omega), Nat.add_sub_cancel_left, List.set_append_left _ _ hj, ← List.append_assoc]
theorem zvP {c : Blk} {RA RE RB : List Blk} {j b : Nat} {z : Blk} (hb : b = RA.length + 1 + j) (hj : RE[j]? = some z) : (c :: (RA ++ RE ++ RB))[b]? = some z := by
  subst hb
  have hl := (List.getElem?_eq_some_iff.1 hj).1
  rw [show RA.length + 1 + j = (RA.length + j) + 1 by omega, List.getElem?_cons_succ, List.append_assoc, List.getElem?_append_right (by omega), Nat.add_sub_cancel_left, List.getElem?_append_left hl, hj]
theorem tm_call {R : Type} {e : Kd} {fn : List e.T × Int → Option (List e.T × Int)} {r : List TE} {b : Nat} {x : List e.T} {k : Int} {H : Heap} {kk : SV → Heap → Option R} (h : H[b]? = some (childB e x)) :
    callL ((TM.te ⟨.list e, false, fn⟩) :: r) [.own b, .int .i64 k] H kk = (fn (x, k)).bind fun y => kk (.int .i64 y.2) (H.set b (childB e y.1)) := by
  rw [callL]
  have hr : readT false H (.list e) [.own b] = some (x, [b]) := by
    simp only [readT, h]
    unfold childB
    cases hn : e.noList <;> simp [hn]
  have hv : (TM.te ⟨.list e, false, fn⟩).view [.own b, .int .i64 k] H = some (x, k) := by
    simp only [TM.te, cellsOf, hr]; rfl
  rw [hv]
  rfl
end Go.Proofs.Ytmkekjmckdkcnaa.Den
namespace Go.Proofs.Ytmkekjmckdkcnaa.Den
open Go Go.RowKit
inductive MS where
  | fld (fs : List Nat)
  | call (fs : List Nat) (f : FuncId)
def mvG (d : Nat) (x : S) : GI := ⟨some d, none, .mv x⟩
def faG : Nat → List Nat → List GI
  | _, [] => []
  | s, o :: r => ⟨some (s + 1), none, .fa o (.t s)⟩ :: faG (s + 1) r
def upG (d i : Nat) : List GI := [mvG d (.t i), ⟨some (d + 1), none, .bin .add (.t d) (.c (.int .i64 1))⟩, mvG i (.t (d + 1))]
def msR (sz s : Nat) : MS → List (List GI)
  | .fld fs => [mvG s (.t 0) :: mvG (s + 1) (.t 5) :: mvG (s + 2) (.t 1) :: ⟨some (s + 3), none, .ia sz (.t s) (.t (s + 1))⟩ :: (faG (s + 3) fs ++ [⟨none, none, .st 1 (.t (s + 3 + fs.length)) (.t (s + 2))⟩]), upG (s + 4 + fs.length) 1]
  | .call fs f => [mvG s (.t 0) :: mvG (s + 1) (.t 5) :: ⟨some (s + 2), none, .ia sz (.t s) (.t (s + 1))⟩ :: (faG (s + 2) fs ++ [⟨some (s + 3 + fs.length), none, .ld 1 false (.t (s + 2 + fs.length))⟩, mvG (s + 4 + fs.length) (.t 1),
      ⟨some (s + 5 + fs.length), none, .call f [.t (s + 3 + fs.length), .t (s + 4 + fs.length)]⟩, mvG 1 (.t (s + 5 + fs.length))])]
def msN (s : Nat) : MS → Nat
  | .fld fs => s + 6 + fs.length
  | .call fs _ => s + 6 + fs.length
def msAll (sz : Nat) : Nat → List MS → List (List GI)
  | _, [] => []
  | s, m :: r => msR sz s m ++ msAll sz (msN s m) r
def seqR : List (List GI) → C
  | [] => .skip
  | [r] => .reg false r
  | r :: r' :: rs => .seq (.reg false r) (seqR (r' :: rs))
def markBd (sz : Nat) (ms : List MS) : C :=
  .seq (.seq (.reg false [mvG 6 (.t 5), mvG 7 (.t 0), ⟨some 8, none, .len (.t 7)⟩, ⟨some 9, none, .bin .lss (.t 6) (.t 8)⟩]) (.cnd (.t 9) .skip (.exit 0))) (.seq (.blk 1 (seqR (msAll sz 12 ms))) (.reg false (upG 10 5)))
abbrev markNm : Norm := { live := [5, 0, 1], fix := [] }
def markC (sz : Nat) (ms : List MS) (e : Nat) : C :=
  .seq (.reg false [mvG 4 (.c (.int .i64 0))]) (.seq (.seq (.reg false [mvG 5 (.c (.int .i64 0))]) (.blk 0 (.loop markNm (markBd sz ms)))) (.seq (.reg false [mvG e (.t 1), mvG 4 (.t e)]) .ret))
section
variable {R : Type} {T : Tab} {τ : Env} {H : Heap}
def runRs (T : Tab) : List (List GI) → Env → Heap → (Env → Heap → Option R) → Option R
  | [], τ, H, k => k τ H
  | r :: rs, τ, H, k => runR T r τ H fun τ H => runRs T rs τ H k
theorem ze : ∀ {a b : List (List GI)} {τ : Env} {H : Heap} {k : Env → Heap → Option R}, runRs T (a ++ b) τ H k = runRs T a τ H fun τ H => runRs T b τ H k
  | [], b, τ, H, k => rfl
  | r :: a, b, τ, H, k => by
    show runR T r τ H (fun τ H => runRs T (a ++ b) τ H k) = runR T r τ H fun τ H => runRs T a τ H fun τ H => runRs T b τ H k
    congr 1; funext τ H; exact ze
theorem zoX {n0 f2 : Nat} : ∀ {rs : List (List GI)} {τ : Env} {H : Heap} {K : Ex → Env → Heap → Option R}, run T n0 f2 (seqR rs) τ H K = runRs T rs τ H (K .normal)
  | [], τ, H, K => rfl
  | [r], τ, H, K => rfl
  | r :: r' :: rs, τ, H, K => by
    show runR T r τ H (fun τ H => run T n0 f2 (seqR (r' :: rs)) τ H K) = _
    rw [runRs]
    congr 1; funext τ H; exact zoX
end
theorem tm_eq {n : Nat} {v : SV} {τ : Env} : Tm.get ((n, v) :: τ) n = v := by simp [Tm.get]
theorem tm_ne {n m : Nat} {v : SV} {τ : Env} (h : n ≠ m) : Tm.get ((n, v) :: τ) m = Tm.get τ m := by
  have : Nat.beq n m = false := by cases hb : Nat.beq n m with
    | false => rfl
    | true => exact absurd (Nat.eq_of_beq_eq_true hb) h
  simp [Tm.get, this]
structure MEnv (τ : Env) (i k : Int) : Prop where
  a : Tm.get τ 0 = .own 0
  i : Tm.get τ 5 = .int .i64 i
  k : Tm.get τ 1 = .int .i64 k
theorem MEnv.put {τ : Env} {i k : Int} (h : MEnv τ i k) {s : Nat} {v : SV} (hs : 6 ≤ s) : MEnv ((s, v) :: τ) i k :=
  ⟨by rw [tm_ne (by omega)]; exact h.a, by rw [tm_ne (by omega)]; exact h.i, by rw [tm_ne (by omega)]; exact h.k⟩
theorem MEnv.setk {τ : Env} {i k k' : Int} (h : MEnv τ i k) : MEnv ((1, .int .i64 k') :: τ) i k' :=
  ⟨by rw [tm_ne (by omega)]; exact h.a, by rw [tm_ne (by omega)]; exact h.i, tm_eq⟩
theorem mv_run {R : Type} {T : Tab} {d : Nat} {x : S} {r : List GI} {τ : Env} {H : Heap} {k : Env → Heap → Option R} : runR T (mvG d x :: r) τ H k = runR T r ((d, x.ev τ) :: τ) H k := rfl
theorem fa_run {T : Tab} {H : Heap} : ∀ (fs : List Nat) (s off : Nat) (τ : Env) (i k : Int), MEnv τ i k → 6 ≤ s → Tm.get τ s = .ptr 0 off → ∃ τ', MEnv τ' i k ∧ Tm.get τ' (s + fs.length) = .ptr 0 (off + fs.sum) ∧ (∀ m, m < s → Tm.get τ' m = Tm.get τ m) ∧
    ∀ (R : Type) (r : List GI) (kk : Env → Heap → Option R), runR T (faG s fs ++ r) τ H kk = runR T r τ' H kk
  | [], s, off, τ, i, k, hE, hs, h => ⟨τ, hE, by simpa using h, fun _ _ => rfl, fun _ _ _ => rfl⟩
  | o :: fs, s, off, τ, i, k, hE, hs, h => by
    obtain ⟨τ', h1, h2, h3, h4⟩ := fa_run fs (s + 1) (off + o) ((s + 1, .ptr 0 (off + o)) :: τ) i k (hE.put (by omega)) (by omega) tm_eq
    refine ⟨τ', h1, by simpa [Nat.add_assoc, Nat.add_comm, Nat.add_left_comm] using h2, fun m hm => by rw [h3 m (by omega), tm_ne (by omega)], fun R r kk => ?_⟩
    rw [← h4 R r kk]
    show (match S.ev τ (.t s) with
      | .ptr b o' => _
      | .aptr b i j => _
      | .eptr K v j => _
      | _ => none) = _
    simp only [S.ev, h]
    rfl
section
variable {T : Tab} {τ : Env} {A E B : List SV} {Rs : Heap} {sz i : Nat} {k : Int}
theorem ia_run {s a b : Nat} {cs : List SV} (ha : Tm.get τ a = .own 0) (hb : Tm.get τ b = .int .i64 (i : Int)) (hz : sz ≠ 0) (hi : i < cs.length / sz) {R : Type} {r : List GI} {kk : Env → Heap → Option R} :
    runR T (⟨some s, none, .ia sz (.t a) (.t b)⟩ :: r) τ (.cells cs 0 sz :: Rs) kk = runR T r ((s, .ptr 0 (i * sz)) :: τ) (.cells cs 0 sz :: Rs) kk := by
  have e : runR T (⟨some s, none, .ia sz (.t a) (.t b)⟩ :: r) τ (.cells cs 0 sz :: Rs) kk = iaI (.cells cs 0 sz :: Rs) sz (Tm.get τ a) (Tm.get τ b) fun v => runR T r ((s, v) :: τ) (.cells cs 0 sz :: Rs) kk := rfl
  rw [e, ha, hb, ia_open hz hi]
theorem up_run {d j : Nat} {n : Int} (hd : d ≠ j) (hd2 : d + 1 ≠ j) (h : Tm.get τ j = .int .i64 n) {R : Type} {H : Heap} {kk : Env → Heap → Option R} :
    runR T (upG d j) τ H kk = kk ((j, .int .i64 (w64 (n + 1))) :: (d + 1, .int .i64 (w64 (n + 1))) :: (d, .int .i64 n) :: τ) H := by
  have e : runR T (upG d j) τ H kk = binI .add (Tm.get ((d, Tm.get τ j) :: τ) d) (.int .i64 1) fun v => kk ((j, Tm.get ((d + 1, v) :: (d, Tm.get τ j) :: τ) (d + 1)) :: (d + 1, v) :: (d, Tm.get τ j) :: τ) H := rfl
  rw [e, tm_eq, h]
  have e2 : binI .add (.int .i64 n) (.int .i64 1) (fun v => kk ((j, Tm.get ((d + 1, v) :: (d, .int .i64 n) :: τ) (d + 1)) :: (d + 1, v) :: (d, .int .i64 n) :: τ) H) = kk ((j, Tm.get ((d + 1, SV.int .i64 (w64 (n + 1))) :: (d, .int .i64 n) :: τ) (d + 1)) :: (d + 1, SV.int .i64 (w64 (n + 1))) :: (d, .int .i64 n) :: τ) H := rfl
  rw [e2, tm_eq]
theorem ms_fld {s : Nat} {fs : List Nat} (hE : MEnv τ (i : Int) k) (hs : 6 ≤ s) (hA : A.length = i * sz) (hz : sz ≠ 0) (hi : i < (A ++ E ++ B).length / sz) (hj : fs.sum < E.length) :
    ∃ τ', MEnv τ' (i : Int) (w64 (k + 1)) ∧ ∀ (R : Type) (kk : Env → Heap → Option R), runRs T (msR sz s (.fld fs)) τ (.cells (A ++ E ++ B) 0 sz :: Rs) kk = kk τ' (.cells (A ++ E.set fs.sum (.int .i64 k) ++ B) 0 sz :: Rs) := by
  let τ1 : Env := (s + 2, .int .i64 k) :: (s + 1, .int .i64 (i : Int)) :: (s, .own 0) :: τ
  have e1 : MEnv τ1 (i : Int) k := ((hE.put hs).put (by omega)).put (by omega)
  obtain ⟨τ2, h1, h2, h3, h4⟩ := fa_run (T := T) (H := .cells (A ++ E ++ B) 0 sz :: Rs) fs (s + 3) (i * sz) ((s + 3, .ptr 0 (i * sz)) :: τ1) i k (e1.put (by omega)) (by omega) tm_eq
  refine ⟨_, ((h1.put (s := s + 4 + fs.length) (v := .int .i64 k) (by omega)).put (s := s + 4 + fs.length + 1) (v := .int .i64 (w64 (k + 1))) (by omega)).setk, fun R kk => ?_⟩
  have hk2 : Tm.get τ2 (s + 2) = .int .i64 k := by rw [h3 _ (by omega), tm_ne (by omega)]; exact tm_eq
  show runR T (mvG s (.t 0) :: mvG (s + 1) (.t 5) :: mvG (s + 2) (.t 1) :: _) τ _ _ = _
  rw [mv_run, mv_run, mv_run]
  have q0 : S.ev τ (.t 0) = .own 0 := hE.a
  have q5 : S.ev ((s, SV.own 0) :: τ) (.t 5) = .int .i64 (i : Int) := (hE.put hs).i
  have q1 : S.ev ((s + 1, SV.int .i64 (i : Int)) :: (s, SV.own 0) :: τ) (.t 1) = .int .i64 k := ((hE.put hs).put (by omega)).k
  rw [q0, q5, q1]
  show runR T (⟨some (s + 3), none, .ia sz (.t s) (.t (s + 1))⟩ :: (faG (s + 3) fs ++ [⟨none, none, .st 1 (.t (s + 3 + fs.length)) (.t (s + 2))⟩])) τ1 _ _ = _
  rw [ia_run (by show Tm.get τ1 s = _; rw [tm_ne (by omega), tm_ne (by omega)]; exact tm_eq) (by show Tm.get τ1 (s + 1) = _; rw [tm_ne (by omega)]; exact tm_eq) hz hi]
  rw [h4]
  show stI _ 1 (Tm.get τ2 (s + 3 + fs.length)) (Tm.get τ2 (s + 2)) _ = _
  rw [h2, hk2, st_open (by rw [hA]) hj]
  show runR T (upG (s + 4 + fs.length) 1) τ2 _ _ = _
  rw [up_run (by omega) (by omega) h1.k]
  rfl
theorem ms_call {s c f : Nat} {fs : List Nat} {RA RE RB : List Blk} {e : Kd} {x : List e.T} {y : List e.T × Int} {fn : List e.T × Int → Option (List e.T × Int)} {r : List TE} (hE : MEnv τ (i : Int) k) (hs : 6 ≤ s) (hA : A.length = i * sz) (hz : sz ≠ 0)
    (hi : i < (A ++ E ++ B).length / sz) (hc : E[fs.sum]? = some (.own (RA.length + 1 + c))) (hre : RE[c]? = some (childB e x)) (hT : T.te f = (TM.te ⟨.list e, false, fn⟩) :: r) (hfn : fn (x, k) = some y) :
    ∃ τ', MEnv τ' (i : Int) y.2 ∧ ∀ (R : Type) (kk : Env → Heap → Option R), runRs T (msR sz s (.call fs f)) τ (.cells (A ++ E ++ B) 0 sz :: (RA ++ RE ++ RB)) kk = kk τ' (.cells (A ++ E ++ B) 0 sz :: (RA ++ RE.set c (childB e y.1) ++ RB)) := by
  let τ1 : Env := (s + 1, .int .i64 (i : Int)) :: (s, .own 0) :: τ
  have e1 : MEnv τ1 (i : Int) k := (hE.put hs).put (by omega)
  obtain ⟨τ2, h1, h2, h3, h4⟩ := fa_run (T := T) (H := .cells (A ++ E ++ B) 0 sz :: (RA ++ RE ++ RB)) fs (s + 2) (i * sz) ((s + 2, .ptr 0 (i * sz)) :: τ1) i k (e1.put (by omega)) (by omega) tm_eq
  refine ⟨_, (((h1.put (s := s + 3 + fs.length) (v := .own (RA.length + 1 + c)) (by omega)).put (s := s + 4 + fs.length) (v := .int .i64 k) (by omega)).put (s := s + 5 + fs.length) (v := .int .i64 y.2) (by omega)).setk, fun R kk => ?_⟩
  show runR T (mvG s (.t 0) :: mvG (s + 1) (.t 5) :: _) τ _ _ = _
  rw [mv_run, mv_run]
  have q0 : S.ev τ (.t 0) = .own 0 := hE.a
  have q5 : S.ev ((s, SV.own 0) :: τ) (.t 5) = .int .i64 (i : Int) := (hE.put hs).i
  rw [q0, q5]
  show runR T (⟨some (s + 2), none, .ia sz (.t s) (.t (s + 1))⟩ :: (faG (s + 2) fs ++ _)) τ1 _ _ = _
  rw [ia_run (by show Tm.get τ1 s = _; rw [tm_ne (by omega)]; exact tm_eq) (by show Tm.get τ1 (s + 1) = _; exact tm_eq) hz hi]
  rw [h4]
  show ldI _ 1 false (Tm.get τ2 (s + 2 + fs.length)) _ = _
  rw [h2, ld_open (by rw [hA]) hc]
  show runR T (mvG (s + 4 + fs.length) (.t 1) :: _) ((s + 3 + fs.length, SV.own (RA.length + 1 + c)) :: τ2) _ _ = _
  rw [mv_run]
  have q1 : S.ev ((s + 3 + fs.length, SV.own (RA.length + 1 + c)) :: τ2) (.t 1) = .int .i64 k := (h1.put (by omega)).k
  rw [q1]
  show callL (T.te f) [Tm.get _ (s + 3 + fs.length), Tm.get _ (s + 4 + fs.length)] _ _ = _
  rw [tm_ne (by omega), tm_eq, tm_eq, hT, tm_call (zvP (by omega) hre), hfn, Option.bind_some]
  rw [zvO (by omega) (List.getElem?_eq_some_iff.1 hre).1]
  show runR T (mvG 1 (.t (s + 5 + fs.length)) :: []) ((s + 5 + fs.length, SV.int .i64 y.2) :: _) _ _ = _
  rw [mv_run]
  show kk ((1, Tm.get _ _) :: _) _ = _
  rw [tm_eq]
end
theorem zeb {P : Program} {T : Tab} {f : FuncId} {fn : Func} {c : Code} {e : Kd} (ms : List MS) (e0 : Nat) (g : e.T → Int → Option (e.T × Int)) {fnM : List e.T × Int → Option (List e.T × Int)} {frz : List Nat} {ann : List Norm} {cuts : List (Nat × Norm)} {j : Nat} (hT : TabOK P T) (hmix : P.follows .mixedOrders = true)
    (hf : P.funcs[f]? = some fn) (hb : fn.body = some c) (hl : lightC P frz fn.ntmps ann cuts 0 c = some (markC e.sz ms e0, j)) (ho : okC T c (markC e.sz ms e0) = true) (hn : 2 ≤ fn.ntmps) (hrv : lightRes P fn.results.toList = some [(4, none)]) (hz : e.sz ≠ 0) (he0 : 6 ≤ e0)
    (hfn : ∀ z, fnM z = if z.1.length ≤ 1048576 then markO g z.1 z.2 else none)
    (hm : ∀ (A B : List SV) (RA RB : List Blk) (i : Nat) (x x' : e.T) (k k' : Int) (τ : Env), g x k = some (x', k') → MEnv τ (i : Int) k → A.length = i * e.sz → i < (A ++ (expl e x (RA.length + 1)).1 ++ B).length / e.sz → ∃ τ', MEnv τ' (i : Int) k' ∧ ∀ (R : Type) (kk : Env → Heap → Option R),
      runRs T (msAll e.sz 12 ms) τ (.cells (A ++ (expl e x (RA.length + 1)).1 ++ B) 0 e.sz :: (RA ++ (expl e x (RA.length + 1)).2 ++ RB)) kk = kk τ' (.cells (A ++ (expl e x' (RA.length + 1)).1 ++ B) 0 e.sz :: (RA ++ (expl e x' (RA.length + 1)).2 ++ RB))) :
    FnSpecM P f ⟨.list e, false, fnM⟩ := by
  refine zvH (rv := [(4, none)]) hT hmix hf hb hl ho hn hrv (fun k y h => ?_) (fun xs k y _ h => ?_)
  · rw [hfn] at h
    have h : some (([] : List e.T), k) = some y := h
    simp only [Option.some.injEq] at h
    subst h
    refine ⟨rfl, 1, ?_⟩
    show evalRes ((4, Tm.get ((e0, SV.int .i64 k) :: [(9, SV.bool false), (8, .int .i64 0), (7, .es e []), (6, .int .i64 0), (5, .int .i64 0), (0, .es e []), (1, .int .i64 k)]) e0) :: _) [] _ = _
    rw [tm_eq]
    rfl
  · rw [hfn] at h
    split at h
    · rename_i hlen
      have hlen : xs.length ≤ 1048576 := hlen
      obtain ⟨zs, k'⟩ := y
      have hzl : zs.length = xs.length := zoT h
      refine ⟨xs.length + 1, ?_⟩
      have hdiv : ∀ {cs : List SV}, cs.length = xs.length * e.sz → cs.length / e.sz = xs.length := fun h => by rw [h]; exact Nat.mul_div_cancel _ (Nat.pos_of_ne_zero hz)
      have hhead : ∀ (R : Type) (i : Nat) (k : Int) (cs : List SV) (Rs : Heap) (kk : Env → Heap → Option R), cs.length = xs.length * e.sz → runR T [mvG 6 (.t 5), mvG 7 (.t 0), ⟨some 8, none, .len (.t 7)⟩, ⟨some 9, none, .bin .lss (.t 6) (.t 8)⟩] [(5, .int .i64 (i : Int)), (0, .own 0), (1, .int .i64 k)] (.cells cs 0 e.sz :: Rs) kk =
          kk [(9, .bool (decide ((i : Int) < ((cs.length / e.sz : Nat) : Int)))), (8, .int .i64 ((cs.length / e.sz : Nat) : Int)), (7, .own 0), (6, .int .i64 (i : Int)), (5, .int .i64 (i : Int)), (0, .own 0), (1, .int .i64 k)] (.cells cs 0 e.sz :: Rs) := by
        intro R i k cs Rs kk hcs
        rw [mv_run, mv_run]
        show (match lenOf (.cells cs 0 e.sz :: Rs) (.own 0) with
          | some n => _
          | none => none) = _
        simp only [lenOf, List.getElem?_cons_zero]
        rw [if_neg hz]
        rfl
      obtain ⟨τ, h3, hloop⟩ := zoW (T := T) (f2 := xs.length + 1) (n0 := (explL e xs 1).2.length + 1) (markBd e.sz ms) xs.length g (blkK 0 (seqK (run T ((explL e xs 1).2.length + 1) (xs.length + 1) (.seq (.reg false [mvG e0 (.t 1), mvG 4 (.t e0)]) .ret)) (endM [(4, none)] true (.list e) ((explL e xs 1).2.length + 1) [.own 0])))
        (fun A B RA RB i x x' k k' K hg hA hi hcl => by
          have hlt : i < (A ++ (expl e x (RA.length + 1)).1 ++ B).length / e.sz := by rw [hdiv hcl]; exact hi
          obtain ⟨τ', h1, h2⟩ := hm A B RA RB i x x' k k' [(9, .bool (decide ((i : Int) < (((A ++ (expl e x (RA.length + 1)).1 ++ B).length / e.sz : Nat) : Int)))), (8, .int .i64 (((A ++ (expl e x (RA.length + 1)).1 ++ B).length / e.sz : Nat) : Int)), (7, .own 0), (6, .int .i64 (i : Int)), (5, .int .i64 (i : Int)), (0, .own 0), (1, .int .i64 k)] hg ⟨rfl, rfl, rfl⟩ hA hlt
          refine ⟨(5, .int .i64 (w64 ((i : Int) + 1))) :: (11, .int .i64 (w64 ((i : Int) + 1))) :: (10, .int .i64 (i : Int)) :: τ', ?_, ?_⟩
          · rw [w64_up (by omega)]
            simp only [List.map_cons, List.map_nil, tm_eq]
            rw [tm_ne (by omega), tm_ne (by omega), tm_ne (by omega), tm_ne (by omega), tm_ne (by omega), tm_ne (by omega), h1.a, h1.k]
          · show runR T _ _ _ _ = _
            rw [hhead _ _ _ _ _ _ hcl]
            show cond (decide ((i : Int) < (((A ++ (expl e x (RA.length + 1)).1 ++ B).length / e.sz : Nat) : Int))) (run T _ _ (seqR (msAll e.sz 12 ms)) _ _ _) _ = _
            rw [decide_eq_true (by exact_mod_cast hlt), cond_true, zoX]
            have h2' := h2 _ (fun τ H => runR T (upG 10 5) τ H (K .normal))
            rw [decide_eq_true (by exact_mod_cast hlt)] at h2'
            refine Eq.trans h2' ?_
            rw [up_run (by omega) (by omega) h1.i])
        (fun cs Rs k K hcs => by
          refine ⟨[(9, .bool (decide ((xs.length : Int) < ((cs.length / e.sz : Nat) : Int)))), (8, .int .i64 ((cs.length / e.sz : Nat) : Int)), (7, .own 0), (6, .int .i64 (xs.length : Int)), (5, .int .i64 (xs.length : Int)), (0, .own 0), (1, .int .i64 k)], rfl, ?_⟩
          show runR T _ _ _ _ = _
          rw [hhead _ _ _ _ _ _ hcs]
          show cond (decide ((xs.length : Int) < ((cs.length / e.sz : Nat) : Int))) _ (K (.exit 0) _ _) = _
          rw [hdiv hcs, decide_eq_false (by omega), cond_false])
        xs [] k k' zs (by simp) rfl h
      show (match gc ((explL e xs 1).2.length + 1) [(5, .int .i64 (0 : Int)), (0, .own 0), (1, .int .i64 k)] (openH e xs) with
        | some (τ, H) => loopN (run T ((explL e xs 1).2.length + 1) (xs.length + 1) (markBd e.sz ms)) ((explL e xs 1).2.length + 1) markNm (xs.length + 1) τ H (blkK 0 (seqK (run T ((explL e xs 1).2.length + 1) (xs.length + 1) (.seq (.reg false [mvG e0 (.t 1), mvG 4 (.t e0)]) .ret)) (endM [(4, none)] true (.list e) ((explL e xs 1).2.length + 1) [.own 0])))
        | none => none) = _
      rw [gc_open rfl]
      refine Eq.trans hloop ?_
      show endM [(4, none)] true (.list e) ((explL e xs 1).2.length + 1) [.own 0] .ret ((4, Tm.get ((e0, Tm.get τ 1) :: τ) e0) :: (e0, Tm.get τ 1) :: τ) (openH e zs) = some (zs, k')
      rw [tm_eq, h3]
      have hnum : (explL e zs 1).2.length = (explL e xs 1).2.length := explL_num hzl
      unfold endM
      show (cond (Nat.beq (openH e zs).length ((explL e xs 1).2.length + 1)) _ none) = _
      rw [show (openH e zs).length = (explL e xs 1).2.length + 1 by simp [openH, hnum], show Nat.beq ((explL e xs 1).2.length + 1) ((explL e xs 1).2.length + 1) = true by simp, cond_true]
      rw [zbC (e := e) (xs := zs) (t := 0) hz rfl (fun j hj => by rw [Nat.add_comm, List.getElem?_cons_succ])]
      simp only [zag, cond_true]
    · cases h
where
  explL_num {e : Kd} : ∀ {xs ys : List e.T} {k l : Nat}, xs.length = ys.length → (explL e xs k).2.length = (explL e ys l).2.length
    | [], [], _, _, _ => rfl
    | [], _ :: _, _, _, h => by simp at h
    | _ :: _, [], _, _, h => by simp at h
    | x :: xs, y :: ys, k, l, h => by
      simp only [explL, List.length_append]
      rw [zea (x := x) (y := y) (l := l), explL_num (xs := xs) (ys := ys) (l := l + (expl e y l).2.length) (by simpa using h)]
end Go.Proofs.Ytmkekjmckdkcnaa.Den
namespace Go.Proofs.Ytmkekjmckdkcnaa.Den
open Go Go.RowKit
def endN (rv : List (Nat × Option (Nat × Bool))) (e : Kd) (ex : Ex) (τ : Env) (H : Heap) : Option (List e.T × ((Int × Unit) × Unit)) := (endM rv false (.list e) 1 [.own 0] ex τ H).map fun y => (y.1, ((y.2, ()), ()))
theorem zgo {T : Tab} {n0 f2 : Nat} {c : C} {τ : Env} {H : Heap} {rv : List (Nat × Option (Nat × Bool))} {e : Kd} {o : Option (List e.T × ((Int × Unit) × Unit))} {y : List e.T × Int} (h : run T n0 f2 c τ H (endN rv e) = o) (hy : (o.map fun y => (y.1, y.2.1.1)) = some y) :
    run T n0 f2 c τ H (endM rv false (.list e) 1 [.own 0]) = some y := by
  subst h
  rw [run_nat] at hy ⊢
  cases hr : run T n0 f2 c τ H fun e τ H => some ((e, τ, H) : ES) with
  | none => rw [hr] at hy; cases hy
  | some p =>
    rw [hr, Option.bind_some] at hy
    rw [Option.bind_some, ← hy]
    show endM rv false (.list e) 1 [.own 0] p.1 p.2.1 p.2.2 = Option.map _ (Option.map _ (endM rv false (.list e) 1 [.own 0] p.1 p.2.1 p.2.2))
    cases endM rv false (.list e) 1 [.own 0] p.1 p.2.1 p.2.2 <;> rfl
abbrev zaq := Option ((List Int) × ((Int × Unit) × Unit))
def zbY (fuel : Nat) : Tab := Tab.of [] []
abbrev zgW : List Pm := [{ cs := [(I6, false)], ag := false }]
def zkH : List Norm := [{ live := [5, 0, 1], fix := [] }]
noncomputable def zbZ : C := irOf Try.prog Try.f10 [] zkH []
theorem zqx : lightC Try.prog [] Try.f10.ntmps zkH [] 0 (bodyOf Try.f10) = some (zbZ, 1) := by kernel_rfl
def zb0 : List (Nat × Option (Nat × Bool)) := [(4, none)]
abbrev zaL := (Int) × (Int) × (List Int)
def zkI (v : zaL) : Env × Heap := ([(5, SV.int .i64 v.1), (0, SV.own 0), (1, SV.int .i64 v.2.1)], [Blk.arr I6 v.2.2 0])
def zb1 (fuel : Nat) (g0 : zaL → zaq) (v : zaL) : zaq :=
 cond (decide (v.1 < (zz (List.length v.2.2))))
 (tst (decide (0 ≤ v.1)) <|
 tst (decide (v.1 < (zz (List.length v.2.2)))) <|
 tst (decide (Int.toNat v.1 < List.length v.2.2)) <|
 g0 (w64 (v.1 + (1 : Int)), w64 (v.2.1 + (1 : Int)), List.set v.2.2 (Int.toNat v.1) v.2.1))
 (some ((v.2.2, (v.2.1, ()), ())))
def zgX (fuel : Nat) (g0 : zaL → zaq) : zaL → zaq := zb1 fuel g0
theorem zqy (fuel : Nat) (G) : zbZ.lp (zbY fuel) 1 fuel G (endN zb0 I6) 0 zkI = iter (zgX fuel) fuel := C.lp_iter fun g v => by kernel_rfl
def zkJ (fuel : Nat) (X0 : zaL → zaq) (d0 : List Int) (x0 : Int) : zaq :=
 X0 ((0 : Int), x0, d0)
def zgY (fuel : Nat) (z : (List Int) × Unit × ((Int × Unit) × Unit)) : zaq := zkJ fuel (iter (zgX fuel) fuel) z.1 z.2.2.1.1
theorem zqz (fuel : Nat) (c : List (Kd.T I6)) (d : CsT []) (x : PsT zgW) : run (zbY fuel) 1 fuel zbZ ((0, firstV false 0 (svCs [] d)) :: env0 (svPs zgW x) 1) [.arr I6 c 0] (endN zb0 I6) = zgY fuel (c, d, x) :=
  (show run (zbY fuel) 1 fuel zbZ ((0, firstV false 0 (svCs [] d)) :: env0 (svPs zgW x) 1) [.arr I6 c 0] (endN zb0 I6) = zkJ fuel (zbZ.lp (zbY fuel) 1 fuel (fun _ _ _ => none) (endN zb0 I6) 0 zkI) c x.1.1 by kernel_rfl).trans (by rw [zqy]; rfl)
def zaM (fuel : Nat) (z : List (Kd.T I6) × Int) : Option (List (Kd.T I6) × Int) := (zgY fuel (z.1, (), ((z.2, ()), ()))).map fun y => (y.1, y.2.1.1)
def zb2 (fuel : Nat) : TM := ⟨.list I6, false, zaM fuel⟩
theorem zqA (fuel : Nat) : FnSpecM Try.prog 10 (zb2 fuel) :=
  zd8 (T := zbY fuel) (c := bodyOf Try.f10) (fn := Try.f10) (TabOK.of (entNil) (methNil)) mixed (by kernel_rfl) (by kernel_rfl) zqx (by kernel_rfl) (Nat.le_of_ble_eq_true (by kernel_rfl)) (rv := zb0) (by kernel_rfl) (fun x k y h => ⟨fuel, zgo (zqz fuel x () ((k, ()), ())) h⟩)
theorem zgZ (fuel : Nat) : EntryOK Try.prog 10 (zb2 fuel).te := EntryOK.tm (zqA fuel) (isFn (fn := Try.f10) (by kernel_rfl) (by kernel_rfl) (by kernel_rfl))
abbrev zar := Option (LP × ((Int × Unit) × Unit))
def zb3 (fuel : Nat) : Tab := Tab.of [] []
abbrev zg0 : List Pm := [{ cs := [(I6, false)], ag := false }]
def zkK : List Norm := [{ live := [5, 0, 1], fix := [] }]
noncomputable def zb4 : C := irOf Try.prog Try.f72 [] zkK []
theorem zqB : lightC Try.prog [] Try.f72.ntmps zkK [] 0 (bodyOf Try.f72) = some (zb4, 1) := by kernel_rfl
def zb5 : List (Nat × Option (Nat × Bool)) := [(4, none)]
abbrev zaN := (Int) × (Int) × LP
def zkL (v : zaN) : Env × Heap := ([(5, SV.int .i64 v.1), (0, SV.own 0), (1, SV.int .i64 v.2.1)], [Blk.arr KP v.2.2 0])
def zb6 (fuel : Nat) (g0 : zaN → zar) (v : zaN) : zar :=
 cond (decide (v.1 < (zz (List.length v.2.2))))
 (tst (decide (0 ≤ v.1)) <|
 tst (decide (v.1 < (zz (List.length v.2.2)))) <|
 tst (decide (Int.toNat v.1 < List.length v.2.2)) <|
 tst (decide (0 ≤ v.1)) <|
 tst (decide (v.1 < (zz (List.length (List.set v.2.2 (Int.toNat v.1) (v.2.1, (List.getD v.2.2 (Int.toNat v.1) (0, (0, ()))).2.1, ())))))) <|
 tst (decide (Int.toNat v.1 < List.length (List.set v.2.2 (Int.toNat v.1) (v.2.1, (List.getD v.2.2 (Int.toNat v.1) (0, (0, ()))).2.1, ())))) <|
 g0 (w64 (v.1 + (1 : Int)), w64 (w64 (v.2.1 + (1 : Int)) + (1 : Int)), List.set (List.set v.2.2 (Int.toNat v.1) (v.2.1, (List.getD v.2.2 (Int.toNat v.1) (0, (0, ()))).2.1, ())) (Int.toNat v.1) ((List.getD (List.set v.2.2 (Int.toNat v.1) (v.2.1, (List.getD v.2.2 (Int.toNat v.1) (0, (0, ()))).2.1, ())) (Int.toNat v.1) (0, (0, ()))).1, w64 (v.2.1 + (1 : Int)), ())))
 (some ((v.2.2, (v.2.1, ()), ())))
def zg1 (fuel : Nat) (g0 : zaN → zar) : zaN → zar := zb6 fuel g0
theorem zqC (fuel : Nat) (G) : zb4.lp (zb3 fuel) 1 fuel G (endN zb5 KP) 0 zkL = iter (zg1 fuel) fuel := C.lp_iter fun g v => by kernel_rfl
def zkM (fuel : Nat) (X0 : zaN → zar) (d0 : LP) (x0 : Int) : zar :=
 X0 ((0 : Int), x0, d0)
def zg2 (fuel : Nat) (z : LP × Unit × ((Int × Unit) × Unit)) : zar := zkM fuel (iter (zg1 fuel) fuel) z.1 z.2.2.1.1
theorem zqD (fuel : Nat) (c : List (Kd.T KP)) (d : CsT []) (x : PsT zg0) : run (zb3 fuel) 1 fuel zb4 ((0, firstV false 0 (svCs [] d)) :: env0 (svPs zg0 x) 1) [.arr KP c 0] (endN zb5 KP) = zg2 fuel (c, d, x) :=
  (show run (zb3 fuel) 1 fuel zb4 ((0, firstV false 0 (svCs [] d)) :: env0 (svPs zg0 x) 1) [.arr KP c 0] (endN zb5 KP) = zkM fuel (zb4.lp (zb3 fuel) 1 fuel (fun _ _ _ => none) (endN zb5 KP) 0 zkL) c x.1.1 by kernel_rfl).trans (by rw [zqC]; rfl)
def zeE (fuel : Nat) (z : List (Kd.T KP) × Int) : Option (List (Kd.T KP) × Int) := (zg2 fuel (z.1, (), ((z.2, ()), ()))).map fun y => (y.1, y.2.1.1)
def zg3 (fuel : Nat) : TM := ⟨.list KP, false, zeE fuel⟩
theorem zqE (fuel : Nat) : FnSpecM Try.prog 72 (zg3 fuel) :=
  zd8 (T := zb3 fuel) (c := bodyOf Try.f72) (fn := Try.f72) (TabOK.of (entNil) (methNil)) mixed (by kernel_rfl) (by kernel_rfl) zqB (by kernel_rfl) (Nat.le_of_ble_eq_true (by kernel_rfl)) (rv := zb5) (by kernel_rfl) (fun x k y h => ⟨fuel, zgo (zqD fuel x () ((k, ()), ())) h⟩)
theorem zqF (fuel : Nat) : EntryOK Try.prog 72 (zg3 fuel).te := EntryOK.tm (zqE fuel) (isFn (fn := Try.f72) (by kernel_rfl) (by kernel_rfl) (by kernel_rfl))
abbrev zas := Option (LP × ((Int × Unit) × Unit))
def zb7 (fuel : Nat) : Tab := Tab.of [] []
abbrev zg4 : List Pm := [{ cs := [(I6, false)], ag := false }]
def zkN : List Norm := [{ live := [5, 0, 1], fix := [] }]
noncomputable def zb8 : C := irOf Try.prog Try.f73 [] zkN []
theorem zqG : lightC Try.prog [] Try.f73.ntmps zkN [] 0 (bodyOf Try.f73) = some (zb8, 1) := by kernel_rfl
def zb9 : List (Nat × Option (Nat × Bool)) := [(4, none)]
abbrev zaO := (Int) × (Int) × LP
def zkO (v : zaO) : Env × Heap := ([(5, SV.int .i64 v.1), (0, SV.own 0), (1, SV.int .i64 v.2.1)], [Blk.arr KP v.2.2 0])
def zca (fuel : Nat) (g0 : zaO → zas) (v : zaO) : zas :=
 cond (decide (v.1 < (zz (List.length v.2.2))))
 (tst (decide (0 ≤ v.1)) <|
 tst (decide (v.1 < (zz (List.length v.2.2)))) <|
 tst (decide (Int.toNat v.1 < List.length v.2.2)) <|
 tst (decide (0 ≤ v.1)) <|
 tst (decide (v.1 < (zz (List.length (List.set v.2.2 (Int.toNat v.1) (v.2.1, (List.getD v.2.2 (Int.toNat v.1) (0, (0, ()))).2.1, ())))))) <|
 tst (decide (Int.toNat v.1 < List.length (List.set v.2.2 (Int.toNat v.1) (v.2.1, (List.getD v.2.2 (Int.toNat v.1) (0, (0, ()))).2.1, ())))) <|
 g0 (w64 (v.1 + (1 : Int)), w64 (w64 (v.2.1 + (1 : Int)) + (1 : Int)), List.set (List.set v.2.2 (Int.toNat v.1) (v.2.1, (List.getD v.2.2 (Int.toNat v.1) (0, (0, ()))).2.1, ())) (Int.toNat v.1) ((List.getD (List.set v.2.2 (Int.toNat v.1) (v.2.1, (List.getD v.2.2 (Int.toNat v.1) (0, (0, ()))).2.1, ())) (Int.toNat v.1) (0, (0, ()))).1, w64 (v.2.1 + (1 : Int)), ())))
 (some ((v.2.2, (v.2.1, ()), ())))
def zg5 (fuel : Nat) (g0 : zaO → zas) : zaO → zas := zca fuel g0
theorem zqH (fuel : Nat) (G) : zb8.lp (zb7 fuel) 1 fuel G (endN zb9 KP) 0 zkO = iter (zg5 fuel) fuel := C.lp_iter fun g v => by kernel_rfl
def zkP (fuel : Nat) (X0 : zaO → zas) (d0 : LP) (x0 : Int) : zas :=
 X0 ((0 : Int), x0, d0)
def zg6 (fuel : Nat) (z : LP × Unit × ((Int × Unit) × Unit)) : zas := zkP fuel (iter (zg5 fuel) fuel) z.1 z.2.2.1.1
theorem zqI (fuel : Nat) (c : List (Kd.T KP)) (d : CsT []) (x : PsT zg4) : run (zb7 fuel) 1 fuel zb8 ((0, firstV false 0 (svCs [] d)) :: env0 (svPs zg4 x) 1) [.arr KP c 0] (endN zb9 KP) = zg6 fuel (c, d, x) :=
  (show run (zb7 fuel) 1 fuel zb8 ((0, firstV false 0 (svCs [] d)) :: env0 (svPs zg4 x) 1) [.arr KP c 0] (endN zb9 KP) = zkP fuel (zb8.lp (zb7 fuel) 1 fuel (fun _ _ _ => none) (endN zb9 KP) 0 zkO) c x.1.1 by kernel_rfl).trans (by rw [zqH]; rfl)
def zeF (fuel : Nat) (z : List (Kd.T KP) × Int) : Option (List (Kd.T KP) × Int) := (zg6 fuel (z.1, (), ((z.2, ()), ()))).map fun y => (y.1, y.2.1.1)
def zg7 (fuel : Nat) : TM := ⟨.list KP, false, zeF fuel⟩
theorem zqJ (fuel : Nat) : FnSpecM Try.prog 73 (zg7 fuel) :=
  zd8 (T := zb7 fuel) (c := bodyOf Try.f73) (fn := Try.f73) (TabOK.of (entNil) (methNil)) mixed (by kernel_rfl) (by kernel_rfl) zqG (by kernel_rfl) (Nat.le_of_ble_eq_true (by kernel_rfl)) (rv := zb9) (by kernel_rfl) (fun x k y h => ⟨fuel, zgo (zqI fuel x () ((k, ()), ())) h⟩)
theorem zqK (fuel : Nat) : EntryOK Try.prog 73 (zg7 fuel).te := EntryOK.tm (zqJ fuel) (isFn (fn := Try.f73) (by kernel_rfl) (by kernel_rfl) (by kernel_rfl))
abbrev zat := Option ((List Bool) × ((Int × Unit) × Unit))
def zcb (fuel : Nat) : Tab := Tab.of [] []
abbrev zg8 : List Pm := [{ cs := [(I6, false)], ag := false }]
def zkQ : List Norm := [{ live := [5, 0, 1], fix := [] }]
noncomputable def zcc : C := irOf Try.prog Try.f30 [] zkQ []
theorem zqL : lightC Try.prog [] Try.f30.ntmps zkQ [] 0 (bodyOf Try.f30) = some (zcc, 1) := by kernel_rfl
def zcd : List (Nat × Option (Nat × Bool)) := [(4, none)]
abbrev zaP := (Int) × (Int) × (List Bool)
def zkR (v : zaP) : Env × Heap := ([(5, SV.int .i64 v.1), (0, SV.own 0), (1, SV.int .i64 v.2.1)], [Blk.arr Kd.bool v.2.2 0])
def zce (fuel : Nat) (g0 : zaP → zat) (v : zaP) : zat :=
 cond (decide (v.1 < (zz (List.length v.2.2))))
 (tst (decide (0 ≤ v.1)) <|
 tst (decide (v.1 < (zz (List.length v.2.2)))) <|
 tst (decide (Int.toNat v.1 < List.length v.2.2)) <|
 g0 (w64 (v.1 + (1 : Int)), w64 (v.2.1 + (1 : Int)), List.set v.2.2 (Int.toNat v.1) (Int.tmod v.2.1 (3 : Int) == (0 : Int))))
 (some ((v.2.2, (v.2.1, ()), ())))
def zg9 (fuel : Nat) (g0 : zaP → zat) : zaP → zat := zce fuel g0
theorem zqM (fuel : Nat) (G) : zcc.lp (zcb fuel) 1 fuel G (endN zcd Kd.bool) 0 zkR = iter (zg9 fuel) fuel := C.lp_iter fun g v => by kernel_rfl
def zkS (fuel : Nat) (X0 : zaP → zat) (d0 : List Bool) (x0 : Int) : zat :=
 X0 ((0 : Int), x0, d0)
def zha (fuel : Nat) (z : (List Bool) × Unit × ((Int × Unit) × Unit)) : zat := zkS fuel (iter (zg9 fuel) fuel) z.1 z.2.2.1.1
theorem zqN (fuel : Nat) (c : List (Kd.T Kd.bool)) (d : CsT []) (x : PsT zg8) : run (zcb fuel) 1 fuel zcc ((0, firstV false 0 (svCs [] d)) :: env0 (svPs zg8 x) 1) [.arr Kd.bool c 0] (endN zcd Kd.bool) = zha fuel (c, d, x) :=
  (show run (zcb fuel) 1 fuel zcc ((0, firstV false 0 (svCs [] d)) :: env0 (svPs zg8 x) 1) [.arr Kd.bool c 0] (endN zcd Kd.bool) = zkS fuel (zcc.lp (zcb fuel) 1 fuel (fun _ _ _ => none) (endN zcd Kd.bool) 0 zkR) c x.1.1 by kernel_rfl).trans (by rw [zqM]; rfl)
def zcf (fuel : Nat) (z : List (Kd.T Kd.bool) × Int) : Option (List (Kd.T Kd.bool) × Int) := (zha fuel (z.1, (), ((z.2, ()), ()))).map fun y => (y.1, y.2.1.1)
def zhb (fuel : Nat) : TM := ⟨.list Kd.bool, false, zcf fuel⟩
theorem zqO (fuel : Nat) : FnSpecM Try.prog 30 (zhb fuel) :=
  zd8 (T := zcb fuel) (c := bodyOf Try.f30) (fn := Try.f30) (TabOK.of (entNil) (methNil)) mixed (by kernel_rfl) (by kernel_rfl) zqL (by kernel_rfl) (Nat.le_of_ble_eq_true (by kernel_rfl)) (rv := zcd) (by kernel_rfl) (fun x k y h => ⟨fuel, zgo (zqN fuel x () ((k, ()), ())) h⟩)
theorem zqP (fuel : Nat) : EntryOK Try.prog 30 (zhb fuel).te := EntryOK.tm (zqO fuel) (isFn (fn := Try.f30) (by kernel_rfl) (by kernel_rfl) (by kernel_rfl))
def zhc (fuel : Nat) : Tab := Tab.of [(10, (zb2 fuel).te)] []
def zhd : List MS := [.call [] 10]
def zcg (fuel : Nat) (x : Kd.T (Kd.list I6)) (k : Int) : Option (Kd.T (Kd.list I6) × Int) :=
  Option.bind (zaM fuel (x, k)) fun y1 =>
  some (y1.1, y1.2)
def zch (fuel : Nat) (z : List (Kd.T (Kd.list I6)) × Int) : Option (List (Kd.T (Kd.list I6)) × Int) := if z.1.length ≤ 1048576 then markO (zcg fuel) z.1 z.2 else none
def zeG (fuel : Nat) : TM := ⟨.list (Kd.list I6), false, zch fuel⟩
theorem zqQ : lightC Try.prog [] Try.f56.ntmps [markNm] [] 0 (bodyOf Try.f56) = some (markC 1 zhd 18, 1) := by kernel_rfl
theorem zqR (fuel : Nat) (A B : List SV) (RA RB : List Blk) (i : Nat) (x x' : Kd.T (Kd.list I6)) (k k' : Int) (τ : Env) (hg : zcg fuel x k = some (x', k')) (hE : MEnv τ (i : Int) k) (hA : A.length = i * 1) (hi : i < (A ++ (expl (Kd.list I6) x (RA.length + 1)).1 ++ B).length / 1) : ∃ τ', MEnv τ' (i : Int) k' ∧ ∀ (R : Type) (kk : Env → Heap → Option R),
      runRs (zhc fuel) (msAll 1 12 zhd) τ (.cells (A ++ (expl (Kd.list I6) x (RA.length + 1)).1 ++ B) 0 1 :: (RA ++ (expl (Kd.list I6) x (RA.length + 1)).2 ++ RB)) kk = kk τ' (.cells (A ++ (expl (Kd.list I6) x' (RA.length + 1)).1 ++ B) 0 1 :: (RA ++ (expl (Kd.list I6) x' (RA.length + 1)).2 ++ RB)) := by
  unfold zcg at hg
  obtain ⟨y1, c1, hg⟩ := Option.bind_eq_some_iff.1 hg
  simp only [Option.some.injEq, Prod.mk.injEq] at hg
  obtain ⟨rfl, rfl⟩ := hg
  obtain ⟨t0, h0, r0⟩ := ms_call (T := zhc fuel) (s := 12) (c := 0) (f := 10) (fs := []) (E := (expl (Kd.list I6) x (RA.length + 1)).1) (B := B) (RA := RA) (RE := (expl (Kd.list I6) x (RA.length + 1)).2) (RB := RB) hE (by omega) hA (by decide) (by simpa only [List.length_append, List.length_set] using hi) rfl rfl rfl c1
  exact ⟨t0, h0, fun R kk => (ze.trans (r0 R _))⟩
theorem zqS (fuel : Nat) : FnSpecM Try.prog 56 (zeG fuel) :=
  zeb (T := zhc fuel) (c := bodyOf Try.f56) (fn := Try.f56) (e := (Kd.list I6)) zhd 18 (zcg fuel) (TabOK.of (entCons (zgZ fuel) (entNil)) methNil) mixed (by kernel_rfl) (by kernel_rfl) zqQ (by kernel_rfl) (Nat.le_of_ble_eq_true (by kernel_rfl)) (by kernel_rfl) (by decide) (by decide) (fun z => rfl) (zqR fuel)
theorem zkT (fuel : Nat) : EntryOK Try.prog 56 (zeG fuel).te := EntryOK.tm (zqS fuel) (isFn (fn := Try.f56) (by kernel_rfl) (by kernel_rfl) (by kernel_rfl))
def zhe (fuel : Nat) : Tab := Tab.of [(56, (zeG fuel).te)] []
def zhf : List MS := [.call [] 56]
def zci (fuel : Nat) (x : Kd.T (Kd.list (Kd.list I6))) (k : Int) : Option (Kd.T (Kd.list (Kd.list I6)) × Int) :=
  Option.bind (zch fuel (x, k)) fun y1 =>
  some (y1.1, y1.2)
def zcj (fuel : Nat) (z : List (Kd.T (Kd.list (Kd.list I6))) × Int) : Option (List (Kd.T (Kd.list (Kd.list I6))) × Int) := if z.1.length ≤ 1048576 then markO (zci fuel) z.1 z.2 else none
def zhg (fuel : Nat) : TM := ⟨.list (Kd.list (Kd.list I6)), false, zcj fuel⟩
theorem zqT : lightC Try.prog [] Try.f32.ntmps [markNm] [] 0 (bodyOf Try.f32) = some (markC 1 zhf 18, 1) := by kernel_rfl
theorem zqU (fuel : Nat) (A B : List SV) (RA RB : List Blk) (i : Nat) (x x' : Kd.T (Kd.list (Kd.list I6))) (k k' : Int) (τ : Env) (hg : zci fuel x k = some (x', k')) (hE : MEnv τ (i : Int) k) (hA : A.length = i * 1) (hi : i < (A ++ (expl (Kd.list (Kd.list I6)) x (RA.length + 1)).1 ++ B).length / 1) : ∃ τ', MEnv τ' (i : Int) k' ∧ ∀ (R : Type) (kk : Env → Heap → Option R),
      runRs (zhe fuel) (msAll 1 12 zhf) τ (.cells (A ++ (expl (Kd.list (Kd.list I6)) x (RA.length + 1)).1 ++ B) 0 1 :: (RA ++ (expl (Kd.list (Kd.list I6)) x (RA.length + 1)).2 ++ RB)) kk = kk τ' (.cells (A ++ (expl (Kd.list (Kd.list I6)) x' (RA.length + 1)).1 ++ B) 0 1 :: (RA ++ (expl (Kd.list (Kd.list I6)) x' (RA.length + 1)).2 ++ RB)) := by
  unfold zci at hg
  obtain ⟨y1, c1, hg⟩ := Option.bind_eq_some_iff.1 hg
  simp only [Option.some.injEq, Prod.mk.injEq] at hg
  obtain ⟨rfl, rfl⟩ := hg
  obtain ⟨t0, h0, r0⟩ := ms_call (T := zhe fuel) (s := 12) (c := 0) (f := 56) (fs := []) (E := (expl (Kd.list (Kd.list I6)) x (RA.length + 1)).1) (B := B) (RA := RA) (RE := (expl (Kd.list (Kd.list I6)) x (RA.length + 1)).2) (RB := RB) hE (by omega) hA (by decide) (by simpa only [List.length_append, List.length_set] using hi) rfl rfl rfl c1
  exact ⟨t0, h0, fun R kk => (ze.trans (r0 R _))⟩
theorem zqV (fuel : Nat) : FnSpecM Try.prog 32 (zhg fuel) :=
  zeb (T := zhe fuel) (c := bodyOf Try.f32) (fn := Try.f32) (e := (Kd.list (Kd.list I6))) zhf 18 (zci fuel) (TabOK.of (entCons (zkT fuel) (entNil)) methNil) mixed (by kernel_rfl) (by kernel_rfl) zqT (by kernel_rfl) (Nat.le_of_ble_eq_true (by kernel_rfl)) (by kernel_rfl) (by decide) (by decide) (fun z => rfl) (zqU fuel)
theorem zqW (fuel : Nat) : EntryOK Try.prog 32 (zhg fuel).te := EntryOK.tm (zqV fuel) (isFn (fn := Try.f32) (by kernel_rfl) (by kernel_rfl) (by kernel_rfl))
def zu (fuel : Nat) : Tab := Tab.of [(56, (zeG fuel).te), (10, (zb2 fuel).te), (72, (zg3 fuel).te), (73, (zg7 fuel).te)] []
def zhh : List MS := [.fld [0], .fld [1], .fld [2], .call [3, 0, 0] 56, .call [3, 1, 0] 10, .call [3, 2, 0] 72, .fld [3, 2, 1], .fld [3, 2, 2], .call [3, 5, 0] 73, .fld [3, 5, 1]]
def zck (fuel : Nat) (x : Kd.T KE) (k : Int) : Option (Kd.T KE × Int) :=
  Option.bind (zch fuel (x.2.2.2.1.1.1, w64 (w64 (w64 (k + 1) + 1) + 1))) fun y1 =>
  Option.bind (zaM fuel (x.2.2.2.1.2.1.1, y1.2)) fun y2 =>
  Option.bind (zeE fuel (x.2.2.2.1.2.2.1.1, y2.2)) fun y3 =>
  Option.bind (zeF fuel (x.2.2.2.1.2.2.2.1.1, w64 (w64 (y3.2 + 1) + 1))) fun y4 =>
  some ((k, w64 (k + 1), w64 (w64 (k + 1) + 1), ((y1.1, ()), (y2.1, ()), (y3.1, y3.2, w64 (y3.2 + 1), ()), (y4.1, y4.2, ()), ()), ()), w64 (y4.2 + 1))
def zcl (fuel : Nat) (z : List (Kd.T KE) × Int) : Option (List (Kd.T KE) × Int) := if z.1.length ≤ 1048576 then markO (zck fuel) z.1 z.2 else none
def zeH (fuel : Nat) : TM := ⟨.list KE, false, zcl fuel⟩
theorem zqX : lightC Try.prog [] Try.f55.ntmps [markNm] [] 0 (bodyOf Try.f55) = some (markC 10 zhh 96, 1) := by kernel_rfl
theorem zqY (fuel : Nat) (A B : List SV) (RA RB : List Blk) (i : Nat) (x x' : Kd.T KE) (k k' : Int) (τ : Env) (hg : zck fuel x k = some (x', k')) (hE : MEnv τ (i : Int) k) (hA : A.length = i * 10) (hi : i < (A ++ (expl KE x (RA.length + 1)).1 ++ B).length / 10) : ∃ τ', MEnv τ' (i : Int) k' ∧ ∀ (R : Type) (kk : Env → Heap → Option R),
      runRs (zu fuel) (msAll 10 12 zhh) τ (.cells (A ++ (expl KE x (RA.length + 1)).1 ++ B) 0 10 :: (RA ++ (expl KE x (RA.length + 1)).2 ++ RB)) kk = kk τ' (.cells (A ++ (expl KE x' (RA.length + 1)).1 ++ B) 0 10 :: (RA ++ (expl KE x' (RA.length + 1)).2 ++ RB)) := by
  unfold zck at hg
  obtain ⟨y1, c1, hg⟩ := Option.bind_eq_some_iff.1 hg
  obtain ⟨y2, c2, hg⟩ := Option.bind_eq_some_iff.1 hg
  obtain ⟨y3, c3, hg⟩ := Option.bind_eq_some_iff.1 hg
  obtain ⟨y4, c4, hg⟩ := Option.bind_eq_some_iff.1 hg
  simp only [Option.some.injEq, Prod.mk.injEq] at hg
  obtain ⟨rfl, rfl⟩ := hg
  obtain ⟨t0, h0, r0⟩ := ms_fld (T := zu fuel) (s := 12) (fs := [0]) (E := (expl KE x (RA.length + 1)).1) (B := B) (Rs := RA ++ (expl KE x (RA.length + 1)).2 ++ RB) hE (by omega) hA (by decide) (by simpa only [List.length_append, List.length_set] using hi) (show 0 < 10 by decide)
  obtain ⟨t1, h1, r1⟩ := ms_fld (T := zu fuel) (s := 19) (fs := [1]) (E := ((expl KE x (RA.length + 1)).1.set 0 (.int .i64 (k)))) (B := B) (Rs := RA ++ (expl KE x (RA.length + 1)).2 ++ RB) h0 (by omega) hA (by decide) (by simpa only [List.length_append, List.length_set] using hi) (show 1 < 10 by decide)
  obtain ⟨t2, h2, r2⟩ := ms_fld (T := zu fuel) (s := 26) (fs := [2]) (E := (((expl KE x (RA.length + 1)).1.set 0 (.int .i64 (k))).set 1 (.int .i64 (w64 (k + 1))))) (B := B) (Rs := RA ++ (expl KE x (RA.length + 1)).2 ++ RB) h1 (by omega) hA (by decide) (by simpa only [List.length_append, List.length_set] using hi) (show 2 < 10 by decide)
  obtain ⟨t3, h3, r3⟩ := ms_call (T := zu fuel) (s := 33) (c := 0) (f := 56) (fs := [3, 0, 0]) (E := ((((expl KE x (RA.length + 1)).1.set 0 (.int .i64 (k))).set 1 (.int .i64 (w64 (k + 1)))).set 2 (.int .i64 (w64 (w64 (k + 1) + 1))))) (B := B) (RA := RA) (RE := (expl KE x (RA.length + 1)).2) (RB := RB) h2 (by omega) hA (by decide) (by simpa only [List.length_append, List.length_set] using hi) rfl rfl rfl c1
  obtain ⟨t4, h4, r4⟩ := ms_call (T := zu fuel) (s := 42) (c := 1) (f := 10) (fs := [3, 1, 0]) (E := ((((expl KE x (RA.length + 1)).1.set 0 (.int .i64 (k))).set 1 (.int .i64 (w64 (k + 1)))).set 2 (.int .i64 (w64 (w64 (k + 1) + 1))))) (B := B) (RA := RA) (RE := ((expl KE x (RA.length + 1)).2.set 0 (childB _ y1.1))) (RB := RB) h3 (by omega) hA (by decide) (by simpa only [List.length_append, List.length_set] using hi) rfl rfl rfl c2
  obtain ⟨t5, h5, r5⟩ := ms_call (T := zu fuel) (s := 51) (c := 2) (f := 72) (fs := [3, 2, 0]) (E := ((((expl KE x (RA.length + 1)).1.set 0 (.int .i64 (k))).set 1 (.int .i64 (w64 (k + 1)))).set 2 (.int .i64 (w64 (w64 (k + 1) + 1))))) (B := B) (RA := RA) (RE := (((expl KE x (RA.length + 1)).2.set 0 (childB _ y1.1)).set 1 (childB _ y2.1))) (RB := RB) h4 (by omega) hA (by decide) (by simpa only [List.length_append, List.length_set] using hi) rfl rfl rfl c3
  obtain ⟨t6, h6, r6⟩ := ms_fld (T := zu fuel) (s := 60) (fs := [3, 2, 1]) (E := ((((expl KE x (RA.length + 1)).1.set 0 (.int .i64 (k))).set 1 (.int .i64 (w64 (k + 1)))).set 2 (.int .i64 (w64 (w64 (k + 1) + 1))))) (B := B) (Rs := RA ++ ((((expl KE x (RA.length + 1)).2.set 0 (childB _ y1.1)).set 1 (childB _ y2.1)).set 2 (childB _ y3.1)) ++ RB) h5 (by omega) hA (by decide) (by simpa only [List.length_append, List.length_set] using hi) (show 6 < 10 by decide)
  obtain ⟨t7, h7, r7⟩ := ms_fld (T := zu fuel) (s := 69) (fs := [3, 2, 2]) (E := (((((expl KE x (RA.length + 1)).1.set 0 (.int .i64 (k))).set 1 (.int .i64 (w64 (k + 1)))).set 2 (.int .i64 (w64 (w64 (k + 1) + 1)))).set 6 (.int .i64 (y3.2)))) (B := B) (Rs := RA ++ ((((expl KE x (RA.length + 1)).2.set 0 (childB _ y1.1)).set 1 (childB _ y2.1)).set 2 (childB _ y3.1)) ++ RB) h6 (by omega) hA (by decide) (by simpa only [List.length_append, List.length_set] using hi) (show 7 < 10 by decide)
  obtain ⟨t8, h8, r8⟩ := ms_call (T := zu fuel) (s := 78) (c := 3) (f := 73) (fs := [3, 5, 0]) (E := ((((((expl KE x (RA.length + 1)).1.set 0 (.int .i64 (k))).set 1 (.int .i64 (w64 (k + 1)))).set 2 (.int .i64 (w64 (w64 (k + 1) + 1)))).set 6 (.int .i64 (y3.2))).set 7 (.int .i64 (w64 (y3.2 + 1))))) (B := B) (RA := RA) (RE := ((((expl KE x (RA.length + 1)).2.set 0 (childB _ y1.1)).set 1 (childB _ y2.1)).set 2 (childB _ y3.1))) (RB := RB) h7 (by omega) hA (by decide) (by simpa only [List.length_append, List.length_set] using hi) rfl rfl rfl c4
  obtain ⟨t9, h9, r9⟩ := ms_fld (T := zu fuel) (s := 87) (fs := [3, 5, 1]) (E := ((((((expl KE x (RA.length + 1)).1.set 0 (.int .i64 (k))).set 1 (.int .i64 (w64 (k + 1)))).set 2 (.int .i64 (w64 (w64 (k + 1) + 1)))).set 6 (.int .i64 (y3.2))).set 7 (.int .i64 (w64 (y3.2 + 1))))) (B := B) (Rs := RA ++ (((((expl KE x (RA.length + 1)).2.set 0 (childB _ y1.1)).set 1 (childB _ y2.1)).set 2 (childB _ y3.1)).set 3 (childB _ y4.1)) ++ RB) h8 (by omega) hA (by decide) (by simpa only [List.length_append, List.length_set] using hi) (show 9 < 10 by decide)
  exact ⟨t9, h9, fun R kk => ((ze.trans (r0 R _)).trans ((ze.trans (r1 R _)).trans ((ze.trans (r2 R _)).trans ((ze.trans (r3 R _)).trans ((ze.trans (r4 R _)).trans ((ze.trans (r5 R _)).trans ((ze.trans (r6 R _)).trans ((ze.trans (r7 R _)).trans ((ze.trans (r8 R _)).trans (ze.trans (r9 R _)))))))))))⟩
theorem zqZ (fuel : Nat) : FnSpecM Try.prog 55 (zeH fuel) :=
  zeb (T := zu fuel) (c := bodyOf Try.f55) (fn := Try.f55) (e := KE) zhh 96 (zck fuel) (TabOK.of (entCons (zkT fuel) (entCons (zgZ fuel) (entCons (zqF fuel) (entCons (zqK fuel) (entNil))))) methNil) mixed (by kernel_rfl) (by kernel_rfl) zqX (by kernel_rfl) (Nat.le_of_ble_eq_true (by kernel_rfl)) (by kernel_rfl) (by decide) (by decide) (fun z => rfl) (zqY fuel)
theorem zkU (fuel : Nat) : EntryOK Try.prog 55 (zeH fuel).te := EntryOK.tm (zqZ fuel) (isFn (fn := Try.f55) (by kernel_rfl) (by kernel_rfl) (by kernel_rfl))
def zau (fuel : Nat) : Tab := Tab.of [(55, (zeH fuel).te)] []
def zhi : List MS := [.fld [0], .call [1] 55, .fld [2], .fld [3], .fld [4]]
def zcm (fuel : Nat) (x : Kd.T KN) (k : Int) : Option (Kd.T KN × Int) :=
  Option.bind (zcl fuel (x.2.1, w64 (k + 1))) fun y1 =>
  some ((k, y1.1, y1.2, w64 (y1.2 + 1), w64 (w64 (y1.2 + 1) + 1), ()), w64 (w64 (w64 (y1.2 + 1) + 1) + 1))
def zcn (fuel : Nat) (z : List (Kd.T KN) × Int) : Option (List (Kd.T KN) × Int) := if z.1.length ≤ 1048576 then markO (zcm fuel) z.1 z.2 else none
def zhj (fuel : Nat) : TM := ⟨.list KN, false, zcn fuel⟩
theorem zq0 : lightC Try.prog [] Try.f29.ntmps [markNm] [] 0 (bodyOf Try.f29) = some (markC 5 zhi 47, 1) := by kernel_rfl
theorem zq1 (fuel : Nat) (A B : List SV) (RA RB : List Blk) (i : Nat) (x x' : Kd.T KN) (k k' : Int) (τ : Env) (hg : zcm fuel x k = some (x', k')) (hE : MEnv τ (i : Int) k) (hA : A.length = i * 5) (hi : i < (A ++ (expl KN x (RA.length + 1)).1 ++ B).length / 5) : ∃ τ', MEnv τ' (i : Int) k' ∧ ∀ (R : Type) (kk : Env → Heap → Option R),
      runRs (zau fuel) (msAll 5 12 zhi) τ (.cells (A ++ (expl KN x (RA.length + 1)).1 ++ B) 0 5 :: (RA ++ (expl KN x (RA.length + 1)).2 ++ RB)) kk = kk τ' (.cells (A ++ (expl KN x' (RA.length + 1)).1 ++ B) 0 5 :: (RA ++ (expl KN x' (RA.length + 1)).2 ++ RB)) := by
  unfold zcm at hg
  obtain ⟨y1, c1, hg⟩ := Option.bind_eq_some_iff.1 hg
  simp only [Option.some.injEq, Prod.mk.injEq] at hg
  obtain ⟨rfl, rfl⟩ := hg
  obtain ⟨t0, h0, r0⟩ := ms_fld (T := zau fuel) (s := 12) (fs := [0]) (E := (expl KN x (RA.length + 1)).1) (B := B) (Rs := RA ++ (expl KN x (RA.length + 1)).2 ++ RB) hE (by omega) hA (by decide) (by simpa only [List.length_append, List.length_set] using hi) (show 0 < 5 by decide)
  obtain ⟨t1, h1, r1⟩ := ms_call (T := zau fuel) (s := 19) (c := 0) (f := 55) (fs := [1]) (E := ((expl KN x (RA.length + 1)).1.set 0 (.int .i64 (k)))) (B := B) (RA := RA) (RE := (expl KN x (RA.length + 1)).2) (RB := RB) h0 (by omega) hA (by decide) (by simpa only [List.length_append, List.length_set] using hi) rfl rfl rfl c1
  obtain ⟨t2, h2, r2⟩ := ms_fld (T := zau fuel) (s := 26) (fs := [2]) (E := ((expl KN x (RA.length + 1)).1.set 0 (.int .i64 (k)))) (B := B) (Rs := RA ++ ((expl KN x (RA.length + 1)).2.set 0 (childB _ y1.1)) ++ RB) h1 (by omega) hA (by decide) (by simpa only [List.length_append, List.length_set] using hi) (show 2 < 5 by decide)
  obtain ⟨t3, h3, r3⟩ := ms_fld (T := zau fuel) (s := 33) (fs := [3]) (E := (((expl KN x (RA.length + 1)).1.set 0 (.int .i64 (k))).set 2 (.int .i64 (y1.2)))) (B := B) (Rs := RA ++ ((expl KN x (RA.length + 1)).2.set 0 (childB _ y1.1)) ++ RB) h2 (by omega) hA (by decide) (by simpa only [List.length_append, List.length_set] using hi) (show 3 < 5 by decide)
  obtain ⟨t4, h4, r4⟩ := ms_fld (T := zau fuel) (s := 40) (fs := [4]) (E := ((((expl KN x (RA.length + 1)).1.set 0 (.int .i64 (k))).set 2 (.int .i64 (y1.2))).set 3 (.int .i64 (w64 (y1.2 + 1))))) (B := B) (Rs := RA ++ ((expl KN x (RA.length + 1)).2.set 0 (childB _ y1.1)) ++ RB) h3 (by omega) hA (by decide) (by simpa only [List.length_append, List.length_set] using hi) (show 4 < 5 by decide)
  exact ⟨t4, h4, fun R kk => ((ze.trans (r0 R _)).trans ((ze.trans (r1 R _)).trans ((ze.trans (r2 R _)).trans ((ze.trans (r3 R _)).trans (ze.trans (r4 R _))))))⟩
theorem zq2 (fuel : Nat) : FnSpecM Try.prog 29 (zhj fuel) :=
  zeb (T := zau fuel) (c := bodyOf Try.f29) (fn := Try.f29) (e := KN) zhi 47 (zcm fuel) (TabOK.of (entCons (zkU fuel) (entNil)) methNil) mixed (by kernel_rfl) (by kernel_rfl) zq0 (by kernel_rfl) (Nat.le_of_ble_eq_true (by kernel_rfl)) (by kernel_rfl) (by decide) (by decide) (fun z => rfl) (zq1 fuel)
theorem zq3 (fuel : Nat) : EntryOK Try.prog 29 (zhj fuel).te := EntryOK.tm (zq2 fuel) (isFn (fn := Try.f29) (by kernel_rfl) (by kernel_rfl) (by kernel_rfl))
def z8 (fuel : Nat) : Tab := Tab.of [(55, (zeH fuel).te)] []
def zhk : List MS := [.fld [0], .fld [1], .fld [2], .fld [3], .fld [4], .call [5] 55]
def zco (fuel : Nat) (x : Kd.T KW) (k : Int) : Option (Kd.T KW × Int) :=
  Option.bind (zcl fuel (x.2.2.2.2.2.1, w64 (w64 (w64 (w64 (w64 (k + 1) + 1) + 1) + 1) + 1))) fun y1 =>
  some ((k, w64 (k + 1), w64 (w64 (k + 1) + 1), w64 (w64 (w64 (k + 1) + 1) + 1), w64 (w64 (w64 (w64 (k + 1) + 1) + 1) + 1), y1.1, ()), y1.2)
def zcp (fuel : Nat) (z : List (Kd.T KW) × Int) : Option (List (Kd.T KW) × Int) := if z.1.length ≤ 1048576 then markO (zco fuel) z.1 z.2 else none
def zhl (fuel : Nat) : TM := ⟨.list KW, false, zcp fuel⟩
theorem zq4 : lightC Try.prog [] Try.f31.ntmps [markNm] [] 0 (bodyOf Try.f31) = some (markC 6 zhk 54, 1) := by kernel_rfl
theorem zq5 (fuel : Nat) (A B : List SV) (RA RB : List Blk) (i : Nat) (x x' : Kd.T KW) (k k' : Int) (τ : Env) (hg : zco fuel x k = some (x', k')) (hE : MEnv τ (i : Int) k) (hA : A.length = i * 6) (hi : i < (A ++ (expl KW x (RA.length + 1)).1 ++ B).length / 6) : ∃ τ', MEnv τ' (i : Int) k' ∧ ∀ (R : Type) (kk : Env → Heap → Option R),
      runRs (z8 fuel) (msAll 6 12 zhk) τ (.cells (A ++ (expl KW x (RA.length + 1)).1 ++ B) 0 6 :: (RA ++ (expl KW x (RA.length + 1)).2 ++ RB)) kk = kk τ' (.cells (A ++ (expl KW x' (RA.length + 1)).1 ++ B) 0 6 :: (RA ++ (expl KW x' (RA.length + 1)).2 ++ RB)) := by
  unfold zco at hg
  obtain ⟨y1, c1, hg⟩ := Option.bind_eq_some_iff.1 hg
  simp only [Option.some.injEq, Prod.mk.injEq] at hg
  obtain ⟨rfl, rfl⟩ := hg
  obtain ⟨t0, h0, r0⟩ := ms_fld (T := z8 fuel) (s := 12) (fs := [0]) (E := (expl KW x (RA.length + 1)).1) (B := B) (Rs := RA ++ (expl KW x (RA.length + 1)).2 ++ RB) hE (by omega) hA (by decide) (by simpa only [List.length_append, List.length_set] using hi) (show 0 < 6 by decide)
  obtain ⟨t1, h1, r1⟩ := ms_fld (T := z8 fuel) (s := 19) (fs := [1]) (E := ((expl KW x (RA.length + 1)).1.set 0 (.int .i64 (k)))) (B := B) (Rs := RA ++ (expl KW x (RA.length + 1)).2 ++ RB) h0 (by omega) hA (by decide) (by simpa only [List.length_append, List.length_set] using hi) (show 1 < 6 by decide)
  obtain ⟨t2, h2, r2⟩ := ms_fld (T := z8 fuel) (s := 26) (fs := [2]) (E := (((expl KW x (RA.length + 1)).1.set 0 (.int .i64 (k))).set 1 (.int .i64 (w64 (k + 1))))) (B := B) (Rs := RA ++ (expl KW x (RA.length + 1)).2 ++ RB) h1 (by omega) hA (by decide) (by simpa only [List.length_append, List.length_set] using hi) (show 2 < 6 by decide)
  obtain ⟨t3, h3, r3⟩ := ms_fld (T := z8 fuel) (s := 33) (fs := [3]) (E := ((((expl KW x (RA.length + 1)).1.set 0 (.int .i64 (k))).set 1 (.int .i64 (w64 (k + 1)))).set 2 (.int .i64 (w64 (w64 (k + 1) + 1))))) (B := B) (Rs := RA ++ (expl KW x (RA.length + 1)).2 ++ RB) h2 (by omega) hA (by decide) (by simpa only [List.length_append, List.length_set] using hi) (show 3 < 6 by decide)
  obtain ⟨t4, h4, r4⟩ := ms_fld (T := z8 fuel) (s := 40) (fs := [4]) (E := (((((expl KW x (RA.length + 1)).1.set 0 (.int .i64 (k))).set 1 (.int .i64 (w64 (k + 1)))).set 2 (.int .i64 (w64 (w64 (k + 1) + 1)))).set 3 (.int .i64 (w64 (w64 (w64 (k + 1) + 1) + 1))))) (B := B) (Rs := RA ++ (expl KW x (RA.length + 1)).2 ++ RB) h3 (by omega) hA (by decide) (by simpa only [List.length_append, List.length_set] using hi) (show 4 < 6 by decide)
  obtain ⟨t5, h5, r5⟩ := ms_call (T := z8 fuel) (s := 47) (c := 0) (f := 55) (fs := [5]) (E := ((((((expl KW x (RA.length + 1)).1.set 0 (.int .i64 (k))).set 1 (.int .i64 (w64 (k + 1)))).set 2 (.int .i64 (w64 (w64 (k + 1) + 1)))).set 3 (.int .i64 (w64 (w64 (w64 (k + 1) + 1) + 1)))).set 4 (.int .i64 (w64 (w64 (w64 (w64 (k + 1) + 1) + 1) + 1))))) (B := B) (RA := RA) (RE := (expl KW x (RA.length + 1)).2) (RB := RB) h4 (by omega) hA (by decide) (by simpa only [List.length_append, List.length_set] using hi) rfl rfl rfl c1
  exact ⟨t5, h5, fun R kk => ((ze.trans (r0 R _)).trans ((ze.trans (r1 R _)).trans ((ze.trans (r2 R _)).trans ((ze.trans (r3 R _)).trans ((ze.trans (r4 R _)).trans (ze.trans (r5 R _)))))))⟩
theorem zq6 (fuel : Nat) : FnSpecM Try.prog 31 (zhl fuel) :=
  zeb (T := z8 fuel) (c := bodyOf Try.f31) (fn := Try.f31) (e := KW) zhk 54 (zco fuel) (TabOK.of (entCons (zkU fuel) (entNil)) methNil) mixed (by kernel_rfl) (by kernel_rfl) zq4 (by kernel_rfl) (Nat.le_of_ble_eq_true (by kernel_rfl)) (by kernel_rfl) (by decide) (by decide) (fun z => rfl) (zq5 fuel)
theorem zq7 (fuel : Nat) : EntryOK Try.prog 31 (zhl fuel).te := EntryOK.tm (zq6 fuel) (isFn (fn := Try.f31) (by kernel_rfl) (by kernel_rfl) (by kernel_rfl))
abbrev KNET : Kd := .pair (.list KN) (.pair (.list .bool) (.pair (.list KW) (.pair (.list (.list (.list I6))) .unit)))
def zkV (fuel : Nat) : Tab := Tab.of [(29, (zhj fuel).te), (30, (zhb fuel).te), (31, (zhl fuel).te), (32, (zhg fuel).te)] []
noncomputable def zkW : C := irOf Try.prog Try.f11 [] [] [(4, ⟨[1], []⟩)]
theorem zq8 : lightC Try.prog [] Try.f11.ntmps [] [(4, ⟨[1], []⟩)] 0 (bodyOf Try.f11) = some (zkW, 0) := by kernel_rfl
def zaQ (fuel : Nat) (z : Kd.T KNET × Int) : Option (Kd.T KNET × Int) :=
  Option.bind (zcn fuel (z.1.1, z.2)) fun y1 =>
  Option.bind (zcf fuel (z.1.2.1, y1.2)) fun y2 =>
  Option.bind (zcp fuel (z.1.2.2.1, y2.2)) fun y3 =>
  Option.bind (zcj fuel (z.1.2.2.2.1, y3.2)) fun y4 =>
  some ((y1.1, y2.1, y3.1, y4.1, ()), y4.2)
def zhm (fuel : Nat) : TM := ⟨KNET, true, zaQ fuel⟩
theorem zq9 (fuel : Nat) (x : Kd.T KNET) (k : Int) : run (zkV fuel) 4 fuel zkW (env0 [valOf true (expl KNET x 0).1, .int .i64 k] 0) (expl KNET x 0).2 (endM [(4, none)] false KNET 4 (expl KNET x 0).1) = zaQ fuel (x, k) := by kernel_rfl
theorem zra (fuel : Nat) : FnSpecM Try.prog 11 (zhm fuel) :=
  zd8 (T := zkV fuel) (c := bodyOf Try.f11) (fn := Try.f11) (TabOK.of (entCons (zq3 fuel) (entCons (zqP fuel) (entCons (zq7 fuel) (entCons (zqW fuel) entNil)))) (methNil)) mixed (by kernel_rfl) (by kernel_rfl) zq8 (by kernel_rfl) (Nat.le_of_ble_eq_true (by kernel_rfl)) (rv := [(4, none)]) (by kernel_rfl) (fun x k y h => ⟨fuel, (zq9 fuel x k).trans h⟩)
theorem zrb (fuel : Nat) : EntryOK Try.prog 11 (zhm fuel).te := EntryOK.tm (zra fuel) (isFn (fn := Try.f11) (by kernel_rfl) (by kernel_rfl) (by kernel_rfl))
end Go.Proofs.Ytmkekjmckdkcnaa.Den
namespace Go.Proofs.Ytmkekjmckdkcnaa.Den
open Go Go.RowKit
structure TV where
  r1 : Rf
  r2 : Rf
  fn : r1.T × r2.T → Option ((r1.T × r2.T) × Int)
def TV.te (tv : TV) : TE where
  X := tv.r1.T × tv.r2.T
  Y := (tv.r1.T × tv.r2.T) × Int
  mono := false
  view args H := match args with
    | [.ptr β 0, .ptr γ 0] => cond (Nat.beq β γ) none (match Rf.view [] tv.r1 H[β]?, Rf.view [] tv.r2 H[γ]? with
      | some c, some d => some (c, d)
      | _, _ => none)
    | _ => none
  fn := tv.fn
  put _ y args H := match args with
    | [.ptr β 0, .ptr γ 0] => some (.int .i64 y.2, (H.set β (tv.r1.blk y.1.1)).set γ (tv.r2.blk y.1.2))
    | _ => none
def FnSpecV (P : Program) (f : FuncId) (tv : TV) : Prop :=
  ∀ (w : World) (res : Nat → Prop) (c : tv.r1.T) (d : tv.r2.T) (y : (tv.r1.T × tv.r2.T) × Int) (b o b2 o2 : Nat), (∀ b, res b → b < w.heap.size) → ¬ res b → ¬ res b2 → b ≠ b2 →
    RefAt w (fun b' => b' < w.heap.size ∧ ¬ res b' ∧ b' ≠ b ∧ b' ≠ b2) tv.r1 c b o → RefAt w (fun b' => b' < w.heap.size ∧ ¬ res b' ∧ b' ≠ b ∧ b' ≠ b2) tv.r2 d b2 o2 → tv.fn (c, d) = some y →
    Calls P f #[.pointer (some ⟨b, o, none⟩), .pointer (some ⟨b2, o2, none⟩)] w fun e w' => e = .returned (.int .i64 y.2) ∧ w'.os = w.os ∧ w'.tape = w.tape ∧ w'.output = w.output ∧ w.heap.size ≤ w'.heap.size ∧ (∀ b', b' < w.heap.size → b' ≠ b → b' ≠ b2 → w'.heap[b']? = w.heap[b']?) ∧
      (∀ (b : Nat) C t fr, w.heap[b]? = some (.cells C t fr) → ∃ C', w'.heap[b]? = some (.cells C' t fr) ∧ C'.size = C.size) ∧
      RefAt w' (fun b' => b' < w'.heap.size ∧ ¬ res b' ∧ b' ≠ b ∧ b' ≠ b2) tv.r1 y.1.1 b o ∧ RefAt w' (fun b' => b' < w'.heap.size ∧ ¬ res b' ∧ b' ≠ b ∧ b' ≠ b2) tv.r2 y.1.2 b2 o2 ∧ tv.r1.len y.1.1 = tv.r1.len c ∧ tv.r2.len y.1.2 = tv.r2.len d
def endV (rv : List (Nat × Option (Nat × Bool))) (r1 r2 : Rf) (ex : Ex) (τ : Env) (H : Heap) : Option ((r1.T × r2.T) × Int) :=
  match ex with
  | .exit _ => none
  | _ => match evalRes τ H rv with
    | some [.int .i64 m] => match Rf.view [] r1 H[0]?, Rf.view [] r2 H[1]? with
      | some c, some d => some ((c, d), m)
      | _, _ => none
    | _ => none
section
variable {P : Program}
theorem zvQ {f : FuncId} {tv : TV} (h : FnSpecV P f tv) : TESound P f tv.te := by
  intro ρ H w args vs x y v H' hH hv hun hview hfn hput
  change tv.r1.T × tv.r2.T at x
  change (tv.r1.T × tv.r2.T) × Int at y
  obtain ⟨β, γ, c, d, rfl, hne, hc, hd, rfl⟩ : ∃ β γ c d, args = [.ptr β 0, .ptr γ 0] ∧ β ≠ γ ∧ Rf.view [] tv.r1 H[β]? = some c ∧ Rf.view [] tv.r2 H[γ]? = some d ∧ x = (c, d) := by
    change (match (generalizing := false) args with
      | [.ptr β 0, .ptr γ 0] => cond (Nat.beq β γ) none (match Rf.view [] tv.r1 H[β]?, Rf.view [] tv.r2 H[γ]? with
        | some c, some d => some (c, d)
        | _, _ => none)
      | _ => none) = some x at hview
    split at hview
    · rename_i β γ
      cases hb : Nat.beq β γ with
      | true => rw [hb] at hview; cases hview
      | false =>
        rw [hb, cond_false] at hview
        split at hview
        · rename_i c d h1 h2
          simp only [Option.some.injEq] at hview
          refine ⟨β, γ, c, d, rfl, ?_, h1, h2, hview.symm⟩
          rintro rfl
          simp at hb
        · simp at hview
    · simp at hview
  have hput' : v = .int .i64 y.2 ∧ H' = (H.set β (tv.r1.blk y.1.1)).set γ (tv.r2.blk y.1.2) := by
    simp only [TV.te, Option.some.injEq, Prod.mk.injEq] at hput
    exact ⟨hput.1.symm, hput.2.symm⟩
  obtain ⟨rfl, rfl⟩ := hput'
  simp only [VRels] at hv
  obtain ⟨v0, _, rfl, hv0, v1, _, rfl, hv1, rfl⟩ := hv
  obtain ⟨y0, hy0, hnd0⟩ := Rf.view_some hc
  obtain ⟨y1, hy1, hnd1⟩ := Rf.view_some hd
  obtain ⟨b, o, n, sz, hr, hv0⟩ := ptr_rel hH hy0 hnd0 hv0
  obtain ⟨b2, o2, n2, sz2, hr2, hv1⟩ := ptr_rel hH hy1 hnd1 hv1
  rw [Nat.add_zero] at hv0 hv1
  subst hv0; subst hv1
  have hbb : b ≠ b2 := fun e => by subst e; exact hne (hH.inj _ _ _ _ _ _ _ _ _ hr hr2)
  let res : Nat → Prop := fun b' => ρ.res b' ∨ (b' ≠ b ∧ b' ≠ b2 ∧ ∃ β o n sz, ρ β = .at b' o n sz)
  have hres : ∀ b, res b → b < w.heap.size := by
    rintro b (hb | ⟨_, _, β, o, n, sz, hb⟩)
    · exact hH.resl b hb
    · exact hH.lt _ _ _ _ _ hb
  have hrb : ¬ res b := by
    rintro (hb | ⟨hb, _⟩)
    · exact hH.resf _ _ _ _ _ hr hb
    · exact hb rfl
  have hrb2 : ¬ res b2 := by
    rintro (hb | ⟨_, hb, _⟩)
    · exact hH.resf _ _ _ _ _ hr2 hb
    · exact hb rfl
  have hfB : ∀ b', Free ρ w b' → b' < w.heap.size ∧ ¬ res b' ∧ b' ≠ b ∧ b' ≠ b2 := fun b' hb => ⟨hb.1, fun h3 => by
    rcases h3 with h3 | ⟨_, _, β, o, n, sz, h3⟩
    · exact hb.2.1 h3
    · exact hb.2.2 _ _ _ _ h3, fun e => by subst e; exact hb.2.2 _ _ _ _ hr, fun e => by subst e; exact hb.2.2 _ _ _ _ hr2⟩
  have hdd : ∀ {K : Kd} {s : SV} {x : K.T} {u : Value}, decH true [] K [s] = some x → VRel ρ w s u → CRel w (fun b' => b' < w.heap.size ∧ ¬ res b' ∧ b' ≠ b ∧ b' ≠ b2) K x [u] := fun h1 h2 =>
    CRel.mono hfB (fun _ _ => rfl) (zr h1 (VRels.single h2))
  obtain ⟨href, hsz, hnn, harr, hlt⟩ := RefAt.of_view hdd hfB hH hr hc
  obtain ⟨href2, hsz2, hnn2, harr2, hlt2⟩ := RefAt.of_view hdd hfB hH hr2 hd
  refine Calls.mono (h w res c d y b o b2 o2 hres hrb hrb2 hbb href href2 hfn) fun e w' he => ?_
  obtain ⟨rfl, hos, htape, hout, hsize, hkept, hshape, href', href2', hlen', hlen2'⟩ := he
  have hsb : ∀ {β b o n sz}, ρ β = .at b o n sz → b < w.heap.size := fun h => hH.lt _ _ _ _ _ h
  have hstep : Step ρ w ρ w' := {
    os := hos, tape := htape, output := hout, size := hsize
    kept := fun b' hb hn _ => hkept b' hb (fun e => by subst e; exact hn _ _ _ _ hr) (fun e => by subst e; exact hn _ _ _ _ hr2)
    shape := hshape
    img := fun β b o n sz hb => .inl ⟨β, o, n, sz, hb⟩
    ref := fun β hb => .inl rfl
    res := rfl
    vl := fun _ _ => rfl }
  have hfree : ∀ b', (b' < w'.heap.size ∧ ¬ res b' ∧ b' ≠ b ∧ b' ≠ b2) → Free ρ w' b' := fun b' hb => ⟨hb.1, fun h3 => hb.2.1 (.inl h3), fun β o n sz h1 => hb.2.1 (.inr ⟨hb.2.2.1, hb.2.2.2, _, _, _, _, h1⟩)⟩
  have hget : ∀ {δ}, δ ≠ β → δ ≠ γ → ((H.set β (tv.r1.blk y.1.1)).set γ (tv.r2.blk y.1.2))[δ]? = H[δ]? := fun {δ} h1 h2 => by
    rw [List.getElem?_set_ne (Ne.symm h2), List.getElem?_set_ne (Ne.symm h1)]
  have hbr : BRel ρ w' b o n sz (tv.r1.blk y.1.1) := href'.brel hfree hsz (by rw [hlen']; exact hnn) fun K t e => by rw [hlen']; exact harr K t e
  have hbr2 : BRel ρ w' b2 o2 n2 sz2 (tv.r2.blk y.1.2) := href2'.brel hfree hsz2 (by rw [hlen2']; exact hnn2) fun K t e => by rw [hlen2']; exact harr2 K t e
  refine ⟨.int .i64 y.2, ρ, rfl, hstep, ?_, by simp [VRel], by simp, fun β h _ => h, by simp [TV.te]⟩
  constructor
  · intro δ hl hq
    simp at hl
    rw [hget (fun e => by subst e; rw [hr] at hq; cases hq) (fun e => by subst e; rw [hr2] at hq; cases hq)]
    exact hH.dead δ hl hq
  · intro δ hl hq
    simp at hl
    rw [hget (fun e => by subst e; rw [hr] at hq; cases hq) (fun e => by subst e; rw [hr2] at hq; cases hq)]
    exact hH.none_ δ hl hq
  · intro δ hl b1 o1 n1 sz1 hq
    simp at hl
    by_cases e : δ = γ
    · subst e
      rw [hr2] at hq; injection hq with e1 e2 e3 e4
      subst e1; subst e2; subst e3; subst e4
      exact ⟨_, by simp [hl], hbr2⟩
    · by_cases e' : δ = β
      · subst e'
        rw [hr] at hq; injection hq with e1 e2 e3 e4
        subst e1; subst e2; subst e3; subst e4
        refine ⟨_, ?_, hbr⟩
        rw [List.getElem?_set_ne (Ne.symm e)]
        simp [hl]
      · obtain ⟨x, h5, h6⟩ := hH.at_ δ hl _ _ _ _ hq
        refine ⟨x, by rw [hget e' e]; exact h5, h6.keep hstep (hkept b1 (hsb hq) (fun e2 => ?_) fun e2 => ?_) fun b3 hb3 => ⟨hH.vlt hb3, hkept b3 (hH.vlt hb3) (fun e2 => ?_) fun e2 => ?_⟩⟩
        · subst e2; exact e' (hH.inj _ _ _ _ _ _ _ _ _ hq hr)
        · subst e2; exact e (hH.inj _ _ _ _ _ _ _ _ _ hq hr2)
        · subst e2; exact hH.resf _ _ _ _ _ hr (.inr (by rw [hb3]; simp))
        · subst e2; exact hH.resf _ _ _ _ _ hr2 (.inr (by rw [hb3]; simp))
  · exact hH.inj
  · intro β b o n sz hb; have := hsb hb; omega
  · intro b hb; have := hH.resl b hb; omega
  · exact hH.resf
theorem zvR {T : Tab} {f : FuncId} {fn : Func} {c : Code} {tv : TV} {frz : List Nat} {ann : List Norm} {cuts : List (Nat × Norm)} {ci : C} {j fuel : Nat} {rv : List (Nat × Option (Nat × Bool))} (hT : TabOK P T) (hmix : P.follows .mixedOrders = true)
    (hf : P.funcs[f]? = some fn) (hb : fn.body = some c) (hl : lightC P frz fn.ntmps ann cuts 0 c = some (ci, j)) (ho : okC T c ci = true) (hn : 2 ≤ fn.ntmps) (hrv : lightRes P fn.results.toList = some rv)
    (hrun : ∀ c d, run T 2 fuel ci [(0, .ptr 0 0), (1, .ptr 1 0)] [tv.r1.blk c, tv.r2.blk d] (endV rv tv.r1 tv.r2) = tv.fn (c, d)) : FnSpecV P f tv := by
  intro w res cc dd y b o b2 o2 hres hrb hrb2 hbb href href2 hy
  refine calls_of_wp hf hb ?_
  let ρ0 : Map := ⟨fun β => if β = 0 then .at b o (tv.r1.len cc) tv.r1.sz else if β = 1 then .at b2 o2 (tv.r2.len dd) tv.r2.sz else .unborn, res, fun _ => none⟩
  have e0 : ρ0 0 = .at b o (tv.r1.len cc) tv.r1.sz := rfl
  have e1 : ρ0 1 = .at b2 o2 (tv.r2.len dd) tv.r2.sz := rfl
  have hi0 : ∀ {β b' o' n' sz'}, ρ0 β = .at b' o' n' sz' → (β = 0 ∧ b' = b) ∨ (β = 1 ∧ b' = b2) := by
    intro β b' o' n' sz' h
    simp only [ρ0] at h
    split at h
    · rename_i e; injection h with h1; exact .inl ⟨e, h1.symm⟩
    · split at h
      · rename_i e; injection h with h1; exact .inr ⟨e, h1.symm⟩
      · cases h
  have hfree0 : ∀ b', (b' < w.heap.size ∧ ¬ res b' ∧ b' ≠ b ∧ b' ≠ b2) → Free ρ0 w b' := fun b' hb => ⟨hb.1, fun h => hb.2.1 (res_new.1 h), fun β o' n' sz' h => by
    rcases hi0 h with ⟨_, h⟩ | ⟨_, h⟩
    · exact hb.2.2.1 h
    · exact hb.2.2.2 h⟩
  have hv : VRels ρ0 w [.ptr 0 0, .ptr 1 0] [.pointer (some ⟨b, o, none⟩), .pointer (some ⟨b2, o2, none⟩)] := by
    simp only [VRels]
    exact ⟨_, _, rfl, by simp [VRel, e0], _, _, rfl, by simp [VRel, e1], rfl⟩
  have hbs : b < w.heap.size := href.lt
  have hbs2 : b2 < w.heap.size := href2.lt
  have hat : At P fn.ntmps ρ0 [tv.r1.blk cc, tv.r2.blk dd] w [(0, .ptr 0 0), (1, .ptr 1 0)] { tmps := #[.pointer (some ⟨b, o, none⟩), .pointer (some ⟨b2, o2, none⟩)] ++ Array.replicate (fn.ntmps - 2) undef, defers := [] } := by
    refine ⟨⟨by simp; omega, rfl, fun n => ?_⟩, ?_, fun β hβ => ?_⟩
    · have e : ([(0, SV.ptr 0 0), (1, SV.ptr 1 0)] : Env) = env0 [.ptr 0 0, .ptr 1 0] 0 := rfl
      rw [e, zbA]
      simp only [Nat.zero_le, if_true, Nat.sub_zero]
      split
      · rename_i s hs
        obtain ⟨u, h1, h2⟩ := hv.get n s hs
        have : (#[Value.pointer (some ⟨b, o, none⟩), .pointer (some ⟨b2, o2, none⟩)] ++ Array.replicate (fn.ntmps - 2) undef).getD n undef = u := by
          rw [Array.getD_eq_getD_getElem?, Array.getElem?_append_left (by have := (List.getElem?_eq_some_iff.1 h1).1; simpa using this), List.getElem?_toArray, h1]
          rfl
        rw [this]; exact h2
      · simp [VRel]
    · refine ⟨fun β hl h => ?_, fun β hl h => ?_, fun β hl b' o' n' sz' h => ?_, fun β γ b' o1 n1 s1 o2 n2 s2 h1 h2 => ?_, fun β b' o' n' sz' h => ?_, fun b hb => hres b (res_new.1 hb), fun β b' o' n' sz' h hr => ?_⟩
      · simp only [ρ0] at h; split at h
        · cases h
        · split at h <;> cases h
      · simp only [ρ0] at h; split at h
        · cases h
        · split at h <;> cases h
      · rcases hi0 h with ⟨rfl, rfl⟩ | ⟨rfl, rfl⟩
        · rw [e0] at h
          injection h with h1 h2 h3 h4
          subst h2; subst h3; subst h4
          exact ⟨_, rfl, href.brel hfree0 rfl rfl fun _ _ _ => rfl⟩
        · rw [e1] at h
          injection h with h1 h2 h3 h4
          subst h2; subst h3; subst h4
          exact ⟨_, rfl, href2.brel hfree0 rfl rfl fun _ _ _ => rfl⟩
      · rcases hi0 h1 with ⟨rfl, g1⟩ | ⟨rfl, g1⟩ <;> rcases hi0 h2 with ⟨rfl, g2⟩ | ⟨rfl, g2⟩
        · rfl
        · exact absurd (g1.symm.trans g2) hbb
        · exact absurd (g2.symm.trans g1) hbb
        · rfl
      · rcases hi0 h with ⟨_, h⟩ | ⟨_, h⟩ <;> rw [h] <;> assumption
      · rcases hi0 h with ⟨_, h⟩ | ⟨_, h⟩ <;> rw [h] at hr
        · exact hrb (res_new.1 hr)
        · exact hrb2 (res_new.1 hr)
    · simp at hβ
      simp only [ρ0]; rw [if_neg (by omega), if_neg (by omega)]
  have hrun' := hrun cc dd
  rw [hy] at hrun'
  refine zax hT hmix c hl ho hat hrun' fun ex τ' H' ρ' a' w' h1 h2 h3 => ?_
  have hend : evalRes τ' H' rv = some [.int .i64 y.2] ∧ Rf.view [] tv.r1 H'[0]? = some y.1.1 ∧ Rf.view [] tv.r2 H'[1]? = some y.1.2 ∧ (ex = .normal ∨ ex = .ret) := by
    unfold endV at h3
    split at h3
    · simp at h3
    · rename_i hex
      split at h3
      · rename_i m h4
        split at h3
        · rename_i c1 d1 h6 h7
          simp only [Option.some.injEq] at h3
          subst h3
          refine ⟨h4, h6, h7, ?_⟩
          cases ex with
          | normal => exact .inl rfl
          | ret => exact .inr rfl
          | exit id => exact absurd rfl (hex id)
        · simp at h3
      · simp at h3
  obtain ⟨h4, h6, h7, hex⟩ := hend
  obtain ⟨us, h8, h9⟩ := zaz h1.t h1.h hrv h4
  have h9' : us = #[.int .i64 y.2] := by
    simp only [VRels, VRel] at h9
    obtain ⟨u, us', h9, rfl, rfl⟩ := h9
    exact Array.toList_inj.1 (by simpa using h9)
  subst h9'
  have hlive : ∀ {β : Nat} {rf : Rf} {z : rf.T} {m : Img}, Rf.view [] rf H'[β]? = some z → ρ0 β = m → m ≠ .unborn → β < 2 → ρ' β = m := by
    intro β rf z m hz hm hnu hβ
    obtain ⟨y0, hy0, hnd⟩ := Rf.view_some hz
    rcases h2.ref β (by simpa using hβ) (by rw [hm]; exact hnu) with e | e
    · rw [e, hm]
    · have := h1.h.dead β (List.getElem?_eq_some_iff.1 hy0).1 e
      rw [hy0] at this; cases this; exact absurd rfl hnd
  have q0 := hlive h6 e0 (by simp) (by omega)
  have q1 := hlive h7 e1 (by simp) (by omega)
  have hfB : ∀ b', Free ρ' w' b' → b' < w'.heap.size ∧ ¬ res b' ∧ b' ≠ b ∧ b' ≠ b2 := fun b' hb => ⟨hb.1, fun h => hb.2.1 (.inl (by rw [h2.res]; exact h)), fun e => by subst e; exact hb.2.2 _ _ _ _ q0, fun e => by subst e; exact hb.2.2 _ _ _ _ q1⟩
  have hdd : ∀ {K : Kd} {s : SV} {x : K.T} {u : Value}, decH true [] K [s] = some x → VRel ρ' w' s u → CRel w' (fun b' => b' < w'.heap.size ∧ ¬ res b' ∧ b' ≠ b ∧ b' ≠ b2) K x [u] := fun h1 h2 =>
    CRel.mono hfB (fun _ _ => rfl) (zr h1 (VRels.single h2))
  obtain ⟨k1, _, _, k4, _⟩ := RefAt.of_view (ρ := ρ') hdd hfB h1.h q0 h6
  obtain ⟨l1, _, _, l4, _⟩ := RefAt.of_view (ρ := ρ') hdd hfB h1.h q1 h7
  have hpost : a'.defers = [] ∧ ∃ v, (results fn a'.tmps).run P w' = .ok v w' ∧ (fun e w' => e = Ending.returned (.int .i64 y.2) ∧ w'.os = w.os ∧ w'.tape = w.tape ∧ w'.output = w.output ∧ w.heap.size ≤ w'.heap.size ∧ (∀ b', b' < w.heap.size → b' ≠ b → b' ≠ b2 → w'.heap[b']? = w.heap[b']?) ∧
      (∀ (b : Nat) C t fr, w.heap[b]? = some (.cells C t fr) → ∃ C', w'.heap[b]? = some (.cells C' t fr) ∧ C'.size = C.size) ∧
      RefAt w' (fun b' => b' < w'.heap.size ∧ ¬ res b' ∧ b' ≠ b ∧ b' ≠ b2) tv.r1 y.1.1 b o ∧ RefAt w' (fun b' => b' < w'.heap.size ∧ ¬ res b' ∧ b' ≠ b ∧ b' ≠ b2) tv.r2 y.1.2 b2 o2 ∧ tv.r1.len y.1.1 = tv.r1.len cc ∧ tv.r2.len y.1.2 = tv.r2.len dd) (Ending.returned v) w' := by
    refine ⟨h1.t.2.1, resU #[.int .i64 y.2], h8, by simp [resU], h2.os, h2.tape, h2.output, h2.size, fun b' hb hne hne2 => h2.kept b' hb (fun β o n sz h => ?_) rfl, h2.shape, k1, l1, Rf.len_eq k4, Rf.len_eq l4⟩
    rcases hi0 h with ⟨_, h⟩ | ⟨_, h⟩
    · exact hne h
    · exact hne2 h
  rcases hex with rfl | rfl
  · exact hpost
  · exact hpost
theorem teIE_of {f : FuncId} {te : TE} (h : TESound P f te) (hf : ∃ fn, P.funcs[f]? = some fn ∧ fn.name ≠ "runtime.NumGoroutine" ∧ fn.body.isSome = true) : ISound P f (teIE te) where
  fn := hf
  snd := by
    intro ρ H w args vs v H' hH hu hv he
    simp only [teIE, callL] at he
    split at he
    · cases he
    · rename_i x hx
      rw [Option.bind_eq_some_iff] at he
      obtain ⟨y, hy, he⟩ := he
      split at he
      · rename_i v2 H2 hp
        simp only [Option.some.injEq, Prod.mk.injEq] at he
        obtain ⟨rfl, rfl⟩ := he
        refine Calls.mono (h ρ H w args vs x y v2 H2 hH hv (fun β h1 _ => hu β h1) hx hy hp) fun e w' hg => ?_
        obtain ⟨u, ρ', h1, h2⟩ := hg
        exact ⟨u, ρ', h1, { h2 with mono := fun h => by cases h }⟩
      · cases he
end
end Go.Proofs.Ytmkekjmckdkcnaa.Den
