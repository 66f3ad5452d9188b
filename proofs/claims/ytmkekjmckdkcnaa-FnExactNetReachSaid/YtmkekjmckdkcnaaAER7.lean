/- Part 7 of the texts behind the row. -/
import Derived.Test.YtmkekjmckdkcnaaAER6
import Derived.WalkKit
import Derived.OpenShut
import Derived.ChangeArms
set_option linter.unusedVariables false
set_option linter.unusedSimpArgs false
namespace Go.Proofs.Ytmkekjmckdkcnaa.Den
open Go Go.RowKit
def fldsOK (P : Program) (f : TypeId → Kd → Bool) : List Field → Nat → Kd → Bool
  | [], _, .unit => true
  | x :: fs, off, .pair a b => Nat.beq x.offset off && (Nat.beq (P.cellsOf x.type) a.sz && (f x.type a && fldsOK P f fs (off + a.sz) b))
  | _, _, _ => false
def tyOK (P : Program) : Nat → TypeId → Kd → Bool
  | 0, _, _ => false
  | n + 1, t, .int k => match P.underlying t with
    | some (.int k') => decide (k' = k)
    | _ => false
  | n + 1, t, .bool => match P.underlying t with
    | some .bool => true
    | _ => false
  | n + 1, t, .list e => match P.underlying t with
    | some (.slice u) => tyOK P n u e && (Nat.beq (P.cellsOf u) e.sz && Nat.blt 0 e.sz)
    | _ => false
  | n + 1, t, .unit => match P.underlying t with
    | some (.struct fs) => fldsOK P (tyOK P n) fs.toList 0 .unit
    | _ => false
  | n + 1, t, .pair a b => match P.underlying t with
    | some (.struct fs) => fldsOK P (tyOK P n) fs.toList 0 (.pair a b)
    | _ => false
def wfD : (K : Kd) → K.T → Prop
  | .int k, n => (Lit.int k n).wf = true
  | .bool, _ => True
  | .unit, _ => True
  | .pair a b, x => wfD a x.1 ∧ wfD b x.2
  | .list e, xs => xs.length ≤ maxLen ∧ ∀ x ∈ xs, wfD e x
theorem zoY {α β : Type} {f : α → Option β} : ∀ {l : List α} {ys : List β}, l.mapM f = some ys → ys.length = l.length ∧ ∀ (i : Nat) (x : α), l[i]? = some x → ∃ y, ys[i]? = some y ∧ f x = some y
  | [], ys, h => by simp at h; subst h; simp
  | x :: l, ys, h => by
    rw [List.mapM_cons] at h
    simp only [Option.bind_eq_bind, Option.bind_eq_some_iff, Option.pure_def, Option.some.injEq] at h
    obtain ⟨y, h1, ys', h2, rfl⟩ := h
    obtain ⟨h3, h4⟩ := zoY h2
    refine ⟨by simp [h3], fun i z hz => ?_⟩
    cases i with
    | zero => simp at hz; subst hz; exact ⟨y, by simp, h1⟩
    | succ i => simpa using h4 i z (by simpa using hz)
theorem zvS {β : Type} {f : Nat → Option β} {n : Nat} {ys : List β} (h : (List.range n).mapM f = some ys) : ys.length = n ∧ ∀ i, i < n → ∃ y, ys[i]? = some y ∧ f i = some y := by
  obtain ⟨h1, h2⟩ := zoY h
  exact ⟨by simpa using h1, fun i hi => h2 i i (by simp [hi])⟩
theorem zoZ {α : Type} {p : Nat → α → Prop} : ∀ {n : Nat}, (∀ i, i < n → ∃ x, p i x) → ∃ xs : List α, xs.length = n ∧ ∀ (i : Nat) (x : α), xs[i]? = some x → p i x
  | 0, _ => ⟨[], rfl, fun i x h => by simp at h⟩
  | n + 1, h => by
    obtain ⟨xs, h1, h2⟩ := zoZ (n := n) fun i hi => h i (by omega)
    obtain ⟨x, hx⟩ := h n (by omega)
    refine ⟨xs ++ [x], by simp [h1], fun i y hy => ?_⟩
    rcases Nat.lt_trichotomy i n with h3 | h3 | h3
    · rw [List.getElem?_append_left (by omega)] at hy; exact h2 i y hy
    · subst h3
      rw [List.getElem?_append_right (by omega), h1] at hy
      simp at hy; subst hy; exact hx
    · rw [List.getElem?_eq_none (by simp; omega)] at hy; cases hy
theorem cells?_spec {w : World} {base : Nat} {a : Addr} {n : Nat} {es : List Value} (h : w.cells? base a n = some es) : es.length = n ∧ ∀ j u, es[j]? = some u → w.cell? (a.add j) = some u := by
  unfold World.cells? at h
  split at h
  · obtain ⟨h1, h2⟩ := zvS h
    refine ⟨h1, fun j u hu => ?_⟩
    have hj : j < n := by have := (List.getElem?_eq_some_iff.1 hu).1; omega
    obtain ⟨y, h3, h4⟩ := h2 j hj
    rw [hu] at h3; cases h3; exact h4
  · cases h
theorem cell?_lt {w : World} {a : Addr} {u : Value} (h : w.cell? a = some u) : a.block < w.heap.size := by
  unfold World.cell? at h
  split at h
  · rename_i h1; exact (Array.getElem?_eq_some_iff.1 h1).1
  · cases h
section
variable {H : Type} {enc : TypeId × Value → H} {P : Program} {w : World} {base : Nat} {spare : Nat → Bool} {held : Bool}
theorem zo0 {n fuel : Nat} (ih : ∀ {t : TypeId} {K : Kd} {cs : List Value} {d : DataW H} {ps : List MemPlace}, tyOK P n t K = true → P.cellsOf t = K.sz → DataW.trod enc P w base spare held fuel t cs = some (d, ps) → ∃ x : K.T, CRel w (fun b => b < w.heap.size) K x cs ∧ wfD K x) :
    ∀ {fs : List Field} {off : Nat} {K : Kd} {cs : List Value} {l : List (DataW H × List MemPlace)}, fldsOK P (tyOK P n) fs off K = true → cs.length = off + K.sz →
      (fs.mapM fun f => DataW.trod enc P w base spare held fuel f.type ((cs.drop f.offset).take (P.cellsOf f.type))) = some l → ∃ x : K.T, CRel w (fun b => b < w.heap.size) K x (cs.drop off) ∧ wfD K x
  | [], off, K, cs, l, ho, hl, h => by
    cases K with
    | unit => exact ⟨(), by simp only [CRel]; exact List.drop_eq_nil_of_le (by simp [Kd.sz] at hl; omega), trivial⟩
    | _ => simp [fldsOK] at ho
  | f :: fs, off, K, cs, l, ho, hl, h => by
    cases K with
    | pair a b =>
      simp only [fldsOK, Bool.and_eq_true] at ho
      obtain ⟨h1, h2, h3, h4⟩ := ho
      rw [List.mapM_cons] at h
      simp only [Option.bind_eq_bind, Option.bind_eq_some_iff, Option.pure_def, Option.some.injEq] at h
      obtain ⟨⟨d1, p1⟩, h5, l', h6, _⟩ := h
      rw [Nat.eq_of_beq_eq_true h1, Nat.eq_of_beq_eq_true h2] at h5
      obtain ⟨x, hx, wx⟩ := ih h3 (Nat.eq_of_beq_eq_true h2) h5
      simp only [Kd.sz] at hl
      obtain ⟨y, hy, wy⟩ := zo0 ih h4 (by omega) h6
      refine ⟨(x, y), ?_, wx, wy⟩
      simp only [CRel]
      refine ⟨_, _, ?_, hx, hy⟩
      rw [← List.drop_drop]
      exact (List.take_append_drop a.sz (cs.drop off)).symm
    | _ => simp [fldsOK] at ho
theorem zjx : ∀ {n : Nat} {t : TypeId} {K : Kd} {fuel : Nat} {cs : List Value} {d : DataW H} {ps : List MemPlace}, tyOK P n t K = true → P.cellsOf t = K.sz → DataW.trod enc P w base spare held fuel t cs = some (d, ps) →
    ∃ x : K.T, CRel w (fun b => b < w.heap.size) K x cs ∧ wfD K x
  | 0, t, K, fuel, cs, d, ps, ho, hsz, h => by simp [tyOK] at ho
  | n + 1, t, K, 0, cs, d, ps, ho, hsz, h => by simp [DataW.trod] at h
  | n + 1, t, K, fuel + 1, cs, d, ps, ho, hsz, h => by
    have strct : ∀ {fs : Array Field}, P.underlying t = some (.struct fs) → fldsOK P (tyOK P n) fs.toList 0 K = true → ∃ x : K.T, CRel w (fun b => b < w.heap.size) K x cs ∧ wfD K x := by
      intro fs hu hf
      unfold DataW.trod at h
      simp only [hu] at h
      split at h
      · rename_i hl
        simp only [Option.map_eq_some_iff] at h
        obtain ⟨l, h1, _⟩ := h
        exact zo0 (off := 0) (fun h2 h3 h4 => zjx h2 h3 h4) hf (by rw [hl, hsz]; omega) h1
      · cases h
    cases K with
    | int k =>
      simp only [tyOK] at ho
      split at ho
      · rename_i k' hu
        obtain rfl : k' = k := by simpa using ho
        obtain ⟨m, rfl, _, hw⟩ := DataW.trod_int hu h
        exact ⟨m, by simp [CRel], hw⟩
      · cases ho
    | bool =>
      simp only [tyOK] at ho
      split at ho
      · rename_i hu
        obtain ⟨b, rfl, _⟩ := DataW.trod_bool hu h
        exact ⟨b, by simp [CRel], trivial⟩
      · cases ho
    | unit =>
      simp only [tyOK] at ho
      split at ho
      · rename_i fs hu; exact strct hu ho
      · cases ho
    | pair a b =>
      simp only [tyOK] at ho
      split at ho
      · rename_i fs hu; exact strct hu ho
      · cases ho
    | list e =>
      simp only [tyOK] at ho
      split at ho
      · rename_i u hu
        simp only [Bool.and_eq_true] at ho
        obtain ⟨h1, h2, h3⟩ := ho
        have hes := Nat.eq_of_beq_eq_true h2
        have hpos : 0 < e.sz := by simpa [Nat.blt_eq] using h3
        rcases DataW.trod_slice hu h with ⟨rfl, _⟩ | ⟨ad, len, cap, elems, rest, m, _, rfl, _, _, hb1, hb2, hel, h6, _⟩
        · exact ⟨[], by simp only [CRel]; exact ⟨none, 0, rfl, Nat.le_refl _, fun h => by simp at h⟩, by simp [wfD]⟩
        · obtain ⟨xs, h7, h8⟩ := zoZ (p := fun i (x : e.T) => ∃ es, CRel w (fun b => b < w.heap.size) e x es ∧ wfD e x ∧ ∀ (j : Nat) (u : Value), es[j]? = some u → w.cell? (ad.add (i * e.sz + j)) = some u) (n := len) (fun i hi => by
            have h8 := h6 i hi
            rw [List.getElem?_eq_getElem (by omega), Option.bind_eq_some_iff] at h8
            obtain ⟨es, h9, h10⟩ := h8
            obtain ⟨x, h11, h12⟩ := zjx h1 hes h10
            obtain ⟨_, h13⟩ := cells?_spec h9
            exact ⟨x, es, h11, h12, fun j v hj => by have := h13 j v hj; rw [add_add, hes] at this; exact this⟩)
          refine ⟨xs, ?_, by rw [h7]; omega, fun x hx => ?_⟩
          · simp only [CRel]
            refine ⟨some ad, cap, by rw [h7], by rw [h7]; exact hb1, fun h0 => ⟨ad, rfl, ?_, fun i x hx => ?_⟩⟩
            · obtain ⟨es, h9, _, h10⟩ := h8 0 xs[0] (List.getElem?_eq_getElem h0)
              have h11 := h9.length
              have h12 : 0 < es.length := by omega
              have := cell?_lt (h10 0 es[0] (List.getElem?_eq_getElem h12))
              rw [zdX] at this; exact this
            · obtain ⟨es, h9, _, h10⟩ := h8 i x hx
              exact ⟨es, h9, h10⟩
          · obtain ⟨i, hi⟩ := List.mem_iff_getElem?.1 hx
            obtain ⟨es, _, h9, _⟩ := h8 i x hi
            exact h9
      · cases ho
end
def Kd.flat : Kd → List Kd
  | .unit => []
  | .pair a b => a.flat ++ b.flat
  | K => [K]
def wfCs : (cs : List (Kd × Bool)) → CsT cs → Prop
  | [], _ => True
  | (K, _) :: r, x => wfD K x.1 ∧ wfCs r x.2
theorem zjy {w : World} {B : Nat → Prop} {K : Kd} {x : K.T} {cs : List Value} (h1 : K.sz = 1) (h : CRel w B K x cs) (hw : wfD K x) (r : List (Kd × Bool)) (y : CsT r) (us : List Value) (hr : CsRel w B r y us) (hwr : wfCs r y) :
    ∃ z : CsT ((K, false) :: r), CsRel w B ((K, false) :: r) z (cs ++ us) ∧ wfCs ((K, false) :: r) z := by
  have hl := h.length
  rw [h1] at hl
  match cs, hl with
  | [u], _ => exact ⟨(x, y), by simp only [CsRel]; exact ⟨u, us, rfl, h, hr⟩, hw, hwr⟩
theorem zjz {w : World} {B : Nat → Prop} : ∀ {K : Kd} {x : K.T} {cs : List Value}, CRel w B K x cs → wfD K x → ∀ (r : List (Kd × Bool)) (y : CsT r) (us : List Value), CsRel w B r y us → wfCs r y →
    ∃ z : CsT (K.flat.map (·, false) ++ r), CsRel w B (K.flat.map (·, false) ++ r) z (cs ++ us) ∧ wfCs (K.flat.map (·, false) ++ r) z
  | .int k, x, cs, h, hw, r, y, us, hr, hwr => zjy (K := .int k) rfl h hw r y us hr hwr
  | .bool, x, cs, h, hw, r, y, us, hr, hwr => zjy (K := .bool) rfl h hw r y us hr hwr
  | .list e, x, cs, h, hw, r, y, us, hr, hwr => zjy (K := .list e) rfl h hw r y us hr hwr
  | .unit, x, cs, h, hw, r, y, us, hr, hwr => by
    simp only [CRel] at h
    subst h
    exact ⟨y, hr, hwr⟩
  | .pair a b, x, cs, h, hw, r, y, us, hr, hwr => by
    simp only [CRel] at h
    obtain ⟨c1, c2, rfl, h1, h2⟩ := h
    obtain ⟨z1, hz1, wz1⟩ := zjz h2 hw.2 r y us hr hwr
    obtain ⟨z2, hz2, wz2⟩ := zjz h1 hw.1 _ z1 _ hz1 wz1
    have e : (Kd.pair a b).flat.map (·, false) ++ r = a.flat.map (·, false) ++ (b.flat.map (·, false) ++ r) := by simp only [Kd.flat, List.map_append, List.append_assoc]
    rw [e, List.append_assoc]
    exact ⟨z2, hz2, wz2⟩
section
variable {H : Type} {enc : TypeId × Value → H} {P : Program} {w : World} {base : Nat} {spare : Nat → Bool} {held : Bool}
theorem zvT {n : Nat} {t : TypeId} (K : Kd) {v : Value} {d : DataW H} {ps : List MemPlace} (ho : tyOK P n t K = true) (hsz : P.cellsOf t = K.sz) (h : DataW.Trod enc P w base spare held t v d ps) {cs : List (Kd × Bool)} (hcs : K.flat.map (·, false) ++ [] = cs) :
    ∃ z : CsT cs, CsRel w (fun b => b < w.heap.size ∧ ¬ False) cs z v.cells.toList ∧ wfCs cs z := by
  obtain ⟨m, hm⟩ := h
  obtain ⟨x, hx, hw⟩ := zjx ho hsz hm
  subst hcs
  have := zjz (CRel.mono (B' := fun b => b < w.heap.size ∧ ¬ False) (fun b hb => ⟨hb, id⟩) (fun _ _ => rfl) hx) hw [] () [] rfl trivial
  simpa using this
end
@[reducible] def boolRs : List Pm := [{ cs := [(Kd.bool, false)], ag := false }]
theorem zvU {P : Program} {f : FuncId} {ps : List Pm} {fl : Bool} {fn : PsT ps → Option (PsT boolRs)} (h : FnSpec P f ⟨ps, boolRs, fl, fn⟩) {w : World} {vs : List Value} {x : PsT ps} {b : Bool}
    (hps : PsRel w (fun b => b < w.heap.size ∧ ¬ False) ps x vs) (hfn : fn x = some ((b, ()), ())) :
    Calls P f vs.toArray w fun e w' => e = .returned (.bool b) ∧ Below w.heap.size w w' := by
  refine Calls.mono (h w (fun _ => False) vs x _ (fun _ h => h.elim) hps hfn) fun e w' he => ?_
  obtain ⟨us, tk, rfl, h1, h2, h3, h4, h5, _, _, h6⟩ := he
  refine ⟨?_, ⟨h1, h2, h3, h4, h5⟩⟩
  simp only [boolRs, PsOut, CsOut] at h6
  obtain ⟨v, vs', t1, t2, e1, _, ⟨u, us', e2, h7, h8, _⟩, h9, _⟩ := h6
  simp only [CRel] at h7
  simp at h7 e2
  obtain ⟨rfl, rfl⟩ := e2
  subst h7; subst h9
  have : us = #[.bool b] := Array.toList_inj.1 (by simpa using e1)
  subst this
  simp [resU]
end Go.Proofs.Ytmkekjmckdkcnaa.Den
namespace Go.Proofs.Ytmkekjmckdkcnaa.Den
open Go Go.RowKit
abbrev EntY := Int × Int × Int × ((List (List Int) × Unit) × (List Int × Unit) × (LP × Int × Int × Unit) × (LP × Int × Unit) × Unit) × Unit
abbrev EntF := Int × Int × Int × SumY
abbrev NodY := Int × List EntY × Int × Int × Int × Unit
abbrev WorY := Int × Int × Int × Int × Int × List EntY × Unit
abbrev NetY := List NodY × List Bool × List WorY × List (List (List Int)) × Unit
abbrev dE : EntY := (0, (0, (0, ((([], ()), (([], ()), (([], (0, (0, ()))), (([], (0, ())), ())))), ()))))
abbrev dN : NodY := (0, ([], (0, (0, (0, ())))))
abbrev dW : WorY := (0, (0, (0, (0, (0, ([], ()))))))
def zcq (fuel : Nat) : Tab := Tab.of [] []
abbrev zeI : List Pm := [{ cs := [(Kd.list I6, false)], ag := false }, { cs := [(Kd.list I6, false)], ag := false }]
abbrev zcr : List Pm := [{ cs := [(Kd.bool, false)], ag := false }]
def zkX : List Norm := [{ live := [5, 0, 1], fix := [] }]
noncomputable def zcs : C := irOf Try.prog Try.f9 [] zkX []
theorem zrc : lightC Try.prog [] Try.f9.ntmps zkX [] 0 (bodyOf Try.f9) = some (zcs, 1) := by kernel_rfl
def zct : List (Nat × Option (Nat × Bool)) := [(4, none)]
abbrev zaR := (Int) × (List Int) × (List Int)
def zkY (v : zaR) : Env × Heap := ([(5, SV.int .i64 v.1), (0, SV.es I6 v.2.1), (1, SV.es I6 v.2.2)], [])
def zcu (fuel : Nat) (g0 : zaR → Option ((Bool × Unit) × Unit)) (v : zaR) : Option ((Bool × Unit) × Unit) :=
 cond (decide (v.1 < (zz (List.length v.2.1))))
 (tst (decide (0 ≤ v.1)) <|
 tst (decide (v.1 < (zz (List.length v.2.1)))) <|
 tst (decide (0 ≤ v.1)) <|
 tst (decide (v.1 < (zz (List.length v.2.2)))) <|
 cond (List.getD v.2.1 (Int.toNat v.1) 0 != List.getD v.2.2 (Int.toNat v.1) 0)
 (some (((false, ()), ())))
 (g0 (w64 (v.1 + (1 : Int)), v.2.1, v.2.2)))
 (some (((true, ()), ())))
def zeJ (fuel : Nat) (g0 : zaR → Option ((Bool × Unit) × Unit)) : zaR → Option ((Bool × Unit) × Unit) := zcu fuel g0
theorem zrd (fuel : Nat) (G) : zcs.lp (zcq fuel) 0 fuel G (endF zct zcr) 0 zkY = iter (zeJ fuel) fuel := C.lp_iter fun g v => by kernel_rfl
def zeK (fuel : Nat) (X0 : zaR → Option ((Bool × Unit) × Unit)) (x0 : List Int) (x1 : List Int) : Option ((Bool × Unit) × Unit) :=
 cond ((zz (List.length x0)) != (zz (List.length x1)))
 (some (((false, ()), ())))
 (X0 ((0 : Int), x0, x1))
def zP (fuel : Nat) (x : (((List Int) × Unit) × (((List Int) × Unit) × Unit))) : Option ((Bool × Unit) × Unit) := zeK fuel (iter (zeJ fuel) fuel) x.1.1 x.2.1.1
theorem zre (fuel : Nat) (x : PsT zeI) : run (zcq fuel) 0 fuel zcs (env0 (svPs zeI x) 0) [] (endF zct zcr) = zP fuel x :=
  (show run (zcq fuel) 0 fuel zcs (env0 (svPs zeI x) 0) [] (endF zct zcr) = zeK fuel (zcs.lp (zcq fuel) 0 fuel (fun _ _ _ => none) (endF zct zcr) 0 zkY) x.1.1 x.2.1.1 by kernel_rfl).trans (by rw [zrd]; rfl)
def zcv (fuel : Nat) : TF := ⟨zeI, zcr, true, zP fuel⟩
theorem zrf (fuel : Nat) : FnSpec Try.prog 9 (zcv fuel) :=
  fn_spec (T := zcq fuel) (c := bodyOf Try.f9) (fn := Try.f9) (TabOK.of (entNil) (methNil)) mixed (by kernel_rfl) (by kernel_rfl) zrc (by kernel_rfl) (Nat.le_of_ble_eq_true (by kernel_rfl)) (rv := zct) (by kernel_rfl) (zre fuel)
theorem zhn (fuel : Nat) : EntryOK Try.prog 9 (zcv fuel).te := EntryOK.tf rfl (zrf fuel) (isFn (fn := Try.f9) (by kernel_rfl) (by kernel_rfl) (by kernel_rfl))
def zcw (fuel : Nat) : Tab := Tab.of [(9, (zcv fuel).te)] []
abbrev zeL : List Pm := [{ cs := [(Kd.list (Kd.list I6), false)], ag := false }, { cs := [(Kd.list (Kd.list I6), false)], ag := false }]
abbrev zcx : List Pm := [{ cs := [(Kd.bool, false)], ag := false }]
def zkZ : List Norm := [{ live := [5, 0, 1], fix := [] }]
noncomputable def zcy : C := irOf Try.prog Try.f54 [] zkZ []
theorem zrg : lightC Try.prog [] Try.f54.ntmps zkZ [] 0 (bodyOf Try.f54) = some (zcy, 1) := by kernel_rfl
def zcz : List (Nat × Option (Nat × Bool)) := [(4, none)]
abbrev zaS := (Int) × (List (List Int)) × (List (List Int))
def zk0 (v : zaS) : Env × Heap := ([(5, SV.int .i64 v.1), (0, SV.es (Kd.list I6) v.2.1), (1, SV.es (Kd.list I6) v.2.2)], [])
def zcA (fuel : Nat) (g0 : zaS → Option ((Bool × Unit) × Unit)) (v : zaS) : Option ((Bool × Unit) × Unit) :=
 cond (decide (v.1 < (zz (List.length v.2.1))))
 (tst (decide (0 ≤ v.1)) <|
 tst (decide (v.1 < (zz (List.length v.2.1)))) <|
 tst (decide (0 ≤ v.1)) <|
 tst (decide (v.1 < (zz (List.length v.2.2)))) <|
 Option.bind (zP fuel ((List.getD v.2.1 (Int.toNat v.1) [], ()), (List.getD v.2.2 (Int.toNat v.1) [], ()), ())) fun y_2 =>
 cond (!y_2.1.1)
 (some (((false, ()), ())))
 (g0 (w64 (v.1 + (1 : Int)), v.2.1, v.2.2)))
 (some (((true, ()), ())))
def zeM (fuel : Nat) (g0 : zaS → Option ((Bool × Unit) × Unit)) : zaS → Option ((Bool × Unit) × Unit) := zcA fuel g0
theorem zrh (fuel : Nat) (G) : zcy.lp (zcw fuel) 0 fuel G (endF zcz zcx) 0 zk0 = iter (zeM fuel) fuel := C.lp_iter fun g v => by kernel_rfl
def zeN (fuel : Nat) (X0 : zaS → Option ((Bool × Unit) × Unit)) (x0 : List (List Int)) (x1 : List (List Int)) : Option ((Bool × Unit) × Unit) :=
 cond ((zz (List.length x0)) != (zz (List.length x1)))
 (some (((false, ()), ())))
 (X0 ((0 : Int), x0, x1))
def zaT (fuel : Nat) (x : (((List (List Int)) × Unit) × (((List (List Int)) × Unit) × Unit))) : Option ((Bool × Unit) × Unit) := zeN fuel (iter (zeM fuel) fuel) x.1.1 x.2.1.1
theorem zri (fuel : Nat) (x : PsT zeL) : run (zcw fuel) 0 fuel zcy (env0 (svPs zeL x) 0) [] (endF zcz zcx) = zaT fuel x :=
  (show run (zcw fuel) 0 fuel zcy (env0 (svPs zeL x) 0) [] (endF zcz zcx) = zeN fuel (zcy.lp (zcw fuel) 0 fuel (fun _ _ _ => none) (endF zcz zcx) 0 zk0) x.1.1 x.2.1.1 by kernel_rfl).trans (by rw [zrh]; rfl)
def zeO (fuel : Nat) : TF := ⟨zeL, zcx, true, zaT fuel⟩
theorem zrj (fuel : Nat) : FnSpec Try.prog 54 (zeO fuel) :=
  fn_spec (T := zcw fuel) (c := bodyOf Try.f54) (fn := Try.f54) (TabOK.of (entCons (zhn fuel) entNil) (methNil)) mixed (by kernel_rfl) (by kernel_rfl) zrg (by kernel_rfl) (Nat.le_of_ble_eq_true (by kernel_rfl)) (rv := zcz) (by kernel_rfl) (zri fuel)
theorem zk1 (fuel : Nat) : EntryOK Try.prog 54 (zeO fuel).te := EntryOK.tf rfl (zrj fuel) (isFn (fn := Try.f54) (by kernel_rfl) (by kernel_rfl) (by kernel_rfl))
def zk2 (fuel : Nat) : Tab := Tab.of [(54, (zeO fuel).te)] []
abbrev zho : List Pm := [{ cs := [(Kd.list (Kd.list I6), false)], ag := true }, { cs := [(Kd.list (Kd.list I6), false)], ag := true }]
abbrev zk3 : List Pm := [{ cs := [(Kd.bool, false)], ag := false }]
def zk4 : List Norm := []
noncomputable def zk5 : C := irOf Try.prog Try.f85 [] zk4 []
theorem zrk : lightC Try.prog [] Try.f85.ntmps zk4 [] 0 (bodyOf Try.f85) = some (zk5, 0) := by kernel_rfl
def zk6 : List (Nat × Option (Nat × Bool)) := [(4, none)]
def zhp (fuel : Nat) (x0 : List (List Int)) (x1 : List (List Int)) : Option ((Bool × Unit) × Unit) :=
 Option.bind (zaT fuel ((x0, ()), (x1, ()), ())) fun y_1 =>
 cond (!y_1.1.1)
 (some (((false, ()), ())))
 (some (((true, ()), ())))
def zeP (fuel : Nat) (x : (((List (List Int)) × Unit) × (((List (List Int)) × Unit) × Unit))) : Option ((Bool × Unit) × Unit) := zhp fuel x.1.1 x.2.1.1
theorem zrl (fuel : Nat) (x : PsT zho) : run (zk2 fuel) 0 fuel zk5 (env0 (svPs zho x) 0) [] (endF zk6 zk3) = zeP fuel x := by kernel_rfl
def zhq (fuel : Nat) : TF := ⟨zho, zk3, true, zeP fuel⟩
theorem zrm (fuel : Nat) : FnSpec Try.prog 85 (zhq fuel) :=
  fn_spec (T := zk2 fuel) (c := bodyOf Try.f85) (fn := Try.f85) (TabOK.of (entCons (zk1 fuel) entNil) (methNil)) mixed (by kernel_rfl) (by kernel_rfl) zrk (by kernel_rfl) (Nat.le_of_ble_eq_true (by kernel_rfl)) (rv := zk6) (by kernel_rfl) (zrl fuel)
theorem zrn (fuel : Nat) : EntryOK Try.prog 85 (zhq fuel).te := EntryOK.tf rfl (zrm fuel) (isFn (fn := Try.f85) (by kernel_rfl) (by kernel_rfl) (by kernel_rfl))
def zk7 (fuel : Nat) : Tab := Tab.of [(9, (zcv fuel).te)] []
abbrev zhr : List Pm := [{ cs := [(Kd.list I6, false)], ag := true }, { cs := [(Kd.list I6, false)], ag := true }]
abbrev zk8 : List Pm := [{ cs := [(Kd.bool, false)], ag := false }]
def zk9 : List Norm := []
noncomputable def zla : C := irOf Try.prog Try.f86 [] zk9 []
theorem zro : lightC Try.prog [] Try.f86.ntmps zk9 [] 0 (bodyOf Try.f86) = some (zla, 0) := by kernel_rfl
def zlb : List (Nat × Option (Nat × Bool)) := [(4, none)]
def zhs (fuel : Nat) (x0 : List Int) (x1 : List Int) : Option ((Bool × Unit) × Unit) :=
 Option.bind (zP fuel ((x0, ()), (x1, ()), ())) fun y_1 =>
 cond (!y_1.1.1)
 (some (((false, ()), ())))
 (some (((true, ()), ())))
def zeQ (fuel : Nat) (x : (((List Int) × Unit) × (((List Int) × Unit) × Unit))) : Option ((Bool × Unit) × Unit) := zhs fuel x.1.1 x.2.1.1
theorem zrp (fuel : Nat) (x : PsT zhr) : run (zk7 fuel) 0 fuel zla (env0 (svPs zhr x) 0) [] (endF zlb zk8) = zeQ fuel x := by kernel_rfl
def zht (fuel : Nat) : TF := ⟨zhr, zk8, true, zeQ fuel⟩
theorem zrq (fuel : Nat) : FnSpec Try.prog 86 (zht fuel) :=
  fn_spec (T := zk7 fuel) (c := bodyOf Try.f86) (fn := Try.f86) (TabOK.of (entCons (zhn fuel) entNil) (methNil)) mixed (by kernel_rfl) (by kernel_rfl) zro (by kernel_rfl) (Nat.le_of_ble_eq_true (by kernel_rfl)) (rv := zlb) (by kernel_rfl) (zrp fuel)
theorem zrr (fuel : Nat) : EntryOK Try.prog 86 (zht fuel).te := EntryOK.tf rfl (zrq fuel) (isFn (fn := Try.f86) (by kernel_rfl) (by kernel_rfl) (by kernel_rfl))
def zlc (fuel : Nat) : Tab := Tab.of [] []
abbrev zhu : List Pm := [{ cs := [(I6, false), (I6, false)], ag := true }, { cs := [(I6, false), (I6, false)], ag := true }]
abbrev zld : List Pm := [{ cs := [(Kd.bool, false)], ag := false }]
def zle : List Norm := []
noncomputable def zlf : C := irOf Try.prog Try.f103 [] zle []
theorem zrs : lightC Try.prog [] Try.f103.ntmps zle [] 0 (bodyOf Try.f103) = some (zlf, 0) := by kernel_rfl
def zlg : List (Nat × Option (Nat × Bool)) := [(4, none)]
def zhv (fuel : Nat) (x0 : Int) (x1 : Int) (x2 : Int) (x3 : Int) : Option ((Bool × Unit) × Unit) :=
 cond (x0 != x2)
 (some (((false, ()), ())))
 (cond (x1 != x3)
 (some (((false, ()), ())))
 (some (((true, ()), ()))))
def zeR (fuel : Nat) (x : ((Int × (Int × Unit)) × ((Int × (Int × Unit)) × Unit))) : Option ((Bool × Unit) × Unit) := zhv fuel x.1.1 x.1.2.1 x.2.1.1 x.2.1.2.1
theorem zrt (fuel : Nat) (x : PsT zhu) : run (zlc fuel) 0 fuel zlf (env0 (svPs zhu x) 0) [] (endF zlg zld) = zeR fuel x := by kernel_rfl
def zhw (fuel : Nat) : TF := ⟨zhu, zld, true, zeR fuel⟩
theorem zru (fuel : Nat) : FnSpec Try.prog 103 (zhw fuel) :=
  fn_spec (T := zlc fuel) (c := bodyOf Try.f103) (fn := Try.f103) (TabOK.of (entNil) (methNil)) mixed (by kernel_rfl) (by kernel_rfl) zrs (by kernel_rfl) (Nat.le_of_ble_eq_true (by kernel_rfl)) (rv := zlg) (by kernel_rfl) (zrt fuel)
theorem zrv (fuel : Nat) : EntryOK Try.prog 103 (zhw fuel).te := EntryOK.tf rfl (zru fuel) (isFn (fn := Try.f103) (by kernel_rfl) (by kernel_rfl) (by kernel_rfl))
def zcB (fuel : Nat) : Tab := Tab.of [(103, (zhw fuel).te)] []
abbrev zeS : List Pm := [{ cs := [(Kd.list KP, false)], ag := false }, { cs := [(Kd.list KP, false)], ag := false }]
abbrev zcC : List Pm := [{ cs := [(Kd.bool, false)], ag := false }]
def zlh : List Norm := [{ live := [5, 0, 1], fix := [] }]
noncomputable def zcD : C := irOf Try.prog Try.f97 [] zlh []
theorem zrw : lightC Try.prog [] Try.f97.ntmps zlh [] 0 (bodyOf Try.f97) = some (zcD, 1) := by kernel_rfl
def zcE : List (Nat × Option (Nat × Bool)) := [(4, none)]
abbrev zaU := (Int) × LP × LP
def zli (v : zaU) : Env × Heap := ([(5, SV.int .i64 v.1), (0, SV.es KP v.2.1), (1, SV.es KP v.2.2)], [])
def zcF (fuel : Nat) (g0 : zaU → Option ((Bool × Unit) × Unit)) (v : zaU) : Option ((Bool × Unit) × Unit) :=
 cond (decide (v.1 < (zz (List.length v.2.1))))
 (tst (decide (0 ≤ v.1)) <|
 tst (decide (v.1 < (zz (List.length v.2.1)))) <|
 tst (decide (0 ≤ v.1)) <|
 tst (decide (v.1 < (zz (List.length v.2.2)))) <|
 Option.bind (zeR fuel (((List.getD v.2.1 (Int.toNat v.1) (0, (0, ()))).1, (List.getD v.2.1 (Int.toNat v.1) (0, (0, ()))).2.1, ()), ((List.getD v.2.2 (Int.toNat v.1) (0, (0, ()))).1, (List.getD v.2.2 (Int.toNat v.1) (0, (0, ()))).2.1, ()), ())) fun y_2 =>
 cond (!y_2.1.1)
 (some (((false, ()), ())))
 (g0 (w64 (v.1 + (1 : Int)), v.2.1, v.2.2)))
 (some (((true, ()), ())))
def zeT (fuel : Nat) (g0 : zaU → Option ((Bool × Unit) × Unit)) : zaU → Option ((Bool × Unit) × Unit) := zcF fuel g0
theorem zrx (fuel : Nat) (G) : zcD.lp (zcB fuel) 0 fuel G (endF zcE zcC) 0 zli = iter (zeT fuel) fuel := C.lp_iter fun g v => by kernel_rfl
def zeU (fuel : Nat) (X0 : zaU → Option ((Bool × Unit) × Unit)) (x0 : LP) (x1 : LP) : Option ((Bool × Unit) × Unit) :=
 cond ((zz (List.length x0)) != (zz (List.length x1)))
 (some (((false, ()), ())))
 (X0 ((0 : Int), x0, x1))
def zeV (fuel : Nat) (x : ((LP × Unit) × ((LP × Unit) × Unit))) : Option ((Bool × Unit) × Unit) := zeU fuel (iter (zeT fuel) fuel) x.1.1 x.2.1.1
theorem zry (fuel : Nat) (x : PsT zeS) : run (zcB fuel) 0 fuel zcD (env0 (svPs zeS x) 0) [] (endF zcE zcC) = zeV fuel x :=
  (show run (zcB fuel) 0 fuel zcD (env0 (svPs zeS x) 0) [] (endF zcE zcC) = zeU fuel (zcD.lp (zcB fuel) 0 fuel (fun _ _ _ => none) (endF zcE zcC) 0 zli) x.1.1 x.2.1.1 by kernel_rfl).trans (by rw [zrx]; rfl)
def zhx (fuel : Nat) : TF := ⟨zeS, zcC, true, zeV fuel⟩
theorem zrz (fuel : Nat) : FnSpec Try.prog 97 (zhx fuel) :=
  fn_spec (T := zcB fuel) (c := bodyOf Try.f97) (fn := Try.f97) (TabOK.of (entCons (zrv fuel) entNil) (methNil)) mixed (by kernel_rfl) (by kernel_rfl) zrw (by kernel_rfl) (Nat.le_of_ble_eq_true (by kernel_rfl)) (rv := zcE) (by kernel_rfl) (zry fuel)
theorem zrA (fuel : Nat) : EntryOK Try.prog 97 (zhx fuel).te := EntryOK.tf rfl (zrz fuel) (isFn (fn := Try.f97) (by kernel_rfl) (by kernel_rfl) (by kernel_rfl))
def zlj (fuel : Nat) : Tab := Tab.of [(97, (zhx fuel).te)] []
abbrev zhy : List Pm := [{ cs := [(Kd.list KP, false), (I6, false), (I6, false)], ag := true }, { cs := [(Kd.list KP, false), (I6, false), (I6, false)], ag := true }]
abbrev zlk : List Pm := [{ cs := [(Kd.bool, false)], ag := false }]
def zll : List Norm := []
noncomputable def zlm : C := irOf Try.prog Try.f87 [] zll []
theorem zrB : lightC Try.prog [] Try.f87.ntmps zll [] 0 (bodyOf Try.f87) = some (zlm, 0) := by kernel_rfl
def zln : List (Nat × Option (Nat × Bool)) := [(4, none)]
def zhz (fuel : Nat) (x0 : LP) (x1 : Int) (x2 : Int) (x3 : LP) (x4 : Int) (x5 : Int) : Option ((Bool × Unit) × Unit) :=
 Option.bind (zeV fuel ((x0, ()), (x3, ()), ())) fun y_1 =>
 cond (!y_1.1.1)
 (some (((false, ()), ())))
 (cond (x1 != x4)
 (some (((false, ()), ())))
 (cond (x2 != x5)
 (some (((false, ()), ())))
 (some (((true, ()), ())))))
def zeW (fuel : Nat) (x : ((LP × (Int × (Int × Unit))) × ((LP × (Int × (Int × Unit))) × Unit))) : Option ((Bool × Unit) × Unit) := zhz fuel x.1.1 x.1.2.1 x.1.2.2.1 x.2.1.1 x.2.1.2.1 x.2.1.2.2.1
theorem zrC (fuel : Nat) (x : PsT zhy) : run (zlj fuel) 0 fuel zlm (env0 (svPs zhy x) 0) [] (endF zln zlk) = zeW fuel x := by kernel_rfl
def zhA (fuel : Nat) : TF := ⟨zhy, zlk, true, zeW fuel⟩
theorem zrD (fuel : Nat) : FnSpec Try.prog 87 (zhA fuel) :=
  fn_spec (T := zlj fuel) (c := bodyOf Try.f87) (fn := Try.f87) (TabOK.of (entCons (zrA fuel) entNil) (methNil)) mixed (by kernel_rfl) (by kernel_rfl) zrB (by kernel_rfl) (Nat.le_of_ble_eq_true (by kernel_rfl)) (rv := zln) (by kernel_rfl) (zrC fuel)
theorem zrE (fuel : Nat) : EntryOK Try.prog 87 (zhA fuel).te := EntryOK.tf rfl (zrD fuel) (isFn (fn := Try.f87) (by kernel_rfl) (by kernel_rfl) (by kernel_rfl))
def zlo (fuel : Nat) : Tab := Tab.of [] []
abbrev zhB : List Pm := [{ cs := [(I6, false), (I6, false)], ag := true }, { cs := [(I6, false), (I6, false)], ag := true }]
abbrev zlp : List Pm := [{ cs := [(Kd.bool, false)], ag := false }]
def zlq : List Norm := []
noncomputable def zlr : C := irOf Try.prog Try.f104 [] zlq []
theorem zrF : lightC Try.prog [] Try.f104.ntmps zlq [] 0 (bodyOf Try.f104) = some (zlr, 0) := by kernel_rfl
def zls : List (Nat × Option (Nat × Bool)) := [(4, none)]
def zhC (fuel : Nat) (x0 : Int) (x1 : Int) (x2 : Int) (x3 : Int) : Option ((Bool × Unit) × Unit) :=
 cond (x0 != x2)
 (some (((false, ()), ())))
 (cond (x1 != x3)
 (some (((false, ()), ())))
 (some (((true, ()), ()))))
def zeX (fuel : Nat) (x : ((Int × (Int × Unit)) × ((Int × (Int × Unit)) × Unit))) : Option ((Bool × Unit) × Unit) := zhC fuel x.1.1 x.1.2.1 x.2.1.1 x.2.1.2.1
theorem zrG (fuel : Nat) (x : PsT zhB) : run (zlo fuel) 0 fuel zlr (env0 (svPs zhB x) 0) [] (endF zls zlp) = zeX fuel x := by kernel_rfl
def zhD (fuel : Nat) : TF := ⟨zhB, zlp, true, zeX fuel⟩
theorem zrH (fuel : Nat) : FnSpec Try.prog 104 (zhD fuel) :=
  fn_spec (T := zlo fuel) (c := bodyOf Try.f104) (fn := Try.f104) (TabOK.of (entNil) (methNil)) mixed (by kernel_rfl) (by kernel_rfl) zrF (by kernel_rfl) (Nat.le_of_ble_eq_true (by kernel_rfl)) (rv := zls) (by kernel_rfl) (zrG fuel)
theorem zrI (fuel : Nat) : EntryOK Try.prog 104 (zhD fuel).te := EntryOK.tf rfl (zrH fuel) (isFn (fn := Try.f104) (by kernel_rfl) (by kernel_rfl) (by kernel_rfl))
def zcG (fuel : Nat) : Tab := Tab.of [(104, (zhD fuel).te)] []
abbrev zeY : List Pm := [{ cs := [(Kd.list KP, false)], ag := false }, { cs := [(Kd.list KP, false)], ag := false }]
abbrev zcH : List Pm := [{ cs := [(Kd.bool, false)], ag := false }]
def zlt : List Norm := [{ live := [5, 0, 1], fix := [] }]
noncomputable def zcI : C := irOf Try.prog Try.f98 [] zlt []
theorem zrJ : lightC Try.prog [] Try.f98.ntmps zlt [] 0 (bodyOf Try.f98) = some (zcI, 1) := by kernel_rfl
def zcJ : List (Nat × Option (Nat × Bool)) := [(4, none)]
abbrev zaV := (Int) × LP × LP
def zlu (v : zaV) : Env × Heap := ([(5, SV.int .i64 v.1), (0, SV.es KP v.2.1), (1, SV.es KP v.2.2)], [])
def zcK (fuel : Nat) (g0 : zaV → Option ((Bool × Unit) × Unit)) (v : zaV) : Option ((Bool × Unit) × Unit) :=
 cond (decide (v.1 < (zz (List.length v.2.1))))
 (tst (decide (0 ≤ v.1)) <|
 tst (decide (v.1 < (zz (List.length v.2.1)))) <|
 tst (decide (0 ≤ v.1)) <|
 tst (decide (v.1 < (zz (List.length v.2.2)))) <|
 Option.bind (zeX fuel (((List.getD v.2.1 (Int.toNat v.1) (0, (0, ()))).1, (List.getD v.2.1 (Int.toNat v.1) (0, (0, ()))).2.1, ()), ((List.getD v.2.2 (Int.toNat v.1) (0, (0, ()))).1, (List.getD v.2.2 (Int.toNat v.1) (0, (0, ()))).2.1, ()), ())) fun y_2 =>
 cond (!y_2.1.1)
 (some (((false, ()), ())))
 (g0 (w64 (v.1 + (1 : Int)), v.2.1, v.2.2)))
 (some (((true, ()), ())))
def zeZ (fuel : Nat) (g0 : zaV → Option ((Bool × Unit) × Unit)) : zaV → Option ((Bool × Unit) × Unit) := zcK fuel g0
theorem zrK (fuel : Nat) (G) : zcI.lp (zcG fuel) 0 fuel G (endF zcJ zcH) 0 zlu = iter (zeZ fuel) fuel := C.lp_iter fun g v => by kernel_rfl
def ze0 (fuel : Nat) (X0 : zaV → Option ((Bool × Unit) × Unit)) (x0 : LP) (x1 : LP) : Option ((Bool × Unit) × Unit) :=
 cond ((zz (List.length x0)) != (zz (List.length x1)))
 (some (((false, ()), ())))
 (X0 ((0 : Int), x0, x1))
def ze1 (fuel : Nat) (x : ((LP × Unit) × ((LP × Unit) × Unit))) : Option ((Bool × Unit) × Unit) := ze0 fuel (iter (zeZ fuel) fuel) x.1.1 x.2.1.1
theorem zrL (fuel : Nat) (x : PsT zeY) : run (zcG fuel) 0 fuel zcI (env0 (svPs zeY x) 0) [] (endF zcJ zcH) = ze1 fuel x :=
  (show run (zcG fuel) 0 fuel zcI (env0 (svPs zeY x) 0) [] (endF zcJ zcH) = ze0 fuel (zcI.lp (zcG fuel) 0 fuel (fun _ _ _ => none) (endF zcJ zcH) 0 zlu) x.1.1 x.2.1.1 by kernel_rfl).trans (by rw [zrK]; rfl)
def zhE (fuel : Nat) : TF := ⟨zeY, zcH, true, ze1 fuel⟩
theorem zrM (fuel : Nat) : FnSpec Try.prog 98 (zhE fuel) :=
  fn_spec (T := zcG fuel) (c := bodyOf Try.f98) (fn := Try.f98) (TabOK.of (entCons (zrI fuel) entNil) (methNil)) mixed (by kernel_rfl) (by kernel_rfl) zrJ (by kernel_rfl) (Nat.le_of_ble_eq_true (by kernel_rfl)) (rv := zcJ) (by kernel_rfl) (zrL fuel)
theorem zrN (fuel : Nat) : EntryOK Try.prog 98 (zhE fuel).te := EntryOK.tf rfl (zrM fuel) (isFn (fn := Try.f98) (by kernel_rfl) (by kernel_rfl) (by kernel_rfl))
def zlv (fuel : Nat) : Tab := Tab.of [(98, (zhE fuel).te)] []
abbrev zhF : List Pm := [{ cs := [(Kd.list KP, false), (I6, false)], ag := true }, { cs := [(Kd.list KP, false), (I6, false)], ag := true }]
abbrev zlw : List Pm := [{ cs := [(Kd.bool, false)], ag := false }]
def zlx : List Norm := []
noncomputable def zly : C := irOf Try.prog Try.f88 [] zlx []
theorem zrO : lightC Try.prog [] Try.f88.ntmps zlx [] 0 (bodyOf Try.f88) = some (zly, 0) := by kernel_rfl
def zlz : List (Nat × Option (Nat × Bool)) := [(4, none)]
def zhG (fuel : Nat) (x0 : LP) (x1 : Int) (x2 : LP) (x3 : Int) : Option ((Bool × Unit) × Unit) :=
 Option.bind (ze1 fuel ((x0, ()), (x2, ()), ())) fun y_1 =>
 cond (!y_1.1.1)
 (some (((false, ()), ())))
 (cond (x1 != x3)
 (some (((false, ()), ())))
 (some (((true, ()), ()))))
def ze2 (fuel : Nat) (x : ((LP × (Int × Unit)) × ((LP × (Int × Unit)) × Unit))) : Option ((Bool × Unit) × Unit) := zhG fuel x.1.1 x.1.2.1 x.2.1.1 x.2.1.2.1
theorem zrP (fuel : Nat) (x : PsT zhF) : run (zlv fuel) 0 fuel zly (env0 (svPs zhF x) 0) [] (endF zlz zlw) = ze2 fuel x := by kernel_rfl
def zhH (fuel : Nat) : TF := ⟨zhF, zlw, true, ze2 fuel⟩
theorem zrQ (fuel : Nat) : FnSpec Try.prog 88 (zhH fuel) :=
  fn_spec (T := zlv fuel) (c := bodyOf Try.f88) (fn := Try.f88) (TabOK.of (entCons (zrN fuel) entNil) (methNil)) mixed (by kernel_rfl) (by kernel_rfl) zrO (by kernel_rfl) (Nat.le_of_ble_eq_true (by kernel_rfl)) (rv := zlz) (by kernel_rfl) (zrP fuel)
theorem zrR (fuel : Nat) : EntryOK Try.prog 88 (zhH fuel).te := EntryOK.tf rfl (zrQ fuel) (isFn (fn := Try.f88) (by kernel_rfl) (by kernel_rfl) (by kernel_rfl))
def zlA (fuel : Nat) : Tab := Tab.of [(85, (zhq fuel).te), (86, (zht fuel).te), (87, (zhA fuel).te), (88, (zhH fuel).te)] []
abbrev zhI : List Pm := [{ cs := [(Kd.list (Kd.list I6), false), (Kd.list I6, false), (Kd.list KP, false), (I6, false), (I6, false), (Kd.list KP, false), (I6, false)], ag := true }, { cs := [(Kd.list (Kd.list I6), false), (Kd.list I6, false), (Kd.list KP, false), (I6, false), (I6, false), (Kd.list KP, false), (I6, false)], ag := true }]
abbrev zlB : List Pm := [{ cs := [(Kd.bool, false)], ag := false }]
def zlC : List Norm := []
noncomputable def zlD : C := irOf Try.prog Try.f82 [] zlC []
theorem zrS : lightC Try.prog [] Try.f82.ntmps zlC [] 0 (bodyOf Try.f82) = some (zlD, 0) := by kernel_rfl
def zlE : List (Nat × Option (Nat × Bool)) := [(4, none)]
def zhJ (fuel : Nat) (x0 : List (List Int)) (x1 : List Int) (x2 : LP) (x3 : Int) (x4 : Int) (x5 : LP) (x6 : Int) (x7 : List (List Int)) (x8 : List Int) (x9 : LP) (x10 : Int) (x11 : Int) (x12 : LP) (x13 : Int) : Option ((Bool × Unit) × Unit) :=
 Option.bind (zeP fuel ((x0, ()), (x7, ()), ())) fun y_1 =>
 cond (!y_1.1.1)
 (some (((false, ()), ())))
 (Option.bind (zeQ fuel ((x1, ()), (x8, ()), ())) fun y_3 =>
 cond (!y_3.1.1)
 (some (((false, ()), ())))
 (Option.bind (zeW fuel ((x2, x3, x4, ()), (x9, x10, x11, ()), ())) fun y_5 =>
 cond (!y_5.1.1)
 (some (((false, ()), ())))
 (Option.bind (ze2 fuel ((x5, x6, ()), (x12, x13, ()), ())) fun y_7 =>
 cond (!y_7.1.1)
 (some (((false, ()), ())))
 (some (((true, ()), ()))))))
def ze3 (fuel : Nat) (x : (SumY × (SumY × Unit))) : Option ((Bool × Unit) × Unit) := zhJ fuel x.1.1 x.1.2.1 x.1.2.2.1 x.1.2.2.2.1 x.1.2.2.2.2.1 x.1.2.2.2.2.2.1 x.1.2.2.2.2.2.2.1 x.2.1.1 x.2.1.2.1 x.2.1.2.2.1 x.2.1.2.2.2.1 x.2.1.2.2.2.2.1 x.2.1.2.2.2.2.2.1 x.2.1.2.2.2.2.2.2.1
theorem zrT (fuel : Nat) (x : PsT zhI) : run (zlA fuel) 0 fuel zlD (env0 (svPs zhI x) 0) [] (endF zlE zlB) = ze3 fuel x := by kernel_rfl
def zhK (fuel : Nat) : TF := ⟨zhI, zlB, true, ze3 fuel⟩
theorem zrU (fuel : Nat) : FnSpec Try.prog 82 (zhK fuel) :=
  fn_spec (T := zlA fuel) (c := bodyOf Try.f82) (fn := Try.f82) (TabOK.of (entCons (zrn fuel) (entCons (zrr fuel) (entCons (zrE fuel) (entCons (zrR fuel) entNil)))) (methNil)) mixed (by kernel_rfl) (by kernel_rfl) zrS (by kernel_rfl) (Nat.le_of_ble_eq_true (by kernel_rfl)) (rv := zlE) (by kernel_rfl) (zrT fuel)
theorem zrV (fuel : Nat) : EntryOK Try.prog 82 (zhK fuel).te := EntryOK.tf rfl (zrU fuel) (isFn (fn := Try.f82) (by kernel_rfl) (by kernel_rfl) (by kernel_rfl))
def zlF (fuel : Nat) : Tab := Tab.of [(82, (zhK fuel).te)] []
abbrev zhL : List Pm := [{ cs := [(I6, false), (I6, false), (I6, false), (Kd.list (Kd.list I6), false), (Kd.list I6, false), (Kd.list KP, false), (I6, false), (I6, false), (Kd.list KP, false), (I6, false)], ag := true }, { cs := [(I6, false), (I6, false), (I6, false), (Kd.list (Kd.list I6), false), (Kd.list I6, false), (Kd.list KP, false), (I6, false), (I6, false), (Kd.list KP, false), (I6, false)], ag := true }]
abbrev zlG : List Pm := [{ cs := [(Kd.bool, false)], ag := false }]
def zlH : List Norm := []
noncomputable def zlI : C := irOf Try.prog Try.f79 [] zlH []
theorem zrW : lightC Try.prog [] Try.f79.ntmps zlH [] 0 (bodyOf Try.f79) = some (zlI, 0) := by kernel_rfl
def zlJ : List (Nat × Option (Nat × Bool)) := [(4, none)]
def zhM (fuel : Nat) (x0 : Int) (x1 : Int) (x2 : Int) (x3 : List (List Int)) (x4 : List Int) (x5 : LP) (x6 : Int) (x7 : Int) (x8 : LP) (x9 : Int) (x10 : Int) (x11 : Int) (x12 : Int) (x13 : List (List Int)) (x14 : List Int) (x15 : LP) (x16 : Int) (x17 : Int) (x18 : LP) (x19 : Int) : Option ((Bool × Unit) × Unit) :=
 cond (x0 != x10)
 (some (((false, ()), ())))
 (cond (x1 != x11)
 (some (((false, ()), ())))
 (cond (x2 != x12)
 (some (((false, ()), ())))
 (Option.bind (ze3 fuel ((x3, x4, x5, x6, x7, x8, x9, ()), (x13, x14, x15, x16, x17, x18, x19, ()), ())) fun y_4 =>
 cond (!y_4.1.1)
 (some (((false, ()), ())))
 (some (((true, ()), ()))))))
def zcL (fuel : Nat) (x : (EntF × (EntF × Unit))) : Option ((Bool × Unit) × Unit) := zhM fuel x.1.1 x.1.2.1 x.1.2.2.1 x.1.2.2.2.1 x.1.2.2.2.2.1 x.1.2.2.2.2.2.1 x.1.2.2.2.2.2.2.1 x.1.2.2.2.2.2.2.2.1 x.1.2.2.2.2.2.2.2.2.1 x.1.2.2.2.2.2.2.2.2.2.1 x.2.1.1 x.2.1.2.1 x.2.1.2.2.1 x.2.1.2.2.2.1 x.2.1.2.2.2.2.1 x.2.1.2.2.2.2.2.1 x.2.1.2.2.2.2.2.2.1 x.2.1.2.2.2.2.2.2.2.1 x.2.1.2.2.2.2.2.2.2.2.1 x.2.1.2.2.2.2.2.2.2.2.2.1
theorem zrX (fuel : Nat) (x : PsT zhL) : run (zlF fuel) 0 fuel zlI (env0 (svPs zhL x) 0) [] (endF zlJ zlG) = zcL fuel x := by kernel_rfl
def zhN (fuel : Nat) : TF := ⟨zhL, zlG, true, zcL fuel⟩
theorem zrY (fuel : Nat) : FnSpec Try.prog 79 (zhN fuel) :=
  fn_spec (T := zlF fuel) (c := bodyOf Try.f79) (fn := Try.f79) (TabOK.of (entCons (zrV fuel) entNil) (methNil)) mixed (by kernel_rfl) (by kernel_rfl) zrW (by kernel_rfl) (Nat.le_of_ble_eq_true (by kernel_rfl)) (rv := zlJ) (by kernel_rfl) (zrX fuel)
theorem zrZ (fuel : Nat) : EntryOK Try.prog 79 (zhN fuel).te := EntryOK.tf rfl (zrY fuel) (isFn (fn := Try.f79) (by kernel_rfl) (by kernel_rfl) (by kernel_rfl))
def zcM (fuel : Nat) : Tab := Tab.of [(79, (zhN fuel).te)] []
abbrev ze4 : List Pm := [{ cs := [(Kd.list KE, false)], ag := false }, { cs := [(Kd.list KE, false)], ag := false }]
abbrev zcN : List Pm := [{ cs := [(Kd.bool, false)], ag := false }]
def zlK : List Norm := [{ live := [5, 0, 1], fix := [] }]
noncomputable def zcO : C := irOf Try.prog Try.f71 [] zlK []
theorem zr0 : lightC Try.prog [] Try.f71.ntmps zlK [] 0 (bodyOf Try.f71) = some (zcO, 1) := by kernel_rfl
def zcP : List (Nat × Option (Nat × Bool)) := [(4, none)]
abbrev zaW := (Int) × (List EntY) × (List EntY)
def zlL (v : zaW) : Env × Heap := ([(5, SV.int .i64 v.1), (0, SV.es KE v.2.1), (1, SV.es KE v.2.2)], [])
def zcQ (fuel : Nat) (g0 : zaW → Option ((Bool × Unit) × Unit)) (v : zaW) : Option ((Bool × Unit) × Unit) :=
 cond (decide (v.1 < (zz (List.length v.2.1))))
 (tst (decide (0 ≤ v.1)) <|
 tst (decide (v.1 < (zz (List.length v.2.1)))) <|
 tst (decide (0 ≤ v.1)) <|
 tst (decide (v.1 < (zz (List.length v.2.2)))) <|
 Option.bind (zcL fuel (((List.getD v.2.1 (Int.toNat v.1) dE).1, (List.getD v.2.1 (Int.toNat v.1) dE).2.1, (List.getD v.2.1 (Int.toNat v.1) dE).2.2.1, (List.getD v.2.1 (Int.toNat v.1) dE).2.2.2.1.1.1, (List.getD v.2.1 (Int.toNat v.1) dE).2.2.2.1.2.1.1, (List.getD v.2.1 (Int.toNat v.1) dE).2.2.2.1.2.2.1.1, (List.getD v.2.1 (Int.toNat v.1) dE).2.2.2.1.2.2.1.2.1, (List.getD v.2.1 (Int.toNat v.1) dE).2.2.2.1.2.2.1.2.2.1, (List.getD v.2.1 (Int.toNat v.1) dE).2.2.2.1.2.2.2.1.1, (List.getD v.2.1 (Int.toNat v.1) dE).2.2.2.1.2.2.2.1.2.1, ()), ((List.getD v.2.2 (Int.toNat v.1) dE).1, (List.getD v.2.2 (Int.toNat v.1) dE).2.1, (List.getD v.2.2 (Int.toNat v.1) dE).2.2.1, (List.getD v.2.2 (Int.toNat v.1) dE).2.2.2.1.1.1, (List.getD v.2.2 (Int.toNat v.1) dE).2.2.2.1.2.1.1, (List.getD v.2.2 (Int.toNat v.1) dE).2.2.2.1.2.2.1.1, (List.getD v.2.2 (Int.toNat v.1) dE).2.2.2.1.2.2.1.2.1, (List.getD v.2.2 (Int.toNat v.1) dE).2.2.2.1.2.2.1.2.2.1, (List.getD v.2.2 (Int.toNat v.1) dE).2.2.2.1.2.2.2.1.1, (List.getD v.2.2 (Int.toNat v.1) dE).2.2.2.1.2.2.2.1.2.1, ()), ())) fun y_2 =>
 cond (!y_2.1.1)
 (some (((false, ()), ())))
 (g0 (w64 (v.1 + (1 : Int)), v.2.1, v.2.2)))
 (some (((true, ()), ())))
def ze5 (fuel : Nat) (g0 : zaW → Option ((Bool × Unit) × Unit)) : zaW → Option ((Bool × Unit) × Unit) := zcQ fuel g0
theorem zr1 (fuel : Nat) (G) : zcO.lp (zcM fuel) 0 fuel G (endF zcP zcN) 0 zlL = iter (ze5 fuel) fuel := C.lp_iter fun g v => by kernel_rfl
def ze6 (fuel : Nat) (X0 : zaW → Option ((Bool × Unit) × Unit)) (x0 : List EntY) (x1 : List EntY) : Option ((Bool × Unit) × Unit) :=
 cond ((zz (List.length x0)) != (zz (List.length x1)))
 (some (((false, ()), ())))
 (X0 ((0 : Int), x0, x1))
def zcR (fuel : Nat) (x : (((List EntY) × Unit) × (((List EntY) × Unit) × Unit))) : Option ((Bool × Unit) × Unit) := ze6 fuel (iter (ze5 fuel) fuel) x.1.1 x.2.1.1
theorem zr2 (fuel : Nat) (x : PsT ze4) : run (zcM fuel) 0 fuel zcO (env0 (svPs ze4 x) 0) [] (endF zcP zcN) = zcR fuel x :=
  (show run (zcM fuel) 0 fuel zcO (env0 (svPs ze4 x) 0) [] (endF zcP zcN) = ze6 fuel (zcO.lp (zcM fuel) 0 fuel (fun _ _ _ => none) (endF zcP zcN) 0 zlL) x.1.1 x.2.1.1 by kernel_rfl).trans (by rw [zr1]; rfl)
def ze7 (fuel : Nat) : TF := ⟨ze4, zcN, true, zcR fuel⟩
theorem zr3 (fuel : Nat) : FnSpec Try.prog 71 (ze7 fuel) :=
  fn_spec (T := zcM fuel) (c := bodyOf Try.f71) (fn := Try.f71) (TabOK.of (entCons (zrZ fuel) entNil) (methNil)) mixed (by kernel_rfl) (by kernel_rfl) zr0 (by kernel_rfl) (Nat.le_of_ble_eq_true (by kernel_rfl)) (rv := zcP) (by kernel_rfl) (zr2 fuel)
theorem zlM (fuel : Nat) : EntryOK Try.prog 71 (ze7 fuel).te := EntryOK.tf rfl (zr3 fuel) (isFn (fn := Try.f71) (by kernel_rfl) (by kernel_rfl) (by kernel_rfl))
def zlN (fuel : Nat) : Tab := Tab.of [(71, (ze7 fuel).te)] []
abbrev zhO : List Pm := [{ cs := [(I6, false), (Kd.list KE, false), (I6, false), (I6, false), (I6, false)], ag := true }, { cs := [(I6, false), (Kd.list KE, false), (I6, false), (I6, false), (I6, false)], ag := true }]
abbrev zlO : List Pm := [{ cs := [(Kd.bool, false)], ag := false }]
def zlP : List Norm := []
noncomputable def zlQ : C := irOf Try.prog Try.f52 [] zlP []
theorem zr4 : lightC Try.prog [] Try.f52.ntmps zlP [] 0 (bodyOf Try.f52) = some (zlQ, 0) := by kernel_rfl
def zlR : List (Nat × Option (Nat × Bool)) := [(4, none)]
def zhP (fuel : Nat) (x0 : Int) (x1 : List EntY) (x2 : Int) (x3 : Int) (x4 : Int) (x5 : Int) (x6 : List EntY) (x7 : Int) (x8 : Int) (x9 : Int) : Option ((Bool × Unit) × Unit) :=
 cond (x0 != x5)
 (some (((false, ()), ())))
 (Option.bind (zcR fuel ((x1, ()), (x6, ()), ())) fun y_2 =>
 cond (!y_2.1.1)
 (some (((false, ()), ())))
 (cond (x2 != x7)
 (some (((false, ()), ())))
 (cond (x3 != x8)
 (some (((false, ()), ())))
 (cond (x4 != x9)
 (some (((false, ()), ())))
 (some (((true, ()), ())))))))
def zcS (fuel : Nat) (x : (NodY × (NodY × Unit))) : Option ((Bool × Unit) × Unit) := zhP fuel x.1.1 x.1.2.1 x.1.2.2.1 x.1.2.2.2.1 x.1.2.2.2.2.1 x.2.1.1 x.2.1.2.1 x.2.1.2.2.1 x.2.1.2.2.2.1 x.2.1.2.2.2.2.1
theorem zr5 (fuel : Nat) (x : PsT zhO) : run (zlN fuel) 0 fuel zlQ (env0 (svPs zhO x) 0) [] (endF zlR zlO) = zcS fuel x := by kernel_rfl
def zhQ (fuel : Nat) : TF := ⟨zhO, zlO, true, zcS fuel⟩
theorem zr6 (fuel : Nat) : FnSpec Try.prog 52 (zhQ fuel) :=
  fn_spec (T := zlN fuel) (c := bodyOf Try.f52) (fn := Try.f52) (TabOK.of (entCons (zlM fuel) entNil) (methNil)) mixed (by kernel_rfl) (by kernel_rfl) zr4 (by kernel_rfl) (Nat.le_of_ble_eq_true (by kernel_rfl)) (rv := zlR) (by kernel_rfl) (zr5 fuel)
theorem zr7 (fuel : Nat) : EntryOK Try.prog 52 (zhQ fuel).te := EntryOK.tf rfl (zr6 fuel) (isFn (fn := Try.f52) (by kernel_rfl) (by kernel_rfl) (by kernel_rfl))
def zcT (fuel : Nat) : Tab := Tab.of [(52, (zhQ fuel).te)] []
abbrev ze8 : List Pm := [{ cs := [(Kd.list KN, false)], ag := false }, { cs := [(Kd.list KN, false)], ag := false }]
abbrev zcU : List Pm := [{ cs := [(Kd.bool, false)], ag := false }]
def zlS : List Norm := [{ live := [5, 0, 1], fix := [] }]
noncomputable def zcV : C := irOf Try.prog Try.f25 [] zlS []
theorem zr8 : lightC Try.prog [] Try.f25.ntmps zlS [] 0 (bodyOf Try.f25) = some (zcV, 1) := by kernel_rfl
def zcW : List (Nat × Option (Nat × Bool)) := [(4, none)]
abbrev zaX := (Int) × (List NodY) × (List NodY)
def zlT (v : zaX) : Env × Heap := ([(5, SV.int .i64 v.1), (0, SV.es KN v.2.1), (1, SV.es KN v.2.2)], [])
def zcX (fuel : Nat) (g0 : zaX → Option ((Bool × Unit) × Unit)) (v : zaX) : Option ((Bool × Unit) × Unit) :=
 cond (decide (v.1 < (zz (List.length v.2.1))))
 (tst (decide (0 ≤ v.1)) <|
 tst (decide (v.1 < (zz (List.length v.2.1)))) <|
 tst (decide (0 ≤ v.1)) <|
 tst (decide (v.1 < (zz (List.length v.2.2)))) <|
 Option.bind (zcS fuel (((List.getD v.2.1 (Int.toNat v.1) dN).1, (List.getD v.2.1 (Int.toNat v.1) dN).2.1, (List.getD v.2.1 (Int.toNat v.1) dN).2.2.1, (List.getD v.2.1 (Int.toNat v.1) dN).2.2.2.1, (List.getD v.2.1 (Int.toNat v.1) dN).2.2.2.2.1, ()), ((List.getD v.2.2 (Int.toNat v.1) dN).1, (List.getD v.2.2 (Int.toNat v.1) dN).2.1, (List.getD v.2.2 (Int.toNat v.1) dN).2.2.1, (List.getD v.2.2 (Int.toNat v.1) dN).2.2.2.1, (List.getD v.2.2 (Int.toNat v.1) dN).2.2.2.2.1, ()), ())) fun y_2 =>
 cond (!y_2.1.1)
 (some (((false, ()), ())))
 (g0 (w64 (v.1 + (1 : Int)), v.2.1, v.2.2)))
 (some (((true, ()), ())))
def ze9 (fuel : Nat) (g0 : zaX → Option ((Bool × Unit) × Unit)) : zaX → Option ((Bool × Unit) × Unit) := zcX fuel g0
theorem zr9 (fuel : Nat) (G) : zcV.lp (zcT fuel) 0 fuel G (endF zcW zcU) 0 zlT = iter (ze9 fuel) fuel := C.lp_iter fun g v => by kernel_rfl
def zfa (fuel : Nat) (X0 : zaX → Option ((Bool × Unit) × Unit)) (x0 : List NodY) (x1 : List NodY) : Option ((Bool × Unit) × Unit) :=
 cond ((zz (List.length x0)) != (zz (List.length x1)))
 (some (((false, ()), ())))
 (X0 ((0 : Int), x0, x1))
def zfb (fuel : Nat) (x : (((List NodY) × Unit) × (((List NodY) × Unit) × Unit))) : Option ((Bool × Unit) × Unit) := zfa fuel (iter (ze9 fuel) fuel) x.1.1 x.2.1.1
theorem zsa (fuel : Nat) (x : PsT ze8) : run (zcT fuel) 0 fuel zcV (env0 (svPs ze8 x) 0) [] (endF zcW zcU) = zfb fuel x :=
  (show run (zcT fuel) 0 fuel zcV (env0 (svPs ze8 x) 0) [] (endF zcW zcU) = zfa fuel (zcV.lp (zcT fuel) 0 fuel (fun _ _ _ => none) (endF zcW zcU) 0 zlT) x.1.1 x.2.1.1 by kernel_rfl).trans (by rw [zr9]; rfl)
def zhR (fuel : Nat) : TF := ⟨ze8, zcU, true, zfb fuel⟩
theorem zsb (fuel : Nat) : FnSpec Try.prog 25 (zhR fuel) :=
  fn_spec (T := zcT fuel) (c := bodyOf Try.f25) (fn := Try.f25) (TabOK.of (entCons (zr7 fuel) entNil) (methNil)) mixed (by kernel_rfl) (by kernel_rfl) zr8 (by kernel_rfl) (Nat.le_of_ble_eq_true (by kernel_rfl)) (rv := zcW) (by kernel_rfl) (zsa fuel)
theorem zsc (fuel : Nat) : EntryOK Try.prog 25 (zhR fuel).te := EntryOK.tf rfl (zsb fuel) (isFn (fn := Try.f25) (by kernel_rfl) (by kernel_rfl) (by kernel_rfl))
def zcY (fuel : Nat) : Tab := Tab.of [] []
abbrev zfc : List Pm := [{ cs := [(Kd.list Kd.bool, false)], ag := false }, { cs := [(Kd.list Kd.bool, false)], ag := false }]
abbrev zcZ : List Pm := [{ cs := [(Kd.bool, false)], ag := false }]
def zlU : List Norm := [{ live := [5, 0, 1], fix := [] }]
noncomputable def zc0 : C := irOf Try.prog Try.f26 [] zlU []
theorem zsd : lightC Try.prog [] Try.f26.ntmps zlU [] 0 (bodyOf Try.f26) = some (zc0, 1) := by kernel_rfl
def zc1 : List (Nat × Option (Nat × Bool)) := [(4, none)]
abbrev zaY := (Int) × (List Bool) × (List Bool)
def zlV (v : zaY) : Env × Heap := ([(5, SV.int .i64 v.1), (0, SV.es Kd.bool v.2.1), (1, SV.es Kd.bool v.2.2)], [])
def zc2 (fuel : Nat) (g0 : zaY → Option ((Bool × Unit) × Unit)) (v : zaY) : Option ((Bool × Unit) × Unit) :=
 cond (decide (v.1 < (zz (List.length v.2.1))))
 (tst (decide (0 ≤ v.1)) <|
 tst (decide (v.1 < (zz (List.length v.2.1)))) <|
 tst (decide (0 ≤ v.1)) <|
 tst (decide (v.1 < (zz (List.length v.2.2)))) <|
 cond (!List.getD v.2.1 (Int.toNat v.1) false == List.getD v.2.2 (Int.toNat v.1) false)
 (some (((false, ()), ())))
 (g0 (w64 (v.1 + (1 : Int)), v.2.1, v.2.2)))
 (some (((true, ()), ())))
def zfd (fuel : Nat) (g0 : zaY → Option ((Bool × Unit) × Unit)) : zaY → Option ((Bool × Unit) × Unit) := zc2 fuel g0
theorem zse (fuel : Nat) (G) : zc0.lp (zcY fuel) 0 fuel G (endF zc1 zcZ) 0 zlV = iter (zfd fuel) fuel := C.lp_iter fun g v => by kernel_rfl
def zfe (fuel : Nat) (X0 : zaY → Option ((Bool × Unit) × Unit)) (x0 : List Bool) (x1 : List Bool) : Option ((Bool × Unit) × Unit) :=
 cond ((zz (List.length x0)) != (zz (List.length x1)))
 (some (((false, ()), ())))
 (X0 ((0 : Int), x0, x1))
def zff (fuel : Nat) (x : (((List Bool) × Unit) × (((List Bool) × Unit) × Unit))) : Option ((Bool × Unit) × Unit) := zfe fuel (iter (zfd fuel) fuel) x.1.1 x.2.1.1
theorem zsf (fuel : Nat) (x : PsT zfc) : run (zcY fuel) 0 fuel zc0 (env0 (svPs zfc x) 0) [] (endF zc1 zcZ) = zff fuel x :=
  (show run (zcY fuel) 0 fuel zc0 (env0 (svPs zfc x) 0) [] (endF zc1 zcZ) = zfe fuel (zc0.lp (zcY fuel) 0 fuel (fun _ _ _ => none) (endF zc1 zcZ) 0 zlV) x.1.1 x.2.1.1 by kernel_rfl).trans (by rw [zse]; rfl)
def zhS (fuel : Nat) : TF := ⟨zfc, zcZ, true, zff fuel⟩
theorem zsg (fuel : Nat) : FnSpec Try.prog 26 (zhS fuel) :=
  fn_spec (T := zcY fuel) (c := bodyOf Try.f26) (fn := Try.f26) (TabOK.of (entNil) (methNil)) mixed (by kernel_rfl) (by kernel_rfl) zsd (by kernel_rfl) (Nat.le_of_ble_eq_true (by kernel_rfl)) (rv := zc1) (by kernel_rfl) (zsf fuel)
theorem zsh (fuel : Nat) : EntryOK Try.prog 26 (zhS fuel).te := EntryOK.tf rfl (zsg fuel) (isFn (fn := Try.f26) (by kernel_rfl) (by kernel_rfl) (by kernel_rfl))
def zlW (fuel : Nat) : Tab := Tab.of [(71, (ze7 fuel).te)] []
abbrev zhT : List Pm := [{ cs := [(I6, false), (I6, false), (I6, false), (I6, false), (I6, false), (Kd.list KE, false)], ag := true }, { cs := [(I6, false), (I6, false), (I6, false), (I6, false), (I6, false), (Kd.list KE, false)], ag := true }]
abbrev zlX : List Pm := [{ cs := [(Kd.bool, false)], ag := false }]
def zlY : List Norm := []
noncomputable def zlZ : C := irOf Try.prog Try.f53 [] zlY []
theorem zsi : lightC Try.prog [] Try.f53.ntmps zlY [] 0 (bodyOf Try.f53) = some (zlZ, 0) := by kernel_rfl
def zl0 : List (Nat × Option (Nat × Bool)) := [(4, none)]
def zhU (fuel : Nat) (x0 : Int) (x1 : Int) (x2 : Int) (x3 : Int) (x4 : Int) (x5 : List EntY) (x6 : Int) (x7 : Int) (x8 : Int) (x9 : Int) (x10 : Int) (x11 : List EntY) : Option ((Bool × Unit) × Unit) :=
 cond (x0 != x6)
 (some (((false, ()), ())))
 (cond (x1 != x7)
 (some (((false, ()), ())))
 (cond (x2 != x8)
 (some (((false, ()), ())))
 (cond (x3 != x9)
 (some (((false, ()), ())))
 (cond (x4 != x10)
 (some (((false, ()), ())))
 (Option.bind (zcR fuel ((x5, ()), (x11, ()), ())) fun y_6 =>
 cond (!y_6.1.1)
 (some (((false, ()), ())))
 (some (((true, ()), ()))))))))
def zc3 (fuel : Nat) (x : (WorY × (WorY × Unit))) : Option ((Bool × Unit) × Unit) := zhU fuel x.1.1 x.1.2.1 x.1.2.2.1 x.1.2.2.2.1 x.1.2.2.2.2.1 x.1.2.2.2.2.2.1 x.2.1.1 x.2.1.2.1 x.2.1.2.2.1 x.2.1.2.2.2.1 x.2.1.2.2.2.2.1 x.2.1.2.2.2.2.2.1
theorem zsj (fuel : Nat) (x : PsT zhT) : run (zlW fuel) 0 fuel zlZ (env0 (svPs zhT x) 0) [] (endF zl0 zlX) = zc3 fuel x := by kernel_rfl
def zhV (fuel : Nat) : TF := ⟨zhT, zlX, true, zc3 fuel⟩
theorem zsk (fuel : Nat) : FnSpec Try.prog 53 (zhV fuel) :=
  fn_spec (T := zlW fuel) (c := bodyOf Try.f53) (fn := Try.f53) (TabOK.of (entCons (zlM fuel) entNil) (methNil)) mixed (by kernel_rfl) (by kernel_rfl) zsi (by kernel_rfl) (Nat.le_of_ble_eq_true (by kernel_rfl)) (rv := zl0) (by kernel_rfl) (zsj fuel)
theorem zsl (fuel : Nat) : EntryOK Try.prog 53 (zhV fuel).te := EntryOK.tf rfl (zsk fuel) (isFn (fn := Try.f53) (by kernel_rfl) (by kernel_rfl) (by kernel_rfl))
def zc4 (fuel : Nat) : Tab := Tab.of [(53, (zhV fuel).te)] []
abbrev zfg : List Pm := [{ cs := [(Kd.list KW, false)], ag := false }, { cs := [(Kd.list KW, false)], ag := false }]
abbrev zc5 : List Pm := [{ cs := [(Kd.bool, false)], ag := false }]
def zl1 : List Norm := [{ live := [5, 0, 1], fix := [] }]
noncomputable def zc6 : C := irOf Try.prog Try.f27 [] zl1 []
theorem zsm : lightC Try.prog [] Try.f27.ntmps zl1 [] 0 (bodyOf Try.f27) = some (zc6, 1) := by kernel_rfl
def zc7 : List (Nat × Option (Nat × Bool)) := [(4, none)]
abbrev zaZ := (Int) × (List WorY) × (List WorY)
def zl2 (v : zaZ) : Env × Heap := ([(5, SV.int .i64 v.1), (0, SV.es KW v.2.1), (1, SV.es KW v.2.2)], [])
def zc8 (fuel : Nat) (g0 : zaZ → Option ((Bool × Unit) × Unit)) (v : zaZ) : Option ((Bool × Unit) × Unit) :=
 cond (decide (v.1 < (zz (List.length v.2.1))))
 (tst (decide (0 ≤ v.1)) <|
 tst (decide (v.1 < (zz (List.length v.2.1)))) <|
 tst (decide (0 ≤ v.1)) <|
 tst (decide (v.1 < (zz (List.length v.2.2)))) <|
 Option.bind (zc3 fuel (((List.getD v.2.1 (Int.toNat v.1) dW).1, (List.getD v.2.1 (Int.toNat v.1) dW).2.1, (List.getD v.2.1 (Int.toNat v.1) dW).2.2.1, (List.getD v.2.1 (Int.toNat v.1) dW).2.2.2.1, (List.getD v.2.1 (Int.toNat v.1) dW).2.2.2.2.1, (List.getD v.2.1 (Int.toNat v.1) dW).2.2.2.2.2.1, ()), ((List.getD v.2.2 (Int.toNat v.1) dW).1, (List.getD v.2.2 (Int.toNat v.1) dW).2.1, (List.getD v.2.2 (Int.toNat v.1) dW).2.2.1, (List.getD v.2.2 (Int.toNat v.1) dW).2.2.2.1, (List.getD v.2.2 (Int.toNat v.1) dW).2.2.2.2.1, (List.getD v.2.2 (Int.toNat v.1) dW).2.2.2.2.2.1, ()), ())) fun y_2 =>
 cond (!y_2.1.1)
 (some (((false, ()), ())))
 (g0 (w64 (v.1 + (1 : Int)), v.2.1, v.2.2)))
 (some (((true, ()), ())))
def zfh (fuel : Nat) (g0 : zaZ → Option ((Bool × Unit) × Unit)) : zaZ → Option ((Bool × Unit) × Unit) := zc8 fuel g0
theorem zsn (fuel : Nat) (G) : zc6.lp (zc4 fuel) 0 fuel G (endF zc7 zc5) 0 zl2 = iter (zfh fuel) fuel := C.lp_iter fun g v => by kernel_rfl
def zfi (fuel : Nat) (X0 : zaZ → Option ((Bool × Unit) × Unit)) (x0 : List WorY) (x1 : List WorY) : Option ((Bool × Unit) × Unit) :=
 cond ((zz (List.length x0)) != (zz (List.length x1)))
 (some (((false, ()), ())))
 (X0 ((0 : Int), x0, x1))
def zfj (fuel : Nat) (x : (((List WorY) × Unit) × (((List WorY) × Unit) × Unit))) : Option ((Bool × Unit) × Unit) := zfi fuel (iter (zfh fuel) fuel) x.1.1 x.2.1.1
theorem zso (fuel : Nat) (x : PsT zfg) : run (zc4 fuel) 0 fuel zc6 (env0 (svPs zfg x) 0) [] (endF zc7 zc5) = zfj fuel x :=
  (show run (zc4 fuel) 0 fuel zc6 (env0 (svPs zfg x) 0) [] (endF zc7 zc5) = zfi fuel (zc6.lp (zc4 fuel) 0 fuel (fun _ _ _ => none) (endF zc7 zc5) 0 zl2) x.1.1 x.2.1.1 by kernel_rfl).trans (by rw [zsn]; rfl)
def zhW (fuel : Nat) : TF := ⟨zfg, zc5, true, zfj fuel⟩
theorem zsp (fuel : Nat) : FnSpec Try.prog 27 (zhW fuel) :=
  fn_spec (T := zc4 fuel) (c := bodyOf Try.f27) (fn := Try.f27) (TabOK.of (entCons (zsl fuel) entNil) (methNil)) mixed (by kernel_rfl) (by kernel_rfl) zsm (by kernel_rfl) (Nat.le_of_ble_eq_true (by kernel_rfl)) (rv := zc7) (by kernel_rfl) (zso fuel)
theorem zsq (fuel : Nat) : EntryOK Try.prog 27 (zhW fuel).te := EntryOK.tf rfl (zsp fuel) (isFn (fn := Try.f27) (by kernel_rfl) (by kernel_rfl) (by kernel_rfl))
end Go.Proofs.Ytmkekjmckdkcnaa.Den
namespace Go.Proofs.Ytmkekjmckdkcnaa.Den
open Go Go.RowKit
def zc9 (fuel : Nat) : Tab := Tab.of [(54, (zeO fuel).te)] []
abbrev zfk : List Pm := [{ cs := [(Kd.list (Kd.list (Kd.list I6)), false)], ag := false }, { cs := [(Kd.list (Kd.list (Kd.list I6)), false)], ag := false }]
abbrev zda : List Pm := [{ cs := [(Kd.bool, false)], ag := false }]
def zl3 : List Norm := [{ live := [5, 0, 1], fix := [] }]
noncomputable def zdb : C := irOf Try.prog Try.f28 [] zl3 []
theorem zsr : lightC Try.prog [] Try.f28.ntmps zl3 [] 0 (bodyOf Try.f28) = some (zdb, 1) := by kernel_rfl
def zdc : List (Nat × Option (Nat × Bool)) := [(4, none)]
abbrev za0 := (Int) × (List (List (List Int))) × (List (List (List Int)))
def zl4 (v : za0) : Env × Heap := ([(5, SV.int .i64 v.1), (0, SV.es (Kd.list (Kd.list I6)) v.2.1), (1, SV.es (Kd.list (Kd.list I6)) v.2.2)], [])
def zdd (fuel : Nat) (g0 : za0 → Option ((Bool × Unit) × Unit)) (v : za0) : Option ((Bool × Unit) × Unit) :=
 cond (decide (v.1 < (zz (List.length v.2.1))))
 (tst (decide (0 ≤ v.1)) <|
 tst (decide (v.1 < (zz (List.length v.2.1)))) <|
 tst (decide (0 ≤ v.1)) <|
 tst (decide (v.1 < (zz (List.length v.2.2)))) <|
 Option.bind (zaT fuel ((List.getD v.2.1 (Int.toNat v.1) [], ()), (List.getD v.2.2 (Int.toNat v.1) [], ()), ())) fun y_2 =>
 cond (!y_2.1.1)
 (some (((false, ()), ())))
 (g0 (w64 (v.1 + (1 : Int)), v.2.1, v.2.2)))
 (some (((true, ()), ())))
def zfl (fuel : Nat) (g0 : za0 → Option ((Bool × Unit) × Unit)) : za0 → Option ((Bool × Unit) × Unit) := zdd fuel g0
theorem zss (fuel : Nat) (G) : zdb.lp (zc9 fuel) 0 fuel G (endF zdc zda) 0 zl4 = iter (zfl fuel) fuel := C.lp_iter fun g v => by kernel_rfl
def zfm (fuel : Nat) (X0 : za0 → Option ((Bool × Unit) × Unit)) (x0 : List (List (List Int))) (x1 : List (List (List Int))) : Option ((Bool × Unit) × Unit) :=
 cond ((zz (List.length x0)) != (zz (List.length x1)))
 (some (((false, ()), ())))
 (X0 ((0 : Int), x0, x1))
def zfn (fuel : Nat) (x : (((List (List (List Int))) × Unit) × (((List (List (List Int))) × Unit) × Unit))) : Option ((Bool × Unit) × Unit) := zfm fuel (iter (zfl fuel) fuel) x.1.1 x.2.1.1
theorem zst (fuel : Nat) (x : PsT zfk) : run (zc9 fuel) 0 fuel zdb (env0 (svPs zfk x) 0) [] (endF zdc zda) = zfn fuel x :=
  (show run (zc9 fuel) 0 fuel zdb (env0 (svPs zfk x) 0) [] (endF zdc zda) = zfm fuel (zdb.lp (zc9 fuel) 0 fuel (fun _ _ _ => none) (endF zdc zda) 0 zl4) x.1.1 x.2.1.1 by kernel_rfl).trans (by rw [zss]; rfl)
def zhX (fuel : Nat) : TF := ⟨zfk, zda, true, zfn fuel⟩
theorem zsu (fuel : Nat) : FnSpec Try.prog 28 (zhX fuel) :=
  fn_spec (T := zc9 fuel) (c := bodyOf Try.f28) (fn := Try.f28) (TabOK.of (entCons (zk1 fuel) entNil) (methNil)) mixed (by kernel_rfl) (by kernel_rfl) zsr (by kernel_rfl) (Nat.le_of_ble_eq_true (by kernel_rfl)) (rv := zdc) (by kernel_rfl) (zst fuel)
theorem zsv (fuel : Nat) : EntryOK Try.prog 28 (zhX fuel).te := EntryOK.tf rfl (zsu fuel) (isFn (fn := Try.f28) (by kernel_rfl) (by kernel_rfl) (by kernel_rfl))
def zl5 (fuel : Nat) : Tab := Tab.of [(25, (zhR fuel).te), (26, (zhS fuel).te), (27, (zhW fuel).te), (28, (zhX fuel).te)] []
abbrev zhY : List Pm := [{ cs := [(Kd.list KN, false), (Kd.list Kd.bool, false), (Kd.list KW, false), (Kd.list (Kd.list (Kd.list I6)), false)], ag := true }, { cs := [(Kd.list KN, false), (Kd.list Kd.bool, false), (Kd.list KW, false), (Kd.list (Kd.list (Kd.list I6)), false)], ag := true }]
abbrev zl6 : List Pm := [{ cs := [(Kd.bool, false)], ag := false }]
def zl7 : List Norm := []
noncomputable def zl8 : C := irOf Try.prog Try.f8 [] zl7 []
theorem zsw : lightC Try.prog [] Try.f8.ntmps zl7 [] 0 (bodyOf Try.f8) = some (zl8, 0) := by kernel_rfl
def zl9 : List (Nat × Option (Nat × Bool)) := [(4, none)]
def zhZ (fuel : Nat) (x0 : List NodY) (x1 : List Bool) (x2 : List WorY) (x3 : List (List (List Int))) (x4 : List NodY) (x5 : List Bool) (x6 : List WorY) (x7 : List (List (List Int))) : Option ((Bool × Unit) × Unit) :=
 Option.bind (zfb fuel ((x0, ()), (x4, ()), ())) fun y_1 =>
 cond (!y_1.1.1)
 (some (((false, ()), ())))
 (Option.bind (zff fuel ((x1, ()), (x5, ()), ())) fun y_3 =>
 cond (!y_3.1.1)
 (some (((false, ()), ())))
 (Option.bind (zfj fuel ((x2, ()), (x6, ()), ())) fun y_5 =>
 cond (!y_5.1.1)
 (some (((false, ()), ())))
 (Option.bind (zfn fuel ((x3, ()), (x7, ()), ())) fun y_7 =>
 cond (!y_7.1.1)
 (some (((false, ()), ())))
 (some (((true, ()), ()))))))
def zfo (fuel : Nat) (x : (NetY × (NetY × Unit))) : Option ((Bool × Unit) × Unit) := zhZ fuel x.1.1 x.1.2.1 x.1.2.2.1 x.1.2.2.2.1 x.2.1.1 x.2.1.2.1 x.2.1.2.2.1 x.2.1.2.2.2.1
theorem zsx (fuel : Nat) (x : PsT zhY) : run (zl5 fuel) 0 fuel zl8 (env0 (svPs zhY x) 0) [] (endF zl9 zl6) = zfo fuel x := by kernel_rfl
def zh0 (fuel : Nat) : TF := ⟨zhY, zl6, true, zfo fuel⟩
theorem zsy (fuel : Nat) : FnSpec Try.prog 8 (zh0 fuel) :=
  fn_spec (T := zl5 fuel) (c := bodyOf Try.f8) (fn := Try.f8) (TabOK.of (entCons (zsc fuel) (entCons (zsh fuel) (entCons (zsq fuel) (entCons (zsv fuel) entNil)))) (methNil)) mixed (by kernel_rfl) (by kernel_rfl) zsw (by kernel_rfl) (Nat.le_of_ble_eq_true (by kernel_rfl)) (rv := zl9) (by kernel_rfl) (zsx fuel)
theorem zsz (fuel : Nat) : EntryOK Try.prog 8 (zh0 fuel).te := EntryOK.tf rfl (zsy fuel) (isFn (fn := Try.f8) (by kernel_rfl) (by kernel_rfl) (by kernel_rfl))
def zma (fuel : Nat) : Tab := Tab.of [] []
abbrev zh1 : List Pm := [{ cs := [(Kd.list I6, false)], ag := false }, { cs := [(I6, false)], ag := false }]
abbrev zmb : List Pm := [{ cs := [(I6, false)], ag := false }]
def zmc : List Norm := []
noncomputable def zmd : C := irOf Try.prog Try.f77 [] zmc []
theorem zsA : lightC Try.prog [] Try.f77.ntmps zmc [] 0 (bodyOf Try.f77) = some (zmd, 0) := by kernel_rfl
def zme : List (Nat × Option (Nat × Bool)) := [(4, none)]
def zsB (fuel : Nat) (x0 : List Int) (x1 : Int) : Option ((Int × Unit) × Unit) :=
 cond (decide (w64 (x1 - (zz (List.length x0))) < (0 : Int)))
 (some ((((-1 : Int), ()), ())))
 (some (((w64 (x1 - (zz (List.length x0))), ()), ())))
def za1 (fuel : Nat) (x : (((List Int) × Unit) × ((Int × Unit) × Unit))) : Option ((Int × Unit) × Unit) := zsB fuel x.1.1 x.2.1.1
theorem zsC (fuel : Nat) (x : PsT zh1) : run (zma fuel) 0 fuel zmd (env0 (svPs zh1 x) 0) [] (endF zme zmb) = za1 fuel x := by kernel_rfl
def zfp (fuel : Nat) : TF := ⟨zh1, zmb, true, za1 fuel⟩
theorem zsD (fuel : Nat) : FnSpec Try.prog 77 (zfp fuel) :=
  fn_spec (T := zma fuel) (c := bodyOf Try.f77) (fn := Try.f77) (TabOK.of (entNil) (methNil)) mixed (by kernel_rfl) (by kernel_rfl) zsA (by kernel_rfl) (Nat.le_of_ble_eq_true (by kernel_rfl)) (rv := zme) (by kernel_rfl) (zsC fuel)
theorem zmf (fuel : Nat) : EntryOK Try.prog 77 (zfp fuel).te := EntryOK.tf rfl (zsD fuel) (isFn (fn := Try.f77) (by kernel_rfl) (by kernel_rfl) (by kernel_rfl))
def zde (fuel : Nat) : Tab := Tab.of [(77, (zfp fuel).te)] []
abbrev zfq : List Pm := [{ cs := [(Kd.list (Kd.list I6), false)], ag := false }, { cs := [(I6, false)], ag := false }]
abbrev zdf : List Pm := [{ cs := [(I6, false)], ag := false }]
def zmg : List Norm := [{ live := [5, 0, 1], fix := [] }]
noncomputable def zdg : C := irOf Try.prog Try.f61 [] zmg []
theorem zsE : lightC Try.prog [] Try.f61.ntmps zmg [] 0 (bodyOf Try.f61) = some (zdg, 1) := by kernel_rfl
def zdh : List (Nat × Option (Nat × Bool)) := [(4, none)]
abbrev za2 := (Int) × (List (List Int)) × (Int)
def zmh (v : za2) : Env × Heap := ([(5, SV.int .i64 v.1), (0, SV.es (Kd.list I6) v.2.1), (1, SV.int .i64 v.2.2)], [])
def zdi (fuel : Nat) (g0 : za2 → Option ((Int × Unit) × Unit)) (v : za2) : Option ((Int × Unit) × Unit) :=
 cond (decide (v.1 < (zz (List.length v.2.1))))
 (tst (decide (0 ≤ v.1)) <|
 tst (decide (v.1 < (zz (List.length v.2.1)))) <|
 Option.bind (za1 fuel ((List.getD v.2.1 (Int.toNat v.1) [], ()), (v.2.2, ()), ())) fun y_2 =>
 cond (decide (y_2.1.1 < (0 : Int)))
 (some ((((-1 : Int), ()), ())))
 (g0 (w64 (v.1 + (1 : Int)), v.2.1, y_2.1.1)))
 (some (((v.2.2, ()), ())))
def zh2 (fuel : Nat) (g0 : za2 → Option ((Int × Unit) × Unit)) : za2 → Option ((Int × Unit) × Unit) := zdi fuel g0
theorem zsF (fuel : Nat) (G) : zdg.lp (zde fuel) 0 fuel G (endF zdh zdf) 0 zmh = iter (zh2 fuel) fuel := C.lp_iter fun g v => by kernel_rfl
def zmi (fuel : Nat) (X0 : za2 → Option ((Int × Unit) × Unit)) (x0 : List (List Int)) (x1 : Int) : Option ((Int × Unit) × Unit) :=
 cond (decide (w64 (x1 - (zz (List.length x0))) < (0 : Int)))
 (some ((((-1 : Int), ()), ())))
 (X0 ((0 : Int), x0, w64 (x1 - (zz (List.length x0)))))
def za3 (fuel : Nat) (x : (((List (List Int)) × Unit) × ((Int × Unit) × Unit))) : Option ((Int × Unit) × Unit) := zmi fuel (iter (zh2 fuel) fuel) x.1.1 x.2.1.1
theorem zsG (fuel : Nat) (x : PsT zfq) : run (zde fuel) 0 fuel zdg (env0 (svPs zfq x) 0) [] (endF zdh zdf) = za3 fuel x :=
  (show run (zde fuel) 0 fuel zdg (env0 (svPs zfq x) 0) [] (endF zdh zdf) = zmi fuel (zdg.lp (zde fuel) 0 fuel (fun _ _ _ => none) (endF zdh zdf) 0 zmh) x.1.1 x.2.1.1 by kernel_rfl).trans (by rw [zsF]; rfl)
def zfr (fuel : Nat) : TF := ⟨zfq, zdf, true, za3 fuel⟩
theorem zsH (fuel : Nat) : FnSpec Try.prog 61 (zfr fuel) :=
  fn_spec (T := zde fuel) (c := bodyOf Try.f61) (fn := Try.f61) (TabOK.of (entCons (zmf fuel) entNil) (methNil)) mixed (by kernel_rfl) (by kernel_rfl) zsE (by kernel_rfl) (Nat.le_of_ble_eq_true (by kernel_rfl)) (rv := zdh) (by kernel_rfl) (zsG fuel)
theorem zmj (fuel : Nat) : EntryOK Try.prog 61 (zfr fuel).te := EntryOK.tf rfl (zsH fuel) (isFn (fn := Try.f61) (by kernel_rfl) (by kernel_rfl) (by kernel_rfl))
def zmk (fuel : Nat) : Tab := Tab.of [(61, (zfr fuel).te)] []
abbrev zh3 : List Pm := [{ cs := [(Kd.list (Kd.list I6), false)], ag := true }, { cs := [(I6, false)], ag := false }]
abbrev zml : List Pm := [{ cs := [(I6, false)], ag := false }]
def zmm : List Norm := []
noncomputable def zmn : C := irOf Try.prog Try.f89 [] zmm []
theorem zsI : lightC Try.prog [] Try.f89.ntmps zmm [] 0 (bodyOf Try.f89) = some (zmn, 0) := by kernel_rfl
def zmo : List (Nat × Option (Nat × Bool)) := [(4, none)]
def zsJ (fuel : Nat) (x0 : List (List Int)) (x1 : Int) : Option ((Int × Unit) × Unit) :=
 Option.bind (za3 fuel ((x0, ()), (x1, ()), ())) fun y_1 =>
 cond (decide (y_1.1.1 < (0 : Int)))
 (some ((((-1 : Int), ()), ())))
 (some (((y_1.1.1, ()), ())))
def zh4 (fuel : Nat) (x : (((List (List Int)) × Unit) × ((Int × Unit) × Unit))) : Option ((Int × Unit) × Unit) := zsJ fuel x.1.1 x.2.1.1
theorem zsK (fuel : Nat) (x : PsT zh3) : run (zmk fuel) 0 fuel zmn (env0 (svPs zh3 x) 0) [] (endF zmo zml) = zh4 fuel x := by kernel_rfl
def zh5 (fuel : Nat) : TF := ⟨zh3, zml, true, zh4 fuel⟩
theorem zsL (fuel : Nat) : FnSpec Try.prog 89 (zh5 fuel) :=
  fn_spec (T := zmk fuel) (c := bodyOf Try.f89) (fn := Try.f89) (TabOK.of (entCons (zmj fuel) entNil) (methNil)) mixed (by kernel_rfl) (by kernel_rfl) zsI (by kernel_rfl) (Nat.le_of_ble_eq_true (by kernel_rfl)) (rv := zmo) (by kernel_rfl) (zsK fuel)
theorem zsM (fuel : Nat) : EntryOK Try.prog 89 (zh5 fuel).te := EntryOK.tf rfl (zsL fuel) (isFn (fn := Try.f89) (by kernel_rfl) (by kernel_rfl) (by kernel_rfl))
def zmp (fuel : Nat) : Tab := Tab.of [(77, (zfp fuel).te)] []
abbrev zh6 : List Pm := [{ cs := [(Kd.list I6, false)], ag := true }, { cs := [(I6, false)], ag := false }]
abbrev zmq : List Pm := [{ cs := [(I6, false)], ag := false }]
def zmr : List Norm := []
noncomputable def zms : C := irOf Try.prog Try.f90 [] zmr []
theorem zsN : lightC Try.prog [] Try.f90.ntmps zmr [] 0 (bodyOf Try.f90) = some (zms, 0) := by kernel_rfl
def zmt : List (Nat × Option (Nat × Bool)) := [(4, none)]
def zsO (fuel : Nat) (x0 : List Int) (x1 : Int) : Option ((Int × Unit) × Unit) :=
 Option.bind (za1 fuel ((x0, ()), (x1, ()), ())) fun y_1 =>
 cond (decide (y_1.1.1 < (0 : Int)))
 (some ((((-1 : Int), ()), ())))
 (some (((y_1.1.1, ()), ())))
def zh7 (fuel : Nat) (x : (((List Int) × Unit) × ((Int × Unit) × Unit))) : Option ((Int × Unit) × Unit) := zsO fuel x.1.1 x.2.1.1
theorem zsP (fuel : Nat) (x : PsT zh6) : run (zmp fuel) 0 fuel zms (env0 (svPs zh6 x) 0) [] (endF zmt zmq) = zh7 fuel x := by kernel_rfl
def zh8 (fuel : Nat) : TF := ⟨zh6, zmq, true, zh7 fuel⟩
theorem zsQ (fuel : Nat) : FnSpec Try.prog 90 (zh8 fuel) :=
  fn_spec (T := zmp fuel) (c := bodyOf Try.f90) (fn := Try.f90) (TabOK.of (entCons (zmf fuel) entNil) (methNil)) mixed (by kernel_rfl) (by kernel_rfl) zsN (by kernel_rfl) (Nat.le_of_ble_eq_true (by kernel_rfl)) (rv := zmt) (by kernel_rfl) (zsP fuel)
theorem zsR (fuel : Nat) : EntryOK Try.prog 90 (zh8 fuel).te := EntryOK.tf rfl (zsQ fuel) (isFn (fn := Try.f90) (by kernel_rfl) (by kernel_rfl) (by kernel_rfl))
def zmu (fuel : Nat) : Tab := Tab.of [] []
abbrev zh9 : List Pm := [{ cs := [(Kd.list KP, false)], ag := false }, { cs := [(I6, false)], ag := false }]
abbrev zmv : List Pm := [{ cs := [(I6, false)], ag := false }]
def zmw : List Norm := []
noncomputable def zmx : C := irOf Try.prog Try.f99 [] zmw []
theorem zsS : lightC Try.prog [] Try.f99.ntmps zmw [] 0 (bodyOf Try.f99) = some (zmx, 0) := by kernel_rfl
def zmy : List (Nat × Option (Nat × Bool)) := [(4, none)]
def zsT (fuel : Nat) (x0 : LP) (x1 : Int) : Option ((Int × Unit) × Unit) :=
 cond (decide (w64 (x1 - (zz (List.length x0))) < (0 : Int)))
 (some ((((-1 : Int), ()), ())))
 (some (((w64 (x1 - (zz (List.length x0))), ()), ())))
def zfs (fuel : Nat) (x : ((LP × Unit) × ((Int × Unit) × Unit))) : Option ((Int × Unit) × Unit) := zsT fuel x.1.1 x.2.1.1
theorem zsU (fuel : Nat) (x : PsT zh9) : run (zmu fuel) 0 fuel zmx (env0 (svPs zh9 x) 0) [] (endF zmy zmv) = zfs fuel x := by kernel_rfl
def zia (fuel : Nat) : TF := ⟨zh9, zmv, true, zfs fuel⟩
theorem zsV (fuel : Nat) : FnSpec Try.prog 99 (zia fuel) :=
  fn_spec (T := zmu fuel) (c := bodyOf Try.f99) (fn := Try.f99) (TabOK.of (entNil) (methNil)) mixed (by kernel_rfl) (by kernel_rfl) zsS (by kernel_rfl) (Nat.le_of_ble_eq_true (by kernel_rfl)) (rv := zmy) (by kernel_rfl) (zsU fuel)
theorem zsW (fuel : Nat) : EntryOK Try.prog 99 (zia fuel).te := EntryOK.tf rfl (zsV fuel) (isFn (fn := Try.f99) (by kernel_rfl) (by kernel_rfl) (by kernel_rfl))
def zmz (fuel : Nat) : Tab := Tab.of [(99, (zia fuel).te)] []
abbrev zib : List Pm := [{ cs := [(Kd.list KP, false), (I6, false), (I6, false)], ag := true }, { cs := [(I6, false)], ag := false }]
abbrev zmA : List Pm := [{ cs := [(I6, false)], ag := false }]
def zmB : List Norm := []
noncomputable def zmC : C := irOf Try.prog Try.f91 [] zmB []
theorem zsX : lightC Try.prog [] Try.f91.ntmps zmB [] 0 (bodyOf Try.f91) = some (zmC, 0) := by kernel_rfl
def zmD : List (Nat × Option (Nat × Bool)) := [(4, none)]
def zsY (fuel : Nat) (x0 : LP) (x1 : Int) (x2 : Int) (x3 : Int) : Option ((Int × Unit) × Unit) :=
 Option.bind (zfs fuel ((x0, ()), (x3, ()), ())) fun y_1 =>
 cond (decide (y_1.1.1 < (0 : Int)))
 (some ((((-1 : Int), ()), ())))
 (some (((y_1.1.1, ()), ())))
def zic (fuel : Nat) (x : ((LP × (Int × (Int × Unit))) × ((Int × Unit) × Unit))) : Option ((Int × Unit) × Unit) := zsY fuel x.1.1 x.1.2.1 x.1.2.2.1 x.2.1.1
theorem zsZ (fuel : Nat) (x : PsT zib) : run (zmz fuel) 0 fuel zmC (env0 (svPs zib x) 0) [] (endF zmD zmA) = zic fuel x := by kernel_rfl
def zid (fuel : Nat) : TF := ⟨zib, zmA, true, zic fuel⟩
theorem zs0 (fuel : Nat) : FnSpec Try.prog 91 (zid fuel) :=
  fn_spec (T := zmz fuel) (c := bodyOf Try.f91) (fn := Try.f91) (TabOK.of (entCons (zsW fuel) entNil) (methNil)) mixed (by kernel_rfl) (by kernel_rfl) zsX (by kernel_rfl) (Nat.le_of_ble_eq_true (by kernel_rfl)) (rv := zmD) (by kernel_rfl) (zsZ fuel)
theorem zs1 (fuel : Nat) : EntryOK Try.prog 91 (zid fuel).te := EntryOK.tf rfl (zs0 fuel) (isFn (fn := Try.f91) (by kernel_rfl) (by kernel_rfl) (by kernel_rfl))
def zmE (fuel : Nat) : Tab := Tab.of [] []
abbrev zie : List Pm := [{ cs := [(Kd.list KP, false)], ag := false }, { cs := [(I6, false)], ag := false }]
abbrev zmF : List Pm := [{ cs := [(I6, false)], ag := false }]
def zmG : List Norm := []
noncomputable def zmH : C := irOf Try.prog Try.f100 [] zmG []
theorem zs2 : lightC Try.prog [] Try.f100.ntmps zmG [] 0 (bodyOf Try.f100) = some (zmH, 0) := by kernel_rfl
def zmI : List (Nat × Option (Nat × Bool)) := [(4, none)]
def zs3 (fuel : Nat) (x0 : LP) (x1 : Int) : Option ((Int × Unit) × Unit) :=
 cond (decide (w64 (x1 - (zz (List.length x0))) < (0 : Int)))
 (some ((((-1 : Int), ()), ())))
 (some (((w64 (x1 - (zz (List.length x0))), ()), ())))
def zft (fuel : Nat) (x : ((LP × Unit) × ((Int × Unit) × Unit))) : Option ((Int × Unit) × Unit) := zs3 fuel x.1.1 x.2.1.1
theorem zs4 (fuel : Nat) (x : PsT zie) : run (zmE fuel) 0 fuel zmH (env0 (svPs zie x) 0) [] (endF zmI zmF) = zft fuel x := by kernel_rfl
def zif (fuel : Nat) : TF := ⟨zie, zmF, true, zft fuel⟩
theorem zs5 (fuel : Nat) : FnSpec Try.prog 100 (zif fuel) :=
  fn_spec (T := zmE fuel) (c := bodyOf Try.f100) (fn := Try.f100) (TabOK.of (entNil) (methNil)) mixed (by kernel_rfl) (by kernel_rfl) zs2 (by kernel_rfl) (Nat.le_of_ble_eq_true (by kernel_rfl)) (rv := zmI) (by kernel_rfl) (zs4 fuel)
theorem zs6 (fuel : Nat) : EntryOK Try.prog 100 (zif fuel).te := EntryOK.tf rfl (zs5 fuel) (isFn (fn := Try.f100) (by kernel_rfl) (by kernel_rfl) (by kernel_rfl))
def zmJ (fuel : Nat) : Tab := Tab.of [(100, (zif fuel).te)] []
abbrev zig : List Pm := [{ cs := [(Kd.list KP, false), (I6, false)], ag := true }, { cs := [(I6, false)], ag := false }]
abbrev zmK : List Pm := [{ cs := [(I6, false)], ag := false }]
def zmL : List Norm := []
noncomputable def zmM : C := irOf Try.prog Try.f92 [] zmL []
theorem zs7 : lightC Try.prog [] Try.f92.ntmps zmL [] 0 (bodyOf Try.f92) = some (zmM, 0) := by kernel_rfl
def zmN : List (Nat × Option (Nat × Bool)) := [(4, none)]
def zs8 (fuel : Nat) (x0 : LP) (x1 : Int) (x2 : Int) : Option ((Int × Unit) × Unit) :=
 Option.bind (zft fuel ((x0, ()), (x2, ()), ())) fun y_1 =>
 cond (decide (y_1.1.1 < (0 : Int)))
 (some ((((-1 : Int), ()), ())))
 (some (((y_1.1.1, ()), ())))
def zih (fuel : Nat) (x : ((LP × (Int × Unit)) × ((Int × Unit) × Unit))) : Option ((Int × Unit) × Unit) := zs8 fuel x.1.1 x.1.2.1 x.2.1.1
theorem zs9 (fuel : Nat) (x : PsT zig) : run (zmJ fuel) 0 fuel zmM (env0 (svPs zig x) 0) [] (endF zmN zmK) = zih fuel x := by kernel_rfl
def zii (fuel : Nat) : TF := ⟨zig, zmK, true, zih fuel⟩
theorem zta (fuel : Nat) : FnSpec Try.prog 92 (zii fuel) :=
  fn_spec (T := zmJ fuel) (c := bodyOf Try.f92) (fn := Try.f92) (TabOK.of (entCons (zs6 fuel) entNil) (methNil)) mixed (by kernel_rfl) (by kernel_rfl) zs7 (by kernel_rfl) (Nat.le_of_ble_eq_true (by kernel_rfl)) (rv := zmN) (by kernel_rfl) (zs9 fuel)
theorem ztb (fuel : Nat) : EntryOK Try.prog 92 (zii fuel).te := EntryOK.tf rfl (zta fuel) (isFn (fn := Try.f92) (by kernel_rfl) (by kernel_rfl) (by kernel_rfl))
def zmO (fuel : Nat) : Tab := Tab.of [(89, (zh5 fuel).te), (90, (zh8 fuel).te), (91, (zid fuel).te), (92, (zii fuel).te)] []
abbrev zij : List Pm := [{ cs := [(Kd.list (Kd.list I6), false), (Kd.list I6, false), (Kd.list KP, false), (I6, false), (I6, false), (Kd.list KP, false), (I6, false)], ag := true }, { cs := [(I6, false)], ag := false }]
abbrev zmP : List Pm := [{ cs := [(I6, false)], ag := false }]
def zmQ : List Norm := []
noncomputable def zmR : C := irOf Try.prog Try.f83 [] zmQ []
theorem ztc : lightC Try.prog [] Try.f83.ntmps zmQ [] 0 (bodyOf Try.f83) = some (zmR, 0) := by kernel_rfl
def zmS : List (Nat × Option (Nat × Bool)) := [(4, none)]
def ztd (fuel : Nat) (x0 : List (List Int)) (x1 : List Int) (x2 : LP) (x3 : Int) (x4 : Int) (x5 : LP) (x6 : Int) (x7 : Int) : Option ((Int × Unit) × Unit) :=
 Option.bind (zh4 fuel ((x0, ()), (x7, ()), ())) fun y_1 =>
 cond (decide (y_1.1.1 < (0 : Int)))
 (some ((((-1 : Int), ()), ())))
 (Option.bind (zh7 fuel ((x1, ()), (y_1.1.1, ()), ())) fun y_3 =>
 cond (decide (y_3.1.1 < (0 : Int)))
 (some ((((-1 : Int), ()), ())))
 (Option.bind (zic fuel ((x2, x3, x4, ()), (y_3.1.1, ()), ())) fun y_5 =>
 cond (decide (y_5.1.1 < (0 : Int)))
 (some ((((-1 : Int), ()), ())))
 (Option.bind (zih fuel ((x5, x6, ()), (y_5.1.1, ()), ())) fun y_7 =>
 cond (decide (y_7.1.1 < (0 : Int)))
 (some ((((-1 : Int), ()), ())))
 (some (((y_7.1.1, ()), ()))))))
def zfu (fuel : Nat) (x : (SumY × ((Int × Unit) × Unit))) : Option ((Int × Unit) × Unit) := ztd fuel x.1.1 x.1.2.1 x.1.2.2.1 x.1.2.2.2.1 x.1.2.2.2.2.1 x.1.2.2.2.2.2.1 x.1.2.2.2.2.2.2.1 x.2.1.1
theorem zte (fuel : Nat) (x : PsT zij) : run (zmO fuel) 0 fuel zmR (env0 (svPs zij x) 0) [] (endF zmS zmP) = zfu fuel x := by kernel_rfl
def zik (fuel : Nat) : TF := ⟨zij, zmP, true, zfu fuel⟩
theorem ztf (fuel : Nat) : FnSpec Try.prog 83 (zik fuel) :=
  fn_spec (T := zmO fuel) (c := bodyOf Try.f83) (fn := Try.f83) (TabOK.of (entCons (zsM fuel) (entCons (zsR fuel) (entCons (zs1 fuel) (entCons (ztb fuel) entNil)))) (methNil)) mixed (by kernel_rfl) (by kernel_rfl) ztc (by kernel_rfl) (Nat.le_of_ble_eq_true (by kernel_rfl)) (rv := zmS) (by kernel_rfl) (zte fuel)
theorem ztg (fuel : Nat) : EntryOK Try.prog 83 (zik fuel).te := EntryOK.tf rfl (ztf fuel) (isFn (fn := Try.f83) (by kernel_rfl) (by kernel_rfl) (by kernel_rfl))
def zmT (fuel : Nat) : Tab := Tab.of [(83, (zik fuel).te)] []
abbrev zil : List Pm := [{ cs := [(I6, false), (I6, false), (I6, false), (Kd.list (Kd.list I6), false), (Kd.list I6, false), (Kd.list KP, false), (I6, false), (I6, false), (Kd.list KP, false), (I6, false)], ag := true }, { cs := [(I6, false)], ag := false }]
abbrev zmU : List Pm := [{ cs := [(I6, false)], ag := false }]
def zmV : List Norm := []
noncomputable def zmW : C := irOf Try.prog Try.f80 [] zmV []
theorem zth : lightC Try.prog [] Try.f80.ntmps zmV [] 0 (bodyOf Try.f80) = some (zmW, 0) := by kernel_rfl
def zmX : List (Nat × Option (Nat × Bool)) := [(4, none)]
def zti (fuel : Nat) (x0 : Int) (x1 : Int) (x2 : Int) (x3 : List (List Int)) (x4 : List Int) (x5 : LP) (x6 : Int) (x7 : Int) (x8 : LP) (x9 : Int) (x10 : Int) : Option ((Int × Unit) × Unit) :=
 Option.bind (zfu fuel ((x3, x4, x5, x6, x7, x8, x9, ()), (x10, ()), ())) fun y_1 =>
 cond (decide (y_1.1.1 < (0 : Int)))
 (some ((((-1 : Int), ()), ())))
 (some (((y_1.1.1, ()), ())))
def zdj (fuel : Nat) (x : (EntF × ((Int × Unit) × Unit))) : Option ((Int × Unit) × Unit) := zti fuel x.1.1 x.1.2.1 x.1.2.2.1 x.1.2.2.2.1 x.1.2.2.2.2.1 x.1.2.2.2.2.2.1 x.1.2.2.2.2.2.2.1 x.1.2.2.2.2.2.2.2.1 x.1.2.2.2.2.2.2.2.2.1 x.1.2.2.2.2.2.2.2.2.2.1 x.2.1.1
theorem ztj (fuel : Nat) (x : PsT zil) : run (zmT fuel) 0 fuel zmW (env0 (svPs zil x) 0) [] (endF zmX zmU) = zdj fuel x := by kernel_rfl
def zim (fuel : Nat) : TF := ⟨zil, zmU, true, zdj fuel⟩
theorem ztk (fuel : Nat) : FnSpec Try.prog 80 (zim fuel) :=
  fn_spec (T := zmT fuel) (c := bodyOf Try.f80) (fn := Try.f80) (TabOK.of (entCons (ztg fuel) entNil) (methNil)) mixed (by kernel_rfl) (by kernel_rfl) zth (by kernel_rfl) (Nat.le_of_ble_eq_true (by kernel_rfl)) (rv := zmX) (by kernel_rfl) (ztj fuel)
theorem ztl (fuel : Nat) : EntryOK Try.prog 80 (zim fuel).te := EntryOK.tf rfl (ztk fuel) (isFn (fn := Try.f80) (by kernel_rfl) (by kernel_rfl) (by kernel_rfl))
def zdk (fuel : Nat) : Tab := Tab.of [(80, (zim fuel).te)] []
abbrev zfv : List Pm := [{ cs := [(Kd.list KE, false)], ag := false }, { cs := [(I6, false)], ag := false }]
abbrev zdl : List Pm := [{ cs := [(I6, false)], ag := false }]
def zmY : List Norm := [{ live := [5, 0, 1], fix := [] }]
noncomputable def zdm : C := irOf Try.prog Try.f76 [] zmY []
theorem ztm : lightC Try.prog [] Try.f76.ntmps zmY [] 0 (bodyOf Try.f76) = some (zdm, 1) := by kernel_rfl
def zdn : List (Nat × Option (Nat × Bool)) := [(4, none)]
abbrev za4 := (Int) × (List EntY) × (Int)
def zmZ (v : za4) : Env × Heap := ([(5, SV.int .i64 v.1), (0, SV.es KE v.2.1), (1, SV.int .i64 v.2.2)], [])
def zdo (fuel : Nat) (g0 : za4 → Option ((Int × Unit) × Unit)) (v : za4) : Option ((Int × Unit) × Unit) :=
 cond (decide (v.1 < (zz (List.length v.2.1))))
 (tst (decide (0 ≤ v.1)) <|
 tst (decide (v.1 < (zz (List.length v.2.1)))) <|
 Option.bind (zdj fuel (((List.getD v.2.1 (Int.toNat v.1) dE).1, (List.getD v.2.1 (Int.toNat v.1) dE).2.1, (List.getD v.2.1 (Int.toNat v.1) dE).2.2.1, (List.getD v.2.1 (Int.toNat v.1) dE).2.2.2.1.1.1, (List.getD v.2.1 (Int.toNat v.1) dE).2.2.2.1.2.1.1, (List.getD v.2.1 (Int.toNat v.1) dE).2.2.2.1.2.2.1.1, (List.getD v.2.1 (Int.toNat v.1) dE).2.2.2.1.2.2.1.2.1, (List.getD v.2.1 (Int.toNat v.1) dE).2.2.2.1.2.2.1.2.2.1, (List.getD v.2.1 (Int.toNat v.1) dE).2.2.2.1.2.2.2.1.1, (List.getD v.2.1 (Int.toNat v.1) dE).2.2.2.1.2.2.2.1.2.1, ()), (v.2.2, ()), ())) fun y_2 =>
 cond (decide (y_2.1.1 < (0 : Int)))
 (some ((((-1 : Int), ()), ())))
 (g0 (w64 (v.1 + (1 : Int)), v.2.1, y_2.1.1)))
 (some (((v.2.2, ()), ())))
def zin (fuel : Nat) (g0 : za4 → Option ((Int × Unit) × Unit)) : za4 → Option ((Int × Unit) × Unit) := zdo fuel g0
theorem ztn (fuel : Nat) (G) : zdm.lp (zdk fuel) 0 fuel G (endF zdn zdl) 0 zmZ = iter (zin fuel) fuel := C.lp_iter fun g v => by kernel_rfl
def zm0 (fuel : Nat) (X0 : za4 → Option ((Int × Unit) × Unit)) (x0 : List EntY) (x1 : Int) : Option ((Int × Unit) × Unit) :=
 cond (decide (w64 (x1 - (zz (List.length x0))) < (0 : Int)))
 (some ((((-1 : Int), ()), ())))
 (X0 ((0 : Int), x0, w64 (x1 - (zz (List.length x0)))))
def zdp (fuel : Nat) (x : (((List EntY) × Unit) × ((Int × Unit) × Unit))) : Option ((Int × Unit) × Unit) := zm0 fuel (iter (zin fuel) fuel) x.1.1 x.2.1.1
theorem zto (fuel : Nat) (x : PsT zfv) : run (zdk fuel) 0 fuel zdm (env0 (svPs zfv x) 0) [] (endF zdn zdl) = zdp fuel x :=
  (show run (zdk fuel) 0 fuel zdm (env0 (svPs zfv x) 0) [] (endF zdn zdl) = zm0 fuel (zdm.lp (zdk fuel) 0 fuel (fun _ _ _ => none) (endF zdn zdl) 0 zmZ) x.1.1 x.2.1.1 by kernel_rfl).trans (by rw [ztn]; rfl)
def zfw (fuel : Nat) : TF := ⟨zfv, zdl, true, zdp fuel⟩
theorem ztp (fuel : Nat) : FnSpec Try.prog 76 (zfw fuel) :=
  fn_spec (T := zdk fuel) (c := bodyOf Try.f76) (fn := Try.f76) (TabOK.of (entCons (ztl fuel) entNil) (methNil)) mixed (by kernel_rfl) (by kernel_rfl) ztm (by kernel_rfl) (Nat.le_of_ble_eq_true (by kernel_rfl)) (rv := zdn) (by kernel_rfl) (zto fuel)
theorem zm1 (fuel : Nat) : EntryOK Try.prog 76 (zfw fuel).te := EntryOK.tf rfl (ztp fuel) (isFn (fn := Try.f76) (by kernel_rfl) (by kernel_rfl) (by kernel_rfl))
def zm2 (fuel : Nat) : Tab := Tab.of [(76, (zfw fuel).te)] []
abbrev zio : List Pm := [{ cs := [(I6, false), (Kd.list KE, false), (I6, false), (I6, false), (I6, false)], ag := true }, { cs := [(I6, false)], ag := false }]
abbrev zm3 : List Pm := [{ cs := [(I6, false)], ag := false }]
def zm4 : List Norm := []
noncomputable def zm5 : C := irOf Try.prog Try.f59 [] zm4 []
theorem ztq : lightC Try.prog [] Try.f59.ntmps zm4 [] 0 (bodyOf Try.f59) = some (zm5, 0) := by kernel_rfl
def zm6 : List (Nat × Option (Nat × Bool)) := [(4, none)]
def ztr (fuel : Nat) (x0 : Int) (x1 : List EntY) (x2 : Int) (x3 : Int) (x4 : Int) (x5 : Int) : Option ((Int × Unit) × Unit) :=
 Option.bind (zdp fuel ((x1, ()), (x5, ()), ())) fun y_1 =>
 cond (decide (y_1.1.1 < (0 : Int)))
 (some ((((-1 : Int), ()), ())))
 (some (((y_1.1.1, ()), ())))
def zdq (fuel : Nat) (x : (NodY × ((Int × Unit) × Unit))) : Option ((Int × Unit) × Unit) := ztr fuel x.1.1 x.1.2.1 x.1.2.2.1 x.1.2.2.2.1 x.1.2.2.2.2.1 x.2.1.1
theorem zts (fuel : Nat) (x : PsT zio) : run (zm2 fuel) 0 fuel zm5 (env0 (svPs zio x) 0) [] (endF zm6 zm3) = zdq fuel x := by kernel_rfl
def ziq (fuel : Nat) : TF := ⟨zio, zm3, true, zdq fuel⟩
theorem ztt (fuel : Nat) : FnSpec Try.prog 59 (ziq fuel) :=
  fn_spec (T := zm2 fuel) (c := bodyOf Try.f59) (fn := Try.f59) (TabOK.of (entCons (zm1 fuel) entNil) (methNil)) mixed (by kernel_rfl) (by kernel_rfl) ztq (by kernel_rfl) (Nat.le_of_ble_eq_true (by kernel_rfl)) (rv := zm6) (by kernel_rfl) (zts fuel)
theorem ztu (fuel : Nat) : EntryOK Try.prog 59 (ziq fuel).te := EntryOK.tf rfl (ztt fuel) (isFn (fn := Try.f59) (by kernel_rfl) (by kernel_rfl) (by kernel_rfl))
def zdr (fuel : Nat) : Tab := Tab.of [(59, (ziq fuel).te)] []
abbrev zfx : List Pm := [{ cs := [(Kd.list KN, false)], ag := false }, { cs := [(I6, false)], ag := false }]
abbrev zds : List Pm := [{ cs := [(I6, false)], ag := false }]
def zm7 : List Norm := [{ live := [5, 0, 1], fix := [] }]
noncomputable def zdt : C := irOf Try.prog Try.f37 [] zm7 []
theorem ztv : lightC Try.prog [] Try.f37.ntmps zm7 [] 0 (bodyOf Try.f37) = some (zdt, 1) := by kernel_rfl
def zdu : List (Nat × Option (Nat × Bool)) := [(4, none)]
abbrev za5 := (Int) × (List NodY) × (Int)
def zm8 (v : za5) : Env × Heap := ([(5, SV.int .i64 v.1), (0, SV.es KN v.2.1), (1, SV.int .i64 v.2.2)], [])
def zdv (fuel : Nat) (g0 : za5 → Option ((Int × Unit) × Unit)) (v : za5) : Option ((Int × Unit) × Unit) :=
 cond (decide (v.1 < (zz (List.length v.2.1))))
 (tst (decide (0 ≤ v.1)) <|
 tst (decide (v.1 < (zz (List.length v.2.1)))) <|
 Option.bind (zdq fuel (((List.getD v.2.1 (Int.toNat v.1) dN).1, (List.getD v.2.1 (Int.toNat v.1) dN).2.1, (List.getD v.2.1 (Int.toNat v.1) dN).2.2.1, (List.getD v.2.1 (Int.toNat v.1) dN).2.2.2.1, (List.getD v.2.1 (Int.toNat v.1) dN).2.2.2.2.1, ()), (v.2.2, ()), ())) fun y_2 =>
 cond (decide (y_2.1.1 < (0 : Int)))
 (some ((((-1 : Int), ()), ())))
 (g0 (w64 (v.1 + (1 : Int)), v.2.1, y_2.1.1)))
 (some (((v.2.2, ()), ())))
def zir (fuel : Nat) (g0 : za5 → Option ((Int × Unit) × Unit)) : za5 → Option ((Int × Unit) × Unit) := zdv fuel g0
theorem ztw (fuel : Nat) (G) : zdt.lp (zdr fuel) 0 fuel G (endF zdu zds) 0 zm8 = iter (zir fuel) fuel := C.lp_iter fun g v => by kernel_rfl
def zm9 (fuel : Nat) (X0 : za5 → Option ((Int × Unit) × Unit)) (x0 : List NodY) (x1 : Int) : Option ((Int × Unit) × Unit) :=
 cond (decide (w64 (x1 - (zz (List.length x0))) < (0 : Int)))
 (some ((((-1 : Int), ()), ())))
 (X0 ((0 : Int), x0, w64 (x1 - (zz (List.length x0)))))
def zfy (fuel : Nat) (x : (((List NodY) × Unit) × ((Int × Unit) × Unit))) : Option ((Int × Unit) × Unit) := zm9 fuel (iter (zir fuel) fuel) x.1.1 x.2.1.1
theorem ztx (fuel : Nat) (x : PsT zfx) : run (zdr fuel) 0 fuel zdt (env0 (svPs zfx x) 0) [] (endF zdu zds) = zfy fuel x :=
  (show run (zdr fuel) 0 fuel zdt (env0 (svPs zfx x) 0) [] (endF zdu zds) = zm9 fuel (zdt.lp (zdr fuel) 0 fuel (fun _ _ _ => none) (endF zdu zds) 0 zm8) x.1.1 x.2.1.1 by kernel_rfl).trans (by rw [ztw]; rfl)
def zis (fuel : Nat) : TF := ⟨zfx, zds, true, zfy fuel⟩
theorem zty (fuel : Nat) : FnSpec Try.prog 37 (zis fuel) :=
  fn_spec (T := zdr fuel) (c := bodyOf Try.f37) (fn := Try.f37) (TabOK.of (entCons (ztu fuel) entNil) (methNil)) mixed (by kernel_rfl) (by kernel_rfl) ztv (by kernel_rfl) (Nat.le_of_ble_eq_true (by kernel_rfl)) (rv := zdu) (by kernel_rfl) (ztx fuel)
theorem ztz (fuel : Nat) : EntryOK Try.prog 37 (zis fuel).te := EntryOK.tf rfl (zty fuel) (isFn (fn := Try.f37) (by kernel_rfl) (by kernel_rfl) (by kernel_rfl))
def zna (fuel : Nat) : Tab := Tab.of [] []
abbrev zit : List Pm := [{ cs := [(Kd.list Kd.bool, false)], ag := false }, { cs := [(I6, false)], ag := false }]
abbrev znb : List Pm := [{ cs := [(I6, false)], ag := false }]
def znc : List Norm := []
noncomputable def znd : C := irOf Try.prog Try.f38 [] znc []
theorem ztA : lightC Try.prog [] Try.f38.ntmps znc [] 0 (bodyOf Try.f38) = some (znd, 0) := by kernel_rfl
def zne : List (Nat × Option (Nat × Bool)) := [(4, none)]
def ztB (fuel : Nat) (x0 : List Bool) (x1 : Int) : Option ((Int × Unit) × Unit) :=
 cond (decide (w64 (x1 - (zz (List.length x0))) < (0 : Int)))
 (some ((((-1 : Int), ()), ())))
 (some (((w64 (x1 - (zz (List.length x0))), ()), ())))
def zfz (fuel : Nat) (x : (((List Bool) × Unit) × ((Int × Unit) × Unit))) : Option ((Int × Unit) × Unit) := ztB fuel x.1.1 x.2.1.1
theorem ztC (fuel : Nat) (x : PsT zit) : run (zna fuel) 0 fuel znd (env0 (svPs zit x) 0) [] (endF zne znb) = zfz fuel x := by kernel_rfl
def ziu (fuel : Nat) : TF := ⟨zit, znb, true, zfz fuel⟩
theorem ztD (fuel : Nat) : FnSpec Try.prog 38 (ziu fuel) :=
  fn_spec (T := zna fuel) (c := bodyOf Try.f38) (fn := Try.f38) (TabOK.of (entNil) (methNil)) mixed (by kernel_rfl) (by kernel_rfl) ztA (by kernel_rfl) (Nat.le_of_ble_eq_true (by kernel_rfl)) (rv := zne) (by kernel_rfl) (ztC fuel)
theorem ztE (fuel : Nat) : EntryOK Try.prog 38 (ziu fuel).te := EntryOK.tf rfl (ztD fuel) (isFn (fn := Try.f38) (by kernel_rfl) (by kernel_rfl) (by kernel_rfl))
def znf (fuel : Nat) : Tab := Tab.of [(76, (zfw fuel).te)] []
abbrev ziv : List Pm := [{ cs := [(I6, false), (I6, false), (I6, false), (I6, false), (I6, false), (Kd.list KE, false)], ag := true }, { cs := [(I6, false)], ag := false }]
abbrev zng : List Pm := [{ cs := [(I6, false)], ag := false }]
def znh : List Norm := []
noncomputable def zni : C := irOf Try.prog Try.f60 [] znh []
theorem ztF : lightC Try.prog [] Try.f60.ntmps znh [] 0 (bodyOf Try.f60) = some (zni, 0) := by kernel_rfl
def znj : List (Nat × Option (Nat × Bool)) := [(4, none)]
def ztG (fuel : Nat) (x0 : Int) (x1 : Int) (x2 : Int) (x3 : Int) (x4 : Int) (x5 : List EntY) (x6 : Int) : Option ((Int × Unit) × Unit) :=
 Option.bind (zdp fuel ((x5, ()), (x6, ()), ())) fun y_1 =>
 cond (decide (y_1.1.1 < (0 : Int)))
 (some ((((-1 : Int), ()), ())))
 (some (((y_1.1.1, ()), ())))
def zdw (fuel : Nat) (x : (WorY × ((Int × Unit) × Unit))) : Option ((Int × Unit) × Unit) := ztG fuel x.1.1 x.1.2.1 x.1.2.2.1 x.1.2.2.2.1 x.1.2.2.2.2.1 x.1.2.2.2.2.2.1 x.2.1.1
theorem ztH (fuel : Nat) (x : PsT ziv) : run (znf fuel) 0 fuel zni (env0 (svPs ziv x) 0) [] (endF znj zng) = zdw fuel x := by kernel_rfl
def ziw (fuel : Nat) : TF := ⟨ziv, zng, true, zdw fuel⟩
theorem ztI (fuel : Nat) : FnSpec Try.prog 60 (ziw fuel) :=
  fn_spec (T := znf fuel) (c := bodyOf Try.f60) (fn := Try.f60) (TabOK.of (entCons (zm1 fuel) entNil) (methNil)) mixed (by kernel_rfl) (by kernel_rfl) ztF (by kernel_rfl) (Nat.le_of_ble_eq_true (by kernel_rfl)) (rv := znj) (by kernel_rfl) (ztH fuel)
theorem ztJ (fuel : Nat) : EntryOK Try.prog 60 (ziw fuel).te := EntryOK.tf rfl (ztI fuel) (isFn (fn := Try.f60) (by kernel_rfl) (by kernel_rfl) (by kernel_rfl))
def zdx (fuel : Nat) : Tab := Tab.of [(60, (ziw fuel).te)] []
abbrev zfA : List Pm := [{ cs := [(Kd.list KW, false)], ag := false }, { cs := [(I6, false)], ag := false }]
abbrev zdy : List Pm := [{ cs := [(I6, false)], ag := false }]
def znk : List Norm := [{ live := [5, 0, 1], fix := [] }]
noncomputable def zdz : C := irOf Try.prog Try.f39 [] znk []
theorem ztK : lightC Try.prog [] Try.f39.ntmps znk [] 0 (bodyOf Try.f39) = some (zdz, 1) := by kernel_rfl
def zdA : List (Nat × Option (Nat × Bool)) := [(4, none)]
abbrev za6 := (Int) × (List WorY) × (Int)
def znl (v : za6) : Env × Heap := ([(5, SV.int .i64 v.1), (0, SV.es KW v.2.1), (1, SV.int .i64 v.2.2)], [])
def zdB (fuel : Nat) (g0 : za6 → Option ((Int × Unit) × Unit)) (v : za6) : Option ((Int × Unit) × Unit) :=
 cond (decide (v.1 < (zz (List.length v.2.1))))
 (tst (decide (0 ≤ v.1)) <|
 tst (decide (v.1 < (zz (List.length v.2.1)))) <|
 Option.bind (zdw fuel (((List.getD v.2.1 (Int.toNat v.1) dW).1, (List.getD v.2.1 (Int.toNat v.1) dW).2.1, (List.getD v.2.1 (Int.toNat v.1) dW).2.2.1, (List.getD v.2.1 (Int.toNat v.1) dW).2.2.2.1, (List.getD v.2.1 (Int.toNat v.1) dW).2.2.2.2.1, (List.getD v.2.1 (Int.toNat v.1) dW).2.2.2.2.2.1, ()), (v.2.2, ()), ())) fun y_2 =>
 cond (decide (y_2.1.1 < (0 : Int)))
 (some ((((-1 : Int), ()), ())))
 (g0 (w64 (v.1 + (1 : Int)), v.2.1, y_2.1.1)))
 (some (((v.2.2, ()), ())))
def zix (fuel : Nat) (g0 : za6 → Option ((Int × Unit) × Unit)) : za6 → Option ((Int × Unit) × Unit) := zdB fuel g0
theorem ztL (fuel : Nat) (G) : zdz.lp (zdx fuel) 0 fuel G (endF zdA zdy) 0 znl = iter (zix fuel) fuel := C.lp_iter fun g v => by kernel_rfl
def znm (fuel : Nat) (X0 : za6 → Option ((Int × Unit) × Unit)) (x0 : List WorY) (x1 : Int) : Option ((Int × Unit) × Unit) :=
 cond (decide (w64 (x1 - (zz (List.length x0))) < (0 : Int)))
 (some ((((-1 : Int), ()), ())))
 (X0 ((0 : Int), x0, w64 (x1 - (zz (List.length x0)))))
def zfB (fuel : Nat) (x : (((List WorY) × Unit) × ((Int × Unit) × Unit))) : Option ((Int × Unit) × Unit) := znm fuel (iter (zix fuel) fuel) x.1.1 x.2.1.1
theorem ztM (fuel : Nat) (x : PsT zfA) : run (zdx fuel) 0 fuel zdz (env0 (svPs zfA x) 0) [] (endF zdA zdy) = zfB fuel x :=
  (show run (zdx fuel) 0 fuel zdz (env0 (svPs zfA x) 0) [] (endF zdA zdy) = znm fuel (zdz.lp (zdx fuel) 0 fuel (fun _ _ _ => none) (endF zdA zdy) 0 znl) x.1.1 x.2.1.1 by kernel_rfl).trans (by rw [ztL]; rfl)
def ziy (fuel : Nat) : TF := ⟨zfA, zdy, true, zfB fuel⟩
theorem ztN (fuel : Nat) : FnSpec Try.prog 39 (ziy fuel) :=
  fn_spec (T := zdx fuel) (c := bodyOf Try.f39) (fn := Try.f39) (TabOK.of (entCons (ztJ fuel) entNil) (methNil)) mixed (by kernel_rfl) (by kernel_rfl) ztK (by kernel_rfl) (Nat.le_of_ble_eq_true (by kernel_rfl)) (rv := zdA) (by kernel_rfl) (ztM fuel)
theorem ztO (fuel : Nat) : EntryOK Try.prog 39 (ziy fuel).te := EntryOK.tf rfl (ztN fuel) (isFn (fn := Try.f39) (by kernel_rfl) (by kernel_rfl) (by kernel_rfl))
end Go.Proofs.Ytmkekjmckdkcnaa.Den
namespace Go.Proofs.Ytmkekjmckdkcnaa.Den
open Go Go.RowKit
def zdC (fuel : Nat) : Tab := Tab.of [(61, (zfr fuel).te)] []
abbrev zfC : List Pm := [{ cs := [(Kd.list (Kd.list (Kd.list I6)), false)], ag := false }, { cs := [(I6, false)], ag := false }]
abbrev zdD : List Pm := [{ cs := [(I6, false)], ag := false }]
def znn : List Norm := [{ live := [5, 0, 1], fix := [] }]
noncomputable def zdE : C := irOf Try.prog Try.f40 [] znn []
theorem ztP : lightC Try.prog [] Try.f40.ntmps znn [] 0 (bodyOf Try.f40) = some (zdE, 1) := by kernel_rfl
def zdF : List (Nat × Option (Nat × Bool)) := [(4, none)]
abbrev za7 := (Int) × (List (List (List Int))) × (Int)
def zno (v : za7) : Env × Heap := ([(5, SV.int .i64 v.1), (0, SV.es (Kd.list (Kd.list I6)) v.2.1), (1, SV.int .i64 v.2.2)], [])
def zdG (fuel : Nat) (g0 : za7 → Option ((Int × Unit) × Unit)) (v : za7) : Option ((Int × Unit) × Unit) :=
 cond (decide (v.1 < (zz (List.length v.2.1))))
 (tst (decide (0 ≤ v.1)) <|
 tst (decide (v.1 < (zz (List.length v.2.1)))) <|
 Option.bind (za3 fuel ((List.getD v.2.1 (Int.toNat v.1) [], ()), (v.2.2, ()), ())) fun y_2 =>
 cond (decide (y_2.1.1 < (0 : Int)))
 (some ((((-1 : Int), ()), ())))
 (g0 (w64 (v.1 + (1 : Int)), v.2.1, y_2.1.1)))
 (some (((v.2.2, ()), ())))
def ziz (fuel : Nat) (g0 : za7 → Option ((Int × Unit) × Unit)) : za7 → Option ((Int × Unit) × Unit) := zdG fuel g0
theorem ztQ (fuel : Nat) (G) : zdE.lp (zdC fuel) 0 fuel G (endF zdF zdD) 0 zno = iter (ziz fuel) fuel := C.lp_iter fun g v => by kernel_rfl
def znp (fuel : Nat) (X0 : za7 → Option ((Int × Unit) × Unit)) (x0 : List (List (List Int))) (x1 : Int) : Option ((Int × Unit) × Unit) :=
 cond (decide (w64 (x1 - (zz (List.length x0))) < (0 : Int)))
 (some ((((-1 : Int), ()), ())))
 (X0 ((0 : Int), x0, w64 (x1 - (zz (List.length x0)))))
def zfD (fuel : Nat) (x : (((List (List (List Int))) × Unit) × ((Int × Unit) × Unit))) : Option ((Int × Unit) × Unit) := znp fuel (iter (ziz fuel) fuel) x.1.1 x.2.1.1
theorem ztR (fuel : Nat) (x : PsT zfC) : run (zdC fuel) 0 fuel zdE (env0 (svPs zfC x) 0) [] (endF zdF zdD) = zfD fuel x :=
  (show run (zdC fuel) 0 fuel zdE (env0 (svPs zfC x) 0) [] (endF zdF zdD) = znp fuel (zdE.lp (zdC fuel) 0 fuel (fun _ _ _ => none) (endF zdF zdD) 0 zno) x.1.1 x.2.1.1 by kernel_rfl).trans (by rw [ztQ]; rfl)
def ziA (fuel : Nat) : TF := ⟨zfC, zdD, true, zfD fuel⟩
theorem ztS (fuel : Nat) : FnSpec Try.prog 40 (ziA fuel) :=
  fn_spec (T := zdC fuel) (c := bodyOf Try.f40) (fn := Try.f40) (TabOK.of (entCons (zmj fuel) entNil) (methNil)) mixed (by kernel_rfl) (by kernel_rfl) ztP (by kernel_rfl) (Nat.le_of_ble_eq_true (by kernel_rfl)) (rv := zdF) (by kernel_rfl) (ztR fuel)
theorem ztT (fuel : Nat) : EntryOK Try.prog 40 (ziA fuel).te := EntryOK.tf rfl (ztS fuel) (isFn (fn := Try.f40) (by kernel_rfl) (by kernel_rfl) (by kernel_rfl))
def znq (fuel : Nat) : Tab := Tab.of [(37, (zis fuel).te), (38, (ziu fuel).te), (39, (ziy fuel).te), (40, (ziA fuel).te)] []
abbrev ziB : List Pm := [{ cs := [(Kd.list KN, false), (Kd.list Kd.bool, false), (Kd.list KW, false), (Kd.list (Kd.list (Kd.list I6)), false)], ag := true }, { cs := [(I6, false)], ag := false }]
abbrev znr : List Pm := [{ cs := [(I6, false)], ag := false }]
def zns : List Norm := []
noncomputable def znt : C := irOf Try.prog Try.f13 [] zns []
theorem ztU : lightC Try.prog [] Try.f13.ntmps zns [] 0 (bodyOf Try.f13) = some (znt, 0) := by kernel_rfl
def znu : List (Nat × Option (Nat × Bool)) := [(4, none)]
def ztV (fuel : Nat) (x0 : List NodY) (x1 : List Bool) (x2 : List WorY) (x3 : List (List (List Int))) (x4 : Int) : Option ((Int × Unit) × Unit) :=
 Option.bind (zfy fuel ((x0, ()), (x4, ()), ())) fun y_1 =>
 cond (decide (y_1.1.1 < (0 : Int)))
 (some ((((-1 : Int), ()), ())))
 (Option.bind (zfz fuel ((x1, ()), (y_1.1.1, ()), ())) fun y_3 =>
 cond (decide (y_3.1.1 < (0 : Int)))
 (some ((((-1 : Int), ()), ())))
 (Option.bind (zfB fuel ((x2, ()), (y_3.1.1, ()), ())) fun y_5 =>
 cond (decide (y_5.1.1 < (0 : Int)))
 (some ((((-1 : Int), ()), ())))
 (Option.bind (zfD fuel ((x3, ()), (y_5.1.1, ()), ())) fun y_7 =>
 cond (decide (y_7.1.1 < (0 : Int)))
 (some ((((-1 : Int), ()), ())))
 (some (((y_7.1.1, ()), ()))))))
def zfE (fuel : Nat) (x : (NetY × ((Int × Unit) × Unit))) : Option ((Int × Unit) × Unit) := ztV fuel x.1.1 x.1.2.1 x.1.2.2.1 x.1.2.2.2.1 x.2.1.1
theorem ztW (fuel : Nat) (x : PsT ziB) : run (znq fuel) 0 fuel znt (env0 (svPs ziB x) 0) [] (endF znu znr) = zfE fuel x := by kernel_rfl
def ziC (fuel : Nat) : TF := ⟨ziB, znr, true, zfE fuel⟩
theorem ztX (fuel : Nat) : FnSpec Try.prog 13 (ziC fuel) :=
  fn_spec (T := znq fuel) (c := bodyOf Try.f13) (fn := Try.f13) (TabOK.of (entCons (ztz fuel) (entCons (ztE fuel) (entCons (ztO fuel) (entCons (ztT fuel) entNil)))) (methNil)) mixed (by kernel_rfl) (by kernel_rfl) ztU (by kernel_rfl) (Nat.le_of_ble_eq_true (by kernel_rfl)) (rv := znu) (by kernel_rfl) (ztW fuel)
theorem ztY (fuel : Nat) : EntryOK Try.prog 13 (ziC fuel).te := EntryOK.tf rfl (ztX fuel) (isFn (fn := Try.f13) (by kernel_rfl) (by kernel_rfl) (by kernel_rfl))
def znv (fuel : Nat) : Tab := Tab.of [] []
abbrev ziD : List Pm := [{ cs := [(I6, false)], ag := false }, { cs := [(I6, false)], ag := false }]
abbrev znw : List Pm := [{ cs := [(I6, false)], ag := false }]
def znx : List Norm := []
noncomputable def zny : C := irOf Try.prog Try.f19 [] znx []
theorem ztZ : lightC Try.prog [] Try.f19.ntmps znx [] 0 (bodyOf Try.f19) = some (zny, 0) := by kernel_rfl
def znz : List (Nat × Option (Nat × Bool)) := [(4, none)]
def zt0 (fuel : Nat) (x0 : Int) (x1 : Int) : Option ((Int × Unit) × Unit) :=
 some (((w64 (w64 (x0 * (5 : Int)) + x1), ()), ()))
def zfF (fuel : Nat) (x : ((Int × Unit) × ((Int × Unit) × Unit))) : Option ((Int × Unit) × Unit) := zt0 fuel x.1.1 x.2.1.1
theorem zt1 (fuel : Nat) (x : PsT ziD) : run (znv fuel) 0 fuel zny (env0 (svPs ziD x) 0) [] (endF znz znw) = zfF fuel x := by kernel_rfl
def ziE (fuel : Nat) : TF := ⟨ziD, znw, true, zfF fuel⟩
theorem zt2 (fuel : Nat) : FnSpec Try.prog 19 (ziE fuel) :=
  fn_spec (T := znv fuel) (c := bodyOf Try.f19) (fn := Try.f19) (TabOK.of (entNil) (methNil)) mixed (by kernel_rfl) (by kernel_rfl) ztZ (by kernel_rfl) (Nat.le_of_ble_eq_true (by kernel_rfl)) (rv := znz) (by kernel_rfl) (zt1 fuel)
theorem zt3 (fuel : Nat) : EntryOK Try.prog 19 (ziE fuel).te := EntryOK.tf rfl (zt2 fuel) (isFn (fn := Try.f19) (by kernel_rfl) (by kernel_rfl) (by kernel_rfl))
abbrev zb := Option (((List Int) × Unit) × Unit)
def zj (fuel : Nat) : Tab := Tab.of [(19, (ziE fuel).te)] []
abbrev zfG : List Pm := [{ cs := [(Kd.list KN, false), (Kd.list Kd.bool, false), (Kd.list KW, false), (Kd.list (Kd.list (Kd.list I6)), false)], ag := true }]
abbrev zo : List Pm := [{ cs := [(Kd.list I6, true)], ag := false }]
def znA : List Norm := [{ live := [5, 4, 1, 3], fix := [] }, { live := [6, 4, 1, 5, 3], fix := [] }, { live := [7, 4, 6, 1, 5, 3], fix := [] }, { live := [8, 4, 3], fix := [(3, none, I6, true)] }]
noncomputable def zh : C := irOf Try.prog Try.f14 [] znA []
theorem zt4 : lightC Try.prog [] Try.f14.ntmps znA [] 0 (bodyOf Try.f14) = some (zh, 4) := by kernel_rfl
def zp : List (Nat × Option (Nat × Bool)) := [(2, none)]
abbrev zQ := (Int) × (List Bool) × (List NodY) × (List Bool) × (List WorY) × (List (List (List Int)))
abbrev zR := (Int) × (Int) × (List Bool) × (List NodY) × (List Bool) × (List WorY) × (List (List (List Int)))
abbrev za8 := (Int) × (List Bool) × (List Int)
abbrev za9 := (Int) × (Int) × (Int) × (List Bool) × (List NodY) × (List Bool) × (List WorY) × (List (List (List Int)))
def zH (v : zQ) : Env × Heap := ([(5, SV.int .i64 v.1), (4, SV.own 0), (1, SV.ptr 1 0), (3, SV.nils)], [Blk.arr Kd.bool v.2.1 0, Blk.cells [SV.es KN v.2.2.1, SV.es Kd.bool v.2.2.2.1, SV.es KW v.2.2.2.2.1, SV.es (Kd.list (Kd.list I6)) v.2.2.2.2.2] 0 4])
def zI (v : zR) : Env × Heap := ([(6, SV.int .i64 v.1), (4, SV.own 0), (1, SV.ptr 1 0), (5, SV.int .i64 v.2.1), (3, SV.nils)], [Blk.arr Kd.bool v.2.2.1 0, Blk.cells [SV.es KN v.2.2.2.1, SV.es Kd.bool v.2.2.2.2.1, SV.es KW v.2.2.2.2.2.1, SV.es (Kd.list (Kd.list I6)) v.2.2.2.2.2.2] 0 4])
def znB (v : za8) : Env × Heap := ([(8, SV.int .i64 v.1), (4, SV.own 0), (3, SV.own 1)], [Blk.arr Kd.bool v.2.1 0, Blk.arr I6 v.2.2 0])
def zba (v : za9) : Env × Heap := ([(7, SV.int .i64 v.1), (4, SV.own 0), (6, SV.int .i64 v.2.1), (1, SV.ptr 1 0), (5, SV.int .i64 v.2.2.1), (3, SV.nils)], [Blk.arr Kd.bool v.2.2.2.1 0, Blk.cells [SV.es KN v.2.2.2.2.1, SV.es Kd.bool v.2.2.2.2.2.1, SV.es KW v.2.2.2.2.2.2.1, SV.es (Kd.list (Kd.list I6)) v.2.2.2.2.2.2.2] 0 4])
def zbb (fuel : Nat) (g1 : zR → zb) (g2 : za9 → zb) (v : za9) : zb :=
 cond (decide (v.1 < (5 : Int)))
 (tst (decide (0 ≤ v.1)) <|
 tst (decide (v.1 < (zz (List.length v.2.2.2.1)))) <|
 tst (decide (Int.toNat v.1 < List.length v.2.2.2.1)) <|
 cond (List.getD v.2.2.2.1 (Int.toNat v.1) false)
 (tst (decide (0 ≤ v.1)) <|
 tst (decide (v.1 < (zz (List.length v.2.2.2.1)))) <|
 tst (decide (Int.toNat v.1 < List.length v.2.2.2.1)) <|
 g2 (w64 (v.1 + (1 : Int)), v.2.1, v.2.2.1, List.set v.2.2.2.1 (Int.toNat v.1) true, v.2.2.2.2.1, v.2.2.2.2.2.1, v.2.2.2.2.2.2.1, v.2.2.2.2.2.2.2))
 (tst (decide (0 ≤ v.2.1)) <|
 tst (decide (v.2.1 < (zz (List.length v.2.2.2.1)))) <|
 tst (decide (Int.toNat v.2.1 < List.length v.2.2.2.1)) <|
 cond (List.getD v.2.2.2.1 (Int.toNat v.2.1) false)
 (Option.bind (zfF fuel ((v.2.1, ()), (v.1, ()), ())) fun y_4 =>
 tst (decide (0 ≤ y_4.1.1)) <|
 tst (decide (y_4.1.1 < (zz (List.length v.2.2.2.2.2.1)))) <|
 tst (decide (0 ≤ v.1)) <|
 tst (decide (v.1 < (zz (List.length v.2.2.2.1)))) <|
 tst (decide (Int.toNat v.1 < List.length v.2.2.2.1)) <|
 g2 (w64 (v.1 + (1 : Int)), v.2.1, v.2.2.1, List.set v.2.2.2.1 (Int.toNat v.1) (List.getD v.2.2.2.2.2.1 (Int.toNat y_4.1.1) false), v.2.2.2.2.1, v.2.2.2.2.2.1, v.2.2.2.2.2.2.1, v.2.2.2.2.2.2.2))
 (tst (decide (0 ≤ v.1)) <|
 tst (decide (v.1 < (zz (List.length v.2.2.2.1)))) <|
 tst (decide (Int.toNat v.1 < List.length v.2.2.2.1)) <|
 g2 (w64 (v.1 + (1 : Int)), v.2.1, v.2.2.1, List.set v.2.2.2.1 (Int.toNat v.1) (false), v.2.2.2.2.1, v.2.2.2.2.2.1, v.2.2.2.2.2.2.1, v.2.2.2.2.2.2.2))))
 (g1 (w64 (v.2.1 + (1 : Int)), v.2.2.1, v.2.2.2.1, v.2.2.2.2.1, v.2.2.2.2.2.1, v.2.2.2.2.2.2.1, v.2.2.2.2.2.2.2))
def zbc (fuel : Nat) (g1 : zR → zb) (g2 : za9 → zb) : za9 → zb := zbb fuel g1 g2
theorem zt5 (fuel : Nat) (G) : zh.lp (zj fuel) 0 fuel G (endF zp zo) 2 zba = iter (zbc fuel (fun v => G 1 (zI v).1 (zI v).2)) fuel := C.lp_iter fun g v =>
  (show run (zj fuel) 0 fuel (zh.bdAt 2) (zba v).1 (zba v).2 (loopK 0 (zh.nmAt 2) g (zh.contAt (zj fuel) 0 fuel G 0 2 (endF zp zo))) = zbb fuel (fun v => G 1 (zI v).1 (zI v).2) (fun v => g (zba v).1 (zba v).2) v by kernel_rfl)
def zbd (fuel : Nat) (g0 : zQ → zb) (X2 : za9 → zb) (g1 : zR → zb) (v : zR) : zb :=
 cond (decide (v.1 < (5 : Int)))
 (X2 ((0 : Int), v.1, v.2.1, v.2.2.1, v.2.2.2.1, v.2.2.2.2.1, v.2.2.2.2.2.1, v.2.2.2.2.2.2))
 (g0 (w64 (v.2.1 + (1 : Int)), v.2.2.1, v.2.2.2.1, v.2.2.2.2.1, v.2.2.2.2.2.1, v.2.2.2.2.2.2))
def zbe (fuel : Nat) (g0 : zQ → zb) (g1 : zR → zb) : zR → zb := zbd fuel g0 (iter (zbc fuel g1) fuel) g1
theorem zt6 (fuel : Nat) (G) : zh.lp (zj fuel) 0 fuel G (endF zp zo) 1 zI = iter (zbe fuel (fun v => G 0 (zH v).1 (zH v).2)) fuel := C.lp_iter fun g v =>
  (show run (zj fuel) 0 fuel (zh.bdAt 1) (zI v).1 (zI v).2 (loopK 0 (zh.nmAt 1) g (zh.contAt (zj fuel) 0 fuel G 0 1 (endF zp zo))) = zbd fuel (fun v => G 0 (zH v).1 (zH v).2) (zh.lp (zj fuel) 0 fuel (fun m => bif Nat.beq m 1 then g else G m) (endF zp zo) 2 zba) (fun v => g (zI v).1 (zI v).2) v by kernel_rfl).trans (by rw [zt5]; rfl)
def zdH (fuel : Nat) (g3 : za8 → zb) (v : za8) : zb :=
 cond (decide (v.1 < (5 : Int)))
 (tst (decide (0 ≤ v.1)) <|
 tst (decide (v.1 < (zz (List.length v.2.1)))) <|
 tst (decide (Int.toNat v.1 < List.length v.2.1)) <|
 cond (List.getD v.2.1 (Int.toNat v.1) false)
 (tst (decide (List.length v.2.2 + 1 < LIM)) <|
 g3 (w64 (v.1 + (1 : Int)), v.2.1, v.2.2 ++ [v.1]))
 (g3 (w64 (v.1 + (1 : Int)), v.2.1, v.2.2)))
 (some (((v.2.2, ()), ())))
def zdI (fuel : Nat) (g3 : za8 → zb) : za8 → zb := zdH fuel g3
theorem zt7 (fuel : Nat) (G) : zh.lp (zj fuel) 0 fuel G (endF zp zo) 3 znB = iter (zdI fuel) fuel := C.lp_iter fun g v => by kernel_rfl
def zbf (fuel : Nat) (X1 : zR → zb) (X3 : za8 → zb) (g0 : zQ → zb) (v : zQ) : zb :=
 cond (decide (v.1 < (5 : Int)))
 (X1 ((0 : Int), v.1, v.2.1, v.2.2.1, v.2.2.2.1, v.2.2.2.2.1, v.2.2.2.2.2))
 (X3 ((0 : Int), v.2.1, []))
def zbg (fuel : Nat) (g0 : zQ → zb) : zQ → zb := zbf fuel (iter (zbe fuel g0) fuel) (iter (zdI fuel) fuel) g0
theorem zt8 (fuel : Nat) (G) : zh.lp (zj fuel) 0 fuel G (endF zp zo) 0 zH = iter (zbg fuel) fuel := C.lp_iter fun g v =>
  (show run (zj fuel) 0 fuel (zh.bdAt 0) (zH v).1 (zH v).2 (loopK 0 (zh.nmAt 0) g (zh.contAt (zj fuel) 0 fuel G 0 0 (endF zp zo))) = zbf fuel (zh.lp (zj fuel) 0 fuel (fun m => bif Nat.beq m 0 then g else G m) (endF zp zo) 1 zI) (zh.lp (zj fuel) 0 fuel (fun m => bif Nat.beq m 0 then g else G m) (endF zp zo) 3 znB) (fun v => g (zH v).1 (zH v).2) v by kernel_rfl).trans (by rw [zt6, zt7]; rfl)
def zfH (fuel : Nat) (X0 : zQ → zb) (x0 : List NodY) (x1 : List Bool) (x2 : List WorY) (x3 : List (List (List Int))) : zb :=
 cond ((zz (List.length x1)) != (25 : Int))
 (some ((([], ()), ())))
 (X0 ((0 : Int), List.set (List.replicate (Int.toNat (5 : Int)) false) (Int.toNat (0 : Int)) true, x0, x1, x2, x3))
def zfI (fuel : Nat) (x : (NetY × Unit)) : zb := zfH fuel (iter (zbg fuel) fuel) x.1.1 x.1.2.1 x.1.2.2.1 x.1.2.2.2.1
theorem zt9 (fuel : Nat) (x : PsT zfG) : run (zj fuel) 0 fuel zh (env0 (svPs zfG x) 0) [] (endF zp zo) = zfI fuel x :=
  (show run (zj fuel) 0 fuel zh (env0 (svPs zfG x) 0) [] (endF zp zo) = zfH fuel (zh.lp (zj fuel) 0 fuel (fun _ _ _ => none) (endF zp zo) 0 zH) x.1.1 x.1.2.1 x.1.2.2.1 x.1.2.2.2.1 by kernel_rfl).trans (by rw [zt8]; rfl)
def ziF (fuel : Nat) : TF := ⟨zfG, zo, true, zfI fuel⟩
theorem zua (fuel : Nat) : FnSpec Try.prog 14 (ziF fuel) :=
  fn_spec (T := zj fuel) (c := bodyOf Try.f14) (fn := Try.f14) (TabOK.of (entCons (zt3 fuel) entNil) (methNil)) mixed (by kernel_rfl) (by kernel_rfl) zt4 (by kernel_rfl) (Nat.le_of_ble_eq_true (by kernel_rfl)) (rv := zp) (by kernel_rfl) (zt9 fuel)
theorem zub (fuel : Nat) : EntryOK Try.prog 14 (ziF fuel).te := EntryOK.tf rfl (zua fuel) (isFn (fn := Try.f14) (by kernel_rfl) (by kernel_rfl) (by kernel_rfl))
abbrev zav := Option (((List Bool) × Unit) × Unit)
def zdJ (fuel : Nat) : Tab := Tab.of [] []
abbrev zfJ : List Pm := [{ cs := [(Kd.list Kd.bool, false)], ag := false }]
abbrev zdK : List Pm := [{ cs := [(Kd.list Kd.bool, true)], ag := false }]
def znC : List Norm := [{ live := [4, 0, 3], fix := [] }]
noncomputable def zdL : C := irOf Try.prog Try.f42 [] znC []
theorem zuc : lightC Try.prog [] Try.f42.ntmps znC [] 0 (bodyOf Try.f42) = some (zdL, 1) := by kernel_rfl
def zdM : List (Nat × Option (Nat × Bool)) := [(2, none)]
abbrev zbh := (Int) × (List Bool) × (List Bool)
def znD (v : zbh) : Env × Heap := ([(4, SV.int .i64 v.1), (0, SV.es Kd.bool v.2.1), (3, SV.own 0)], [Blk.arr Kd.bool v.2.2 0])
def zdN (fuel : Nat) (g0 : zbh → zav) (v : zbh) : zav :=
 cond (decide (v.1 < (zz (List.length v.2.1))))
 (tst (decide (0 ≤ v.1)) <|
 tst (decide (v.1 < (zz (List.length v.2.1)))) <|
 tst (decide (0 ≤ v.1)) <|
 tst (decide (v.1 < (zz (List.length v.2.2)))) <|
 tst (decide (Int.toNat v.1 < List.length v.2.2)) <|
 g0 (w64 (v.1 + (1 : Int)), v.2.1, List.set v.2.2 (Int.toNat v.1) (List.getD v.2.1 (Int.toNat v.1) false)))
 (some (((v.2.2, ()), ())))
def zfK (fuel : Nat) (g0 : zbh → zav) : zbh → zav := zdN fuel g0
theorem zud (fuel : Nat) (G) : zdL.lp (zdJ fuel) 0 fuel G (endF zdM zdK) 0 znD = iter (zfK fuel) fuel := C.lp_iter fun g v => by kernel_rfl
def zfL (fuel : Nat) (X0 : zbh → zav) (x0 : List Bool) : zav :=
 tst (decide (0 ≤ (zz (List.length x0)))) <|
 tst (decide ((zz (List.length x0)) ≤ (zz (List.length x0)))) <|
 tst (decide (Int.toNat (zz (List.length x0)) < LIM)) <|
 X0 ((0 : Int), x0, List.replicate (Int.toNat (zz (List.length x0))) false)
def zfM (fuel : Nat) (x : (((List Bool) × Unit) × Unit)) : zav := zfL fuel (iter (zfK fuel) fuel) x.1.1
theorem zue (fuel : Nat) (x : PsT zfJ) : run (zdJ fuel) 0 fuel zdL (env0 (svPs zfJ x) 0) [] (endF zdM zdK) = zfM fuel x :=
  (show run (zdJ fuel) 0 fuel zdL (env0 (svPs zfJ x) 0) [] (endF zdM zdK) = zfL fuel (zdL.lp (zdJ fuel) 0 fuel (fun _ _ _ => none) (endF zdM zdK) 0 znD) x.1.1 by kernel_rfl).trans (by rw [zud]; rfl)
def ziG (fuel : Nat) : TF := ⟨zfJ, zdK, true, zfM fuel⟩
theorem zuf (fuel : Nat) : FnSpec Try.prog 42 (ziG fuel) :=
  fn_spec (T := zdJ fuel) (c := bodyOf Try.f42) (fn := Try.f42) (TabOK.of (entNil) (methNil)) mixed (by kernel_rfl) (by kernel_rfl) zuc (by kernel_rfl) (Nat.le_of_ble_eq_true (by kernel_rfl)) (rv := zdM) (by kernel_rfl) (zue fuel)
theorem zug (fuel : Nat) : EntryOK Try.prog 42 (ziG fuel).te := EntryOK.tf rfl (zuf fuel) (isFn (fn := Try.f42) (by kernel_rfl) (by kernel_rfl) (by kernel_rfl))
def znE (fuel : Nat) : Tab := Tab.of [(41, (zgS fuel).te), (42, (ziG fuel).te), (43, (zgV fuel).te), (44, (zgv fuel).te)] []
abbrev ziH : Sh := (.agg (.cell (Kd.list KN) 0 (.cell (Kd.list Kd.bool) 0 (.cell (Kd.list KW) 0 (.cell (Kd.list (Kd.list (Kd.list I6))) 0 .nil)))) .nil)
def znF : List Norm := []
noncomputable def znG : C := irOf Try.prog Try.f15 [] znF []
theorem zuh : lightC Try.prog [] Try.f15.ntmps znF [] 0 (bodyOf Try.f15) = some (znG, 0) := by kernel_rfl
def znH : List (Nat × Option (Nat × Bool)) := [(2, some (4, true))]
def ziI (fuel : Nat) (x0 : List NodY) (x1 : List Bool) (x2 : List WorY) (x3 : List (List (List Int))) : Option NetY :=
 Option.bind (zaJ fuel (x0, ())) fun y_1 =>
 Option.bind (zfM fuel ((x1, ()), ())) fun y_2 =>
 Option.bind (zaK fuel (x2, ())) fun y_3 =>
 Option.bind (zaG fuel (x3, ())) fun y_4 =>
 some ((y_1, y_2.1.1, y_3, y_4, ()))
def zaw (fuel : Nat) (x : (NetY × Unit)) : Option NetY := ziI fuel x.1.1 x.1.2.1 x.1.2.2.1 x.1.2.2.2.1
theorem zui (fuel : Nat) (x : Sh.T ziH) : run (znE fuel) 0 fuel znG (env0 (svS ziH x) 0) [] (endR znH KNET true) = zaw fuel x := by kernel_rfl
def ziJ (fuel : Nat) : TR := ⟨ziH, KNET, true, zaw fuel⟩
theorem zuj (fuel : Nat) : FnSpecR Try.prog 15 (ziJ fuel) :=
  zN (T := znE fuel) (c := bodyOf Try.f15) (fn := Try.f15) (TabOK.of (entCons (zqr fuel) (entCons (zug fuel) (entCons (zqw fuel) (entCons (zpA fuel) entNil)))) (methNil)) mixed (by kernel_rfl) (by kernel_rfl) zuh (by kernel_rfl) (Nat.le_of_ble_eq_true (by kernel_rfl)) (rv := znH) (by kernel_rfl) (fun x y h => ⟨fuel, (zui fuel x).trans h⟩)
theorem zuk (fuel : Nat) : EntryOK Try.prog 15 (ziJ fuel).te := EntryOK.tr (zuj fuel) (isFn (fn := Try.f15) (by kernel_rfl) (by kernel_rfl) (by kernel_rfl))
abbrev zl := Option (((List Bool) × NetY) × Int)
def zB (fuel : Nat) : Tab := Tab.of [] []
abbrev zv : Rf := Rf.arr Kd.bool 0
abbrev zw : Rf := Rf.cells [(Kd.list KN, false), (Kd.list Kd.bool, false), (Kd.list KW, false), (Kd.list (Kd.list (Kd.list I6)), false)] 0
def znI : List Norm := [{ live := [6, 0, 1, 3], fix := [] }, { live := [12, 0, 1, 4, 6, 3], fix := [] }]
noncomputable def zt : C := irOf Try.prog Try.f45 [] znI []
theorem zul : lightC Try.prog [] Try.f45.ntmps znI [] 0 (bodyOf Try.f45) = some (zt, 2) := by kernel_rfl
def zS : List (Nat × Option (Nat × Bool)) := [(2, none)]
abbrev zT := (Int) × (Int) × (List Bool) × (List NodY) × (List Bool) × (List WorY) × (List (List (List Int)))
abbrev zbi := (Int) × (Int) × (Int) × (Int) × (List Bool) × (List NodY) × (List Bool) × (List WorY) × (List (List (List Int)))
def zJ (v : zT) : Env × Heap := ([(6, SV.int .i64 v.1), (0, SV.ptr 0 0), (1, SV.ptr 1 0), (3, SV.int .i64 v.2.1)], [Blk.arr Kd.bool v.2.2.1 0, Blk.cells [SV.es KN v.2.2.2.1, SV.es Kd.bool v.2.2.2.2.1, SV.es KW v.2.2.2.2.2.1, SV.es (Kd.list (Kd.list I6)) v.2.2.2.2.2.2] 0 4])
def zbj (v : zbi) : Env × Heap := ([(12, SV.int .i64 v.1), (0, SV.ptr 0 0), (1, SV.ptr 1 0), (4, SV.int .i64 v.2.1), (6, SV.int .i64 v.2.2.1), (3, SV.int .i64 v.2.2.2.1)], [Blk.arr Kd.bool v.2.2.2.2.1 0, Blk.cells [SV.es KN v.2.2.2.2.2.1, SV.es Kd.bool v.2.2.2.2.2.2.1, SV.es KW v.2.2.2.2.2.2.2.1, SV.es (Kd.list (Kd.list I6)) v.2.2.2.2.2.2.2.2] 0 4])
def zbk (fuel : Nat) (g0 : zT → zl) (g1 : zbi → zl) (v : zbi) : zl :=
 cond (decide (v.1 < (5 : Int)))
 (tst (decide (0 ≤ v.1)) <|
 tst (decide (v.1 < (zz 5))) <|
 tst (decide (Int.toNat v.1 < List.length v.2.2.2.2.1)) <|
 cond (List.getD v.2.2.2.2.1 (Int.toNat v.1) false)
 (tst (decide (0 ≤ w64 (w64 (v.1 * (5 : Int)) + v.2.1))) <|
 tst (decide (w64 (w64 (v.1 * (5 : Int)) + v.2.1) < (zz (List.length v.2.2.2.2.2.2.1)))) <|
 cond (List.getD v.2.2.2.2.2.2.1 (Int.toNat (w64 (w64 (v.1 * (5 : Int)) + v.2.1))) false)
 (some (((v.2.2.2.2.1, v.2.2.2.2.2.1, v.2.2.2.2.2.2.1, v.2.2.2.2.2.2.2.1, v.2.2.2.2.2.2.2.2, ()), v.2.1)))
 (g1 (w64 (v.1 + (1 : Int)), v.2.1, v.2.2.1, v.2.2.2.1, v.2.2.2.2.1, v.2.2.2.2.2.1, v.2.2.2.2.2.2.1, v.2.2.2.2.2.2.2.1, v.2.2.2.2.2.2.2.2)))
 (g1 (w64 (v.1 + (1 : Int)), v.2.1, v.2.2.1, v.2.2.2.1, v.2.2.2.2.1, v.2.2.2.2.2.1, v.2.2.2.2.2.2.1, v.2.2.2.2.2.2.2.1, v.2.2.2.2.2.2.2.2)))
 (g0 (w64 (v.2.2.1 + (1 : Int)), v.2.2.2.1, v.2.2.2.2.1, v.2.2.2.2.2.1, v.2.2.2.2.2.2.1, v.2.2.2.2.2.2.2.1, v.2.2.2.2.2.2.2.2))
def zbl (fuel : Nat) (g0 : zT → zl) (g1 : zbi → zl) : zbi → zl := zbk fuel g0 g1
theorem zum (fuel : Nat) (G) : zt.lp (zB fuel) 2 fuel G (endV zS zv zw) 1 zbj = iter (zbl fuel (fun v => G 0 (zJ v).1 (zJ v).2)) fuel := C.lp_iter fun g v =>
  (show run (zB fuel) 2 fuel (zt.bdAt 1) (zbj v).1 (zbj v).2 (loopK 2 (zt.nmAt 1) g (zt.contAt (zB fuel) 2 fuel G 0 1 (endV zS zv zw))) = zbk fuel (fun v => G 0 (zJ v).1 (zJ v).2) (fun v => g (zbj v).1 (zbj v).2) v by kernel_rfl)
def zbm (fuel : Nat) (X1 : zbi → zl) (g0 : zT → zl) (v : zT) : zl :=
 cond (decide (v.1 < (5 : Int)))
 (tst (decide (0 ≤ v.1)) <|
 tst (decide (v.1 < (zz 5))) <|
 tst (decide (Int.toNat v.1 < List.length v.2.2.1)) <|
 cond (List.getD v.2.2.1 (Int.toNat v.1) false)
 (g0 (w64 (v.1 + (1 : Int)), v.2.1, v.2.2.1, v.2.2.2.1, v.2.2.2.2.1, v.2.2.2.2.2.1, v.2.2.2.2.2.2))
 (X1 ((0 : Int), v.1, v.1, v.2.1, v.2.2.1, v.2.2.2.1, v.2.2.2.2.1, v.2.2.2.2.2.1, v.2.2.2.2.2.2)))
 (some (((v.2.2.1, v.2.2.2.1, v.2.2.2.2.1, v.2.2.2.2.2.1, v.2.2.2.2.2.2, ()), v.2.1)))
def zfN (fuel : Nat) (g0 : zT → zl) : zT → zl := zbm fuel (iter (zbl fuel g0) fuel) g0
theorem zun (fuel : Nat) (G) : zt.lp (zB fuel) 2 fuel G (endV zS zv zw) 0 zJ = iter (zfN fuel) fuel := C.lp_iter fun g v =>
  (show run (zB fuel) 2 fuel (zt.bdAt 0) (zJ v).1 (zJ v).2 (loopK 2 (zt.nmAt 0) g (zt.contAt (zB fuel) 2 fuel G 0 0 (endV zS zv zw))) = zbm fuel (zt.lp (zB fuel) 2 fuel (fun m => bif Nat.beq m 0 then g else G m) (endV zS zv zw) 1 zbj) (fun v => g (zJ v).1 (zJ v).2) v by kernel_rfl).trans (by rw [zum]; rfl)
def znJ (fuel : Nat) (X0 : zT → zl) (d0 : List Bool) (e0 : List NodY) (e1 : List Bool) (e2 : List WorY) (e3 : List (List (List Int))) : zl :=
 X0 ((0 : Int), (-1 : Int), d0, e0, e1, e2, e3)
def zdO (fuel : Nat) (z : (List Bool) × NetY) : zl := znJ fuel (iter (zfN fuel) fuel) z.1 z.2.1 z.2.2.1 z.2.2.2.1 z.2.2.2.2.1
theorem zuo (fuel : Nat) (d : Rf.T zv) (e : Rf.T zw) : run (zB fuel) 2 fuel zt [(0, .ptr 0 0), (1, .ptr 1 0)] [zv.blk d, zw.blk e] (endV zS zv zw) = zdO fuel (d, e) :=
  (show run (zB fuel) 2 fuel zt [(0, .ptr 0 0), (1, .ptr 1 0)] [zv.blk d, zw.blk e] (endV zS zv zw) = znJ fuel (zt.lp (zB fuel) 2 fuel (fun _ _ _ => none) (endV zS zv zw) 0 zJ) d e.1 e.2.1 e.2.2.1 e.2.2.2.1 by kernel_rfl).trans (by rw [zun]; rfl)
def znK (fuel : Nat) : TV := ⟨zv, zw, zdO fuel⟩
theorem zup (fuel : Nat) : FnSpecV Try.prog 45 (znK fuel) :=
  zvR (T := zB fuel) (c := bodyOf Try.f45) (fn := Try.f45) (TabOK.of (entNil) (methNil)) mixed (by kernel_rfl) (by kernel_rfl) zul (by kernel_rfl) (Nat.le_of_ble_eq_true (by kernel_rfl)) (rv := zS) (by kernel_rfl) (zuo fuel)
noncomputable def znL (fuel : Nat) : IE := teIE (znK fuel).te
theorem zuq (fuel : Nat) : ISound Try.prog 45 (znL fuel) := teIE_of (zvQ (zup fuel)) (isFn (fn := Try.f45) (by kernel_rfl) (by kernel_rfl) (by kernel_rfl))
abbrev zx := Option (((List Int) × Unit) × Unit)
noncomputable def zU (fuel : Nat) : Tab := Tab.ofI [] [] [(45, znL fuel)]
abbrev zfO : List Pm := [{ cs := [(Kd.list KN, false), (Kd.list Kd.bool, false), (Kd.list KW, false), (Kd.list (Kd.list (Kd.list I6)), false)], ag := true }]
abbrev z9 : List Pm := [{ cs := [(Kd.list I6, true)], ag := false }]
def znM : List Norm := [{ live := [5, 3, 4], fix := [] }, { live := [22, 3, 6], fix := [(6, none, I6, true)] }]
noncomputable def zK : C := irOf Try.prog Try.f16 [] znM []
theorem zur : lightC Try.prog [] Try.f16.ntmps znM [] 0 (bodyOf Try.f16) = some (zK, 2) := by kernel_rfl
def zaa : List (Nat × Option (Nat × Bool)) := [(2, none)]
abbrev zbn := (Int) × (List Bool) × (List NodY) × (List Bool) × (List WorY) × (List (List (List Int)))
abbrev zbo := (Int) × (List Bool) × (List Int)
def zbp (v : zbn) : Env × Heap := ([(5, SV.int .i64 v.1), (3, SV.ptr 0 0), (4, SV.fn (Fn.func 45) [] [SV.ptr 0 0, SV.ptr 1 0])], [Blk.arr Kd.bool v.2.1 0, Blk.cells [SV.es KN v.2.2.1, SV.es Kd.bool v.2.2.2.1, SV.es KW v.2.2.2.2.1, SV.es (Kd.list (Kd.list I6)) v.2.2.2.2.2] 0 4])
def znN (v : zbo) : Env × Heap := ([(22, SV.int .i64 v.1), (3, SV.ptr 0 0), (6, SV.own 1)], [Blk.arr Kd.bool v.2.1 0, Blk.arr I6 v.2.2 0])
def zdP (fuel : Nat) (g1 : zbo → zx) (v : zbo) : zx :=
 cond (decide (v.1 < (5 : Int)))
 (tst (decide (0 ≤ v.1)) <|
 tst (decide (v.1 < (zz 5))) <|
 tst (decide (Int.toNat v.1 < List.length v.2.1)) <|
 cond (List.getD v.2.1 (Int.toNat v.1) false)
 (tst (decide (List.length v.2.2 + 1 < LIM)) <|
 g1 (w64 (v.1 + (1 : Int)), v.2.1, v.2.2 ++ [v.1]))
 (g1 (w64 (v.1 + (1 : Int)), v.2.1, v.2.2)))
 (some (((v.2.2, ()), ())))
def zfP (fuel : Nat) (g1 : zbo → zx) : zbo → zx := zdP fuel g1
theorem zus (fuel : Nat) (G) : zK.lp (zU fuel) 0 fuel G (endF zaa z9) 1 znN = iter (zfP fuel) fuel := C.lp_iter fun g v => by kernel_rfl
def zfQ (fuel : Nat) (X1 : zbo → zx) (g0 : zbn → zx) (v : zbn) : zx :=
 cond (decide (v.1 ≥ (0 : Int)))
 (tst (decide (0 ≤ v.1)) <|
 tst (decide (v.1 < (zz 5))) <|
 tst (decide (Int.toNat v.1 < List.length v.2.1)) <|
 Option.bind (zdO fuel (List.set v.2.1 (Int.toNat v.1) true, v.2.2.1, v.2.2.2.1, v.2.2.2.2.1, v.2.2.2.2.2, ())) fun y_2 =>
 g0 (y_2.2, y_2.1.1, y_2.1.2.1, y_2.1.2.2.1, y_2.1.2.2.2.1, y_2.1.2.2.2.2.1))
 (X1 ((0 : Int), v.2.1, []))
def zfR (fuel : Nat) (g0 : zbn → zx) : zbn → zx := zfQ fuel (iter (zfP fuel) fuel) g0
theorem zut (fuel : Nat) (G) : zK.lp (zU fuel) 0 fuel G (endF zaa z9) 0 zbp = iter (zfR fuel) fuel := C.lp_iter fun g v =>
  (show run (zU fuel) 0 fuel (zK.bdAt 0) (zbp v).1 (zbp v).2 (loopK 0 (zK.nmAt 0) g (zK.contAt (zU fuel) 0 fuel G 0 0 (endF zaa z9))) = zfQ fuel (zK.lp (zU fuel) 0 fuel (fun m => bif Nat.beq m 0 then g else G m) (endF zaa z9) 1 znN) (fun v => g (zbp v).1 (zbp v).2) v by kernel_rfl).trans (by rw [zus]; rfl)
def zfS (fuel : Nat) (X0 : zbn → zx) (x0 : List NodY) (x1 : List Bool) (x2 : List WorY) (x3 : List (List (List Int))) : zx :=
 cond ((zz (List.length x1)) != (25 : Int))
 (some ((([], ()), ())))
 (Option.bind (zdO fuel (List.set (List.replicate 5 false) (Int.toNat (0 : Int)) true, x0, x1, x2, x3, ())) fun y_2 =>
 X0 (y_2.2, y_2.1.1, y_2.1.2.1, y_2.1.2.2.1, y_2.1.2.2.2.1, y_2.1.2.2.2.2.1))
def zdQ (fuel : Nat) (x : (NetY × Unit)) : zx := zfS fuel (iter (zfR fuel) fuel) x.1.1 x.1.2.1 x.1.2.2.1 x.1.2.2.2.1
theorem zuu (fuel : Nat) (x : PsT zfO) : run (zU fuel) 0 fuel zK (env0 (svPs zfO x) 0) [] (endF zaa z9) = zdQ fuel x :=
  (show run (zU fuel) 0 fuel zK (env0 (svPs zfO x) 0) [] (endF zaa z9) = zfS fuel (zK.lp (zU fuel) 0 fuel (fun _ _ _ => none) (endF zaa z9) 0 zbp) x.1.1 x.1.2.1 x.1.2.2.1 x.1.2.2.2.1 by kernel_rfl).trans (by rw [zut]; rfl)
def ziK (fuel : Nat) : TF := ⟨zfO, z9, true, zdQ fuel⟩
theorem zuv (fuel : Nat) : FnSpec Try.prog 16 (ziK fuel) :=
  fn_spec (T := zU fuel) (c := bodyOf Try.f16) (fn := Try.f16) (TabOK.ofI (entNil) (methNil) (inlCons (zuq fuel) (inlNil))) mixed (by kernel_rfl) (by kernel_rfl) zur (by kernel_rfl) (Nat.le_of_ble_eq_true (by kernel_rfl)) (rv := zaa) (by kernel_rfl) (zuu fuel)
theorem zuw (fuel : Nat) : EntryOK Try.prog 16 (ziK fuel).te := EntryOK.tf rfl (zuv fuel) (isFn (fn := Try.f16) (by kernel_rfl) (by kernel_rfl) (by kernel_rfl))
def zdR (fuel : Nat) : Tab := Tab.of [] []
abbrev zfT : List Pm := [{ cs := [(Kd.list I6, false)], ag := false }, { cs := [(I6, false)], ag := false }]
abbrev zdS : List Pm := [{ cs := [(I6, false)], ag := false }]
def znO : List Norm := [{ live := [5, 0, 1], fix := [] }]
noncomputable def zdT : C := irOf Try.prog Try.f17 [] znO []
theorem zux : lightC Try.prog [] Try.f17.ntmps znO [] 0 (bodyOf Try.f17) = some (zdT, 1) := by kernel_rfl
def zdU : List (Nat × Option (Nat × Bool)) := [(4, none)]
abbrev zbq := (Int) × (List Int) × (Int)
def znP (v : zbq) : Env × Heap := ([(5, SV.int .i64 v.1), (0, SV.es I6 v.2.1), (1, SV.int .i64 v.2.2)], [])
def zdV (fuel : Nat) (g0 : zbq → Option ((Int × Unit) × Unit)) (v : zbq) : Option ((Int × Unit) × Unit) :=
 cond (decide (v.1 < (zz (List.length v.2.1))))
 (tst (decide (0 ≤ v.1)) <|
 tst (decide (v.1 < (zz (List.length v.2.1)))) <|
 cond (List.getD v.2.1 (Int.toNat v.1) 0 != v.2.2)
 (some ((((-1 : Int), ()), ())))
 (g0 (w64 (v.1 + (1 : Int)), v.2.1, w64 (v.2.2 + (1 : Int)))))
 (some (((v.2.2, ()), ())))
def ziL (fuel : Nat) (g0 : zbq → Option ((Int × Unit) × Unit)) : zbq → Option ((Int × Unit) × Unit) := zdV fuel g0
theorem zuy (fuel : Nat) (G) : zdT.lp (zdR fuel) 0 fuel G (endF zdU zdS) 0 znP = iter (ziL fuel) fuel := C.lp_iter fun g v => by kernel_rfl
def znQ (fuel : Nat) (X0 : zbq → Option ((Int × Unit) × Unit)) (x0 : List Int) (x1 : Int) : Option ((Int × Unit) × Unit) :=
 X0 ((0 : Int), x0, x1)
def zdW (fuel : Nat) (x : (((List Int) × Unit) × ((Int × Unit) × Unit))) : Option ((Int × Unit) × Unit) := znQ fuel (iter (ziL fuel) fuel) x.1.1 x.2.1.1
theorem zuz (fuel : Nat) (x : PsT zfT) : run (zdR fuel) 0 fuel zdT (env0 (svPs zfT x) 0) [] (endF zdU zdS) = zdW fuel x :=
  (show run (zdR fuel) 0 fuel zdT (env0 (svPs zfT x) 0) [] (endF zdU zdS) = znQ fuel (zdT.lp (zdR fuel) 0 fuel (fun _ _ _ => none) (endF zdU zdS) 0 znP) x.1.1 x.2.1.1 by kernel_rfl).trans (by rw [zuy]; rfl)
def ziM (fuel : Nat) : TF := ⟨zfT, zdS, true, zdW fuel⟩
theorem zuA (fuel : Nat) : FnSpec Try.prog 17 (ziM fuel) :=
  fn_spec (T := zdR fuel) (c := bodyOf Try.f17) (fn := Try.f17) (TabOK.of (entNil) (methNil)) mixed (by kernel_rfl) (by kernel_rfl) zux (by kernel_rfl) (Nat.le_of_ble_eq_true (by kernel_rfl)) (rv := zdU) (by kernel_rfl) (zuz fuel)
theorem zuB (fuel : Nat) : EntryOK Try.prog 17 (ziM fuel).te := EntryOK.tf rfl (zuA fuel) (isFn (fn := Try.f17) (by kernel_rfl) (by kernel_rfl) (by kernel_rfl))
end Go.Proofs.Ytmkekjmckdkcnaa.Den
namespace Go.Proofs.Ytmkekjmckdkcnaa.Den
open Go Go.RowKit
def znR (fuel : Nat) : Tab := Tab.of [(8, (zh0 fuel).te), (9, (zcv fuel).te), (10, (zb2 fuel).te), (11, (zhm fuel).te), (13, (ziC fuel).te), (14, (ziF fuel).te), (15, (ziJ fuel).te), (16, (ziK fuel).te), (17, (ziM fuel).te)] []
abbrev zfU : List Pm := [{ cs := [(Kd.list KN, false), (Kd.list Kd.bool, false), (Kd.list KW, false), (Kd.list (Kd.list (Kd.list I6)), false)], ag := true }]
abbrev znS : List Pm := [{ cs := [(Kd.bool, false)], ag := false }]
def znT : List Norm := []
noncomputable def znU : C := irOf Try.prog Try.f4 [] znT []
theorem zuC : lightC Try.prog [] Try.f4.ntmps znT [] 0 (bodyOf Try.f4) = some (znU, 0) := by kernel_rfl
def znV : List (Nat × Option (Nat × Bool)) := [(2, none)]
def ziN (fuel : Nat) (x0 : List NodY) (x1 : List Bool) (x2 : List WorY) (x3 : List (List (List Int))) : Option ((Bool × Unit) × Unit) :=
 Option.bind (zfE fuel ((x0, x1, x2, x3, ()), ((1048576 : Int), ()), ())) fun y_1 =>
 cond (decide (y_1.1.1 < (0 : Int)))
 (some (((true, ()), ())))
 (Option.bind (zaw fuel ((x0, x1, x2, x3, ()), ())) fun y_3 =>
 Option.bind (zfI fuel ((y_3.1, y_3.2.1, y_3.2.2.1, y_3.2.2.2.1, ()), ())) fun y_4 =>
 Option.bind (zaw fuel ((x0, x1, x2, x3, ()), ())) fun y_5 =>
 Option.bind (zdQ fuel ((y_5.1, y_5.2.1, y_5.2.2.1, y_5.2.2.2.1, ()), ())) fun y_6 =>
 Option.bind (zP fuel ((y_6.1.1, ()), (y_4.1.1, ()), ())) fun y_7 =>
 cond (!y_7.1.1)
 (some (((false, ()), ())))
 (Option.bind (zaw fuel ((x0, x1, x2, x3, ()), ())) fun y_9 =>
 Option.bind (zfo fuel ((y_5.1, y_5.2.1, y_5.2.2.1, y_5.2.2.2.1, ()), (y_9.1, y_9.2.1, y_9.2.2.1, y_9.2.2.2.1, ()), ())) fun y_10 =>
 cond (!y_10.1.1)
 (some (((false, ()), ())))
 (Option.bind (zaQ fuel ((y_5.1, y_5.2.1, y_5.2.2.1, y_5.2.2.2.1, ()), (1 : Int))) fun y_12 =>
 cond (decide (y_12.2 < (0 : Int)))
 (some (((false, ()), ())))
 (Option.bind (zP fuel ((y_6.1.1, ()), (y_4.1.1, ()), ())) fun y_14 =>
 cond (!y_14.1.1)
 (some (((false, ()), ())))
 (Option.bind (zaM fuel (y_6.1.1, (1 : Int))) fun y_16 =>
 Option.bind (zdW fuel ((y_16.1, ()), ((1 : Int), ()), ())) fun y_17 =>
 cond (decide (y_17.1.1 < (0 : Int)))
 (some (((false, ()), ())))
 (cond (y_17.1.1 != y_16.2)
 (some (((false, ()), ())))
 (Option.bind (zaw fuel ((x0, x1, x2, x3, ()), ())) fun y_20 =>
 Option.bind (zdQ fuel ((y_20.1, y_20.2.1, y_20.2.2.1, y_20.2.2.2.1, ()), ())) fun y_21 =>
 Option.bind (zP fuel ((y_21.1.1, ()), (y_4.1.1, ()), ())) fun y_22 =>
 cond (!y_22.1.1)
 (some (((false, ()), ())))
 (Option.bind (zdW fuel ((y_16.1, ()), ((1 : Int), ()), ())) fun y_24 =>
 cond (decide (y_24.1.1 < (0 : Int)))
 (some (((false, ()), ())))
 (cond (y_24.1.1 != y_16.2)
 (some (((false, ()), ())))
 (some (((true, ()), ()))))))))))))
def zfV (fuel : Nat) (x : (NetY × Unit)) : Option ((Bool × Unit) × Unit) := ziN fuel x.1.1 x.1.2.1 x.1.2.2.1 x.1.2.2.2.1
theorem zuD (fuel : Nat) (x : PsT zfU) : run (znR fuel) 0 fuel znU (env0 (svPs zfU x) 0) [] (endF znV znS) = zfV fuel x := by kernel_rfl
def zuE (fuel : Nat) : TF := ⟨zfU, znS, true, zfV fuel⟩
theorem zuF (fuel : Nat) : FnSpec Try.prog 4 (zuE fuel) :=
  fn_spec (T := znR fuel) (c := bodyOf Try.f4) (fn := Try.f4) (TabOK.of (entCons (zsz fuel) (entCons (zhn fuel) (entCons (zgZ fuel) (entCons (zrb fuel) (entCons (ztY fuel) (entCons (zub fuel) (entCons (zuk fuel) (entCons (zuw fuel) (entCons (zuB fuel) entNil))))))))) (methNil)) mixed (by kernel_rfl) (by kernel_rfl) zuC (by kernel_rfl) (Nat.le_of_ble_eq_true (by kernel_rfl)) (rv := znV) (by kernel_rfl) (zuD fuel)
end Go.Proofs.Ytmkekjmckdkcnaa.Den
namespace Go.Proofs.Ytmkekjmckdkcnaa.Den
open Go
theorem lim_of {n : Nat} (h : n ≤ 1048576) : n < LIM := by unfold LIM; omega
def szK : (K : Kd) → K.T → Nat
  | .int _, _ => 0
  | .bool, _ => 0
  | .unit, _ => 0
  | .pair a b, x => szK a x.1 + szK b x.2
  | .list e, xs => xs.length + (xs.map (szK e)).sum
theorem zgp : ∀ {K : Kd} {x : K.T}, K.noList = true → szK K x = 0
  | .int _, _, _ => rfl
  | .bool, _, _ => rfl
  | .unit, _, _ => rfl
  | .pair a b, x, h => by
    simp only [Kd.noList, Bool.and_eq_true] at h
    simp [szK, zgp h.1, zgp h.2]
theorem zo1 {e : Kd} (h : e.noList = true) : ∀ (xs : List e.T), szK (.list e) xs = xs.length
  | [] => rfl
  | x :: xs => by
    have := zo1 h xs
    simp only [szK, List.map_cons, List.sum_cons, List.length_cons, zgp h] at this ⊢
    omega
theorem sum_mem {α : Type} {f : α → Nat} : ∀ {xs : List α} {x : α}, x ∈ xs → f x ≤ (xs.map f).sum
  | y :: xs, x, h => by
    simp only [List.map_cons, List.sum_cons]
    rcases List.mem_cons.1 h with rfl | h
    · omega
    · have := sum_mem (f := f) h; omega
theorem szK_mem {e : Kd} {xs : List e.T} {x : e.T} (h : x ∈ xs) : szK e x + xs.length ≤ szK (.list e) xs := by
  have := sum_mem (f := szK e) h
  simp only [szK]; omega
theorem szK_len {e : Kd} {xs : List e.T} : xs.length ≤ szK (.list e) xs := by simp only [szK]; omega
abbrev IU := Option ((Int × Unit) × Unit)
def szR (n : Nat) (left : Int) : Int := if (n : Int) ≤ left then left - n else -1
theorem szR_yes {n : Nat} {left : Int} (h : (n : Int) ≤ left) : szR n left = left - n := if_pos h
theorem szR_no {n : Nat} {left : Int} (h : ¬ (n : Int) ≤ left) : szR n left = -1 := if_neg h
theorem szBind {F : IU} {G : ((Int × Unit) × Unit) → IU} {n m : Nat} {left : Int} (hF : F = some ((szR n left, ()), ())) (k : 0 ≤ left - n → G ((left - n, ()), ()) = some ((szR m (left - n), ()), ())) :
    (F.bind fun y => cond (decide (y.1.1 < (0 : Int))) (some (((-1 : Int), ()), ())) (G y)) = some ((szR (n + m) left, ()), ()) := by
  rw [hF, Option.bind_some]
  by_cases h : (n : Int) ≤ left
  · rw [szR_yes h, decide_eq_false (by simp; omega), cond_false, k (by omega)]
    by_cases h2 : (m : Int) ≤ left - n
    · rw [szR_yes h2, szR_yes (by omega)]
      have : left - n - m = left - ((n + m : Nat) : Int) := by omega
      rw [this]
    · rw [szR_no h2, szR_no (by omega)]
  · rw [szR_no h, decide_eq_true (by decide), cond_true, szR_no (by omega)]
theorem szEnd {left : Int} (h : 0 ≤ left) : (some ((left, ()), ()) : IU) = some ((szR 0 left, ()), ()) := by rw [szR_yes (by omega)]; simp
theorem szHead {G : IU} {n m : Nat} {left : Int} (h0 : 0 ≤ left) (h1 : left ≤ 1048576) (hn : n ≤ maxLen) (k : 0 ≤ left - n → G = some ((szR m (left - n), ()), ())) :
    cond (decide (w64 (left - zz n) < (0 : Int))) (some (((-1 : Int), ()), ())) G = some ((szR (n + m) left, ()), ()) := by
  have hm : maxLen = 9223372036854775807 := rfl
  have e : w64 (left - zz n) = left - n := by rw [zz_eq, w64_id] <;> omega
  rw [e]
  by_cases h : (n : Int) ≤ left
  · rw [decide_eq_false (by omega), cond_false, k (by omega)]
    by_cases h2 : (m : Int) ≤ left - n
    · rw [szR_yes h2, szR_yes (by omega)]
      have : left - n - m = left - ((n + m : Nat) : Int) := by omega
      rw [this]
    · rw [szR_no h2, szR_no (by omega)]
  · rw [decide_eq_true (by omega), cond_true, szR_no (by omega)]
theorem szLeaf {e : Kd} (he : e.noList = true) {xs : List e.T} {left : Int} (h0 : 0 ≤ left) (h1 : left ≤ 1048576) (hn : xs.length ≤ maxLen) :
    cond (decide (w64 (left - zz xs.length) < (0 : Int))) (some (((-1 : Int), ()), ())) (some ((w64 (left - zz xs.length), ()), ()) : IU) = some ((szR (szK (.list e) xs) left, ()), ()) := by
  have hm : maxLen = 9223372036854775807 := rfl
  have e1 : w64 (left - zz xs.length) = left - xs.length := by rw [zz_eq, w64_id] <;> omega
  have h := szHead (G := (some ((w64 (left - zz xs.length), ()), ()) : IU)) (m := 0) h0 h1 hn fun h => by rw [e1]; exact szEnd h
  rw [zo1 he]
  exact h
theorem szLoop {e : Kd} {F : e.T → Int → IU} {st : (Int × List e.T × Int → IU) → Int × List e.T × Int → IU} {xs : List e.T} (d : e.T)
    (hs : ∀ (i : Nat) (left : Int) g, i < xs.length → st g ((i : Int), xs, left) = (F (xs.getD i d) left).bind fun y => cond (decide (y.1.1 < (0 : Int))) (some (((-1 : Int), ()), ())) (g (w64 ((i : Int) + 1), xs, y.1.1)))
    (he : ∀ (left : Int) g, st g ((xs.length : Int), xs, left) = some ((left, ()), ())) (hF : ∀ x ∈ xs, ∀ left : Int, 0 ≤ left → left ≤ 1048576 → F x left = some ((szR (szK e x) left, ()), ()))
    {left : Int} {fuel : Nat} (h0 : 0 ≤ left) (h1 : left ≤ 1048576) (hl : xs.length ≤ 1048576) (hf : xs.length < fuel) : iter st fuel ((0 : Int), xs, left) = some ((szR ((xs.map (szK e)).sum) left, ()), ()) := by
  have h := zvM (st := st) (enc := fun i (left : Int) => ((i : Int), xs, left)) (fun x (k : Int → IU) left => (F x left).bind fun y => cond (decide (y.1.1 < (0 : Int))) (some (((-1 : Int), ()), ())) (k y.1.1)) (fun left => some ((left, ()), ())) xs d
    (fun i left g hi => by rw [hs i left g hi, w64_up (by omega)]) (fun left g => he left g) fuel left hf
  refine h.trans ?_
  clear h hs he hf hl
  induction xs generalizing left with
  | nil => exact szEnd h0
  | cons x xs ih =>
    show ((F x left).bind fun y => cond (decide (y.1.1 < (0 : Int))) (some (((-1 : Int), ()), ())) (goL _ _ xs y.1.1)) = _
    rw [List.map_cons, List.sum_cons]
    exact szBind (G := fun y => goL _ _ xs y.1.1) (hF x (by simp) left h0 h1) fun h => ih (fun y hy => hF y (by simp [hy])) h (by show left - _ ≤ _; omega)
theorem szSlice {e : Kd} {F : e.T → Int → IU} {st : (Int × List e.T × Int → IU) → Int × List e.T × Int → IU} {xs : List e.T} (d : e.T)
    (hs : ∀ (i : Nat) (left : Int) g, i < xs.length → st g ((i : Int), xs, left) = (F (xs.getD i d) left).bind fun y => cond (decide (y.1.1 < (0 : Int))) (some (((-1 : Int), ()), ())) (g (w64 ((i : Int) + 1), xs, y.1.1)))
    (he : ∀ (left : Int) g, st g ((xs.length : Int), xs, left) = some ((left, ()), ())) (hF : ∀ x ∈ xs, ∀ left : Int, 0 ≤ left → left ≤ 1048576 → F x left = some ((szR (szK e x) left, ()), ()))
    {left : Int} {fuel : Nat} (h0 : 0 ≤ left) (h1 : left ≤ 1048576) (hl : xs.length ≤ maxLen) (hf : 1048576 < fuel) :
    cond (decide (w64 (left - zz xs.length) < (0 : Int))) (some (((-1 : Int), ()), ())) (iter st fuel ((0 : Int), xs, w64 (left - zz xs.length))) = some ((szR (szK (.list e) xs) left, ()), ()) := by
  refine szHead h0 h1 hl fun h => ?_
  have e1 : w64 (left - zz xs.length) = left - xs.length := by rw [zz_eq, w64_id] <;> omega
  rw [e1]
  exact szLoop d hs he hF h (by omega) (by omega) (by omega)
theorem mapO_id {α : Type} {g : α → Option α} : ∀ {xs : List α}, (∀ x ∈ xs, g x = some x) → mapO g xs = some xs
  | [], _ => rfl
  | x :: xs, h => by
    rw [mapO, h x (by simp), Option.bind_some, mapO_id fun y hy => h y (by simp [hy])]
    rfl
def markK : (K : Kd) → K.T → Int → K.T × Int
  | .int _, _, k => (k, k + 1)
  | .bool, _, k => (k.tmod 3 == 0, k + 1)
  | .unit, _, k => ((), k)
  | .pair a b, x, k => (((markK a x.1 k).1, (markK b x.2 (markK a x.1 k).2).1), (markK b x.2 (markK a x.1 k).2).2)
  | .list e, xs, k => xs.foldl (fun (p : List e.T × Int) x => (p.1 ++ [(markK e x p.2).1], (markK e x p.2).2)) ([], k)
def flK : Kd → Nat
  | .int _ => 1
  | .bool => 1
  | .unit => 0
  | .pair a b => flK a + flK b
  | .list _ => 0
def wdK : Kd → Nat
  | .pair a b => max (wdK a) (wdK b)
  | .list e => max (flK e) (wdK e)
  | _ => 0
theorem zjA {e : Kd} : ∀ (xs : List e.T) (p : List e.T) (k : Int), xs.foldl (fun (p : List e.T × Int) x => (p.1 ++ [(markK e x p.2).1], (markK e x p.2).2)) (p, k) =
    (p ++ (markK (.list e) xs k).1, (markK (.list e) xs k).2)
  | [], p, k => by simp [markK]
  | x :: xs, p, k => by
    have e : markK (.list e) (x :: xs) k = (x :: xs).foldl (fun (p : List e.T × Int) x => (p.1 ++ [(markK e x p.2).1], (markK e x p.2).2)) ([], k) := rfl
    rw [e, List.foldl_cons, List.foldl_cons, zjA xs, zjA xs]
    simp
theorem zo2 {e : Kd} {k : Int} : markK (.list e) ([] : List e.T) k = ([], k) := rfl
theorem zec {e : Kd} {x : e.T} {xs : List e.T} {k : Int} : markK (.list e) (x :: xs) k = ((markK e x k).1 :: (markK (.list e) xs (markK e x k).2).1, (markK (.list e) xs (markK e x k).2).2) := by
  rw [markK, List.foldl_cons, zjA]; rfl
theorem zo3 {e : Kd} : ∀ {xs : List e.T} {k : Int}, (markK (.list e) xs k).1.length = xs.length
  | [], k => rfl
  | x :: xs, k => by rw [zec]; simp [zo3]
theorem wd_le {e : Kd} {w : Nat} (h : wdK (.list e) ≤ w) : flK e ≤ w ∧ wdK e ≤ w := by simp only [wdK] at h; omega
theorem zn : ∀ {K : Kd} {x : K.T} {k : Int} (w : Nat), wdK K ≤ w → k ≤ (markK K x k).2 ∧ (markK K x k).2 ≤ k + flK K + ((w * szK K x : Nat) : Int)
  | .int _, x, k, w, _ => by simp only [markK, flK, szK]; omega
  | .bool, x, k, w, _ => by simp only [markK, flK, szK]; omega
  | .unit, x, k, w, _ => by simp only [markK, flK, szK]; omega
  | .pair a b, x, k, w, h => by
    simp only [wdK] at h
    have h1 := zn (K := a) (x := x.1) (k := k) w (by omega)
    have h2 := zn (K := b) (x := x.2) (k := (markK a x.1 k).2) w (by omega)
    simp only [markK, flK, szK]
    rw [Nat.mul_add]
    omega
  | .list e, xs, k, w, h => by
    obtain ⟨h1, h2⟩ := wd_le h
    have : ∀ (xs : List e.T) (k : Int), k ≤ (markK (.list e) xs k).2 ∧ (markK (.list e) xs k).2 ≤ k + ((w * szK (.list e) xs : Nat) : Int) := by
      intro xs
      induction xs with
      | nil => intro k; rw [zo2]; simp [szK]
      | cons x xs ih =>
        intro k
        rw [zec]
        have h3 := zn (K := e) (x := x) (k := k) w h2
        have h4 := ih (markK e x k).2
        simp only [szK, List.map_cons, List.sum_cons, List.length_cons] at h4 ⊢
        have e1 : w * (xs.length + 1 + (szK e x + (xs.map (szK e)).sum)) = w * (xs.length + (xs.map (szK e)).sum) + w * szK e x + w := by simp only [Nat.mul_add]; omega
        omega
    simpa [flK] using this xs k
theorem zbF {e : Kd} {g : e.T → Int → Option (e.T × Int)} {w B : Nat} : ∀ {xs : List e.T} {k : Int}, wdK (.list e) ≤ w → (∀ x ∈ xs, ∀ k : Int, 0 ≤ k → k + flK e + ((w * szK e x : Nat) : Int) ≤ B → g x k = some (markK e x k)) → 0 ≤ k → k + ((w * szK (.list e) xs : Nat) : Int) ≤ B → markO g xs k = some (markK (.list e) xs k)
  | [], k, _, _, _, _ => rfl
  | x :: xs, k, hw, hg, h0, h1 => by
    obtain ⟨h2, h3⟩ := wd_le hw
    have h4 := zn (K := e) (x := x) (k := k) w h3
    simp only [szK, List.map_cons, List.sum_cons, List.length_cons] at h1
    have e1 : w * (xs.length + 1 + (szK e x + (xs.map (szK e)).sum)) = w * (xs.length + (xs.map (szK e)).sum) + w * szK e x + w := by simp only [Nat.mul_add]; omega
    rw [markO, hg x (by simp) k h0 (by omega), Option.bind_some, zbF hw (fun y hy => hg y (by simp [hy])) (by omega) (by simp only [szK]; omega), zec]
    rfl
end Go.Proofs.Ytmkekjmckdkcnaa.Den
namespace Go.Proofs.Ytmkekjmckdkcnaa.Den
open Go
theorem getD_in {α : Type} {xs : List α} {i : Nat} (h : i < xs.length) (d : α) : xs.getD i d ∈ xs := by
  rw [List.getD_eq_getElem?_getD, List.getElem?_eq_getElem h]; exact List.getElem_mem h
theorem zo4 (f : Nat) (l : List (Kd.T I6)) {left : Int} (h0 : 0 ≤ left) (h1 : left ≤ 1048576) (hl : wfD (.list I6) l) : za1 f ((l, ()), (left, ()), ()) = some ((szR (szK (.list I6) l) left, ()), ()) := szLeaf (e := I6) rfl h0 h1 hl.1
theorem zvV (f : Nat) (l : List (Kd.T KP)) {left : Int} (h0 : 0 ≤ left) (h1 : left ≤ 1048576) (hl : wfD (.list KP) l) : zfs f ((l, ()), (left, ()), ()) = some ((szR (szK (.list KP) l) left, ()), ()) := szLeaf (e := KP) rfl h0 h1 hl.1
theorem zvW (f : Nat) (l : List (Kd.T KP)) {left : Int} (h0 : 0 ≤ left) (h1 : left ≤ 1048576) (hl : wfD (.list KP) l) : zft f ((l, ()), (left, ()), ()) = some ((szR (szK (.list KP) l) left, ()), ()) := szLeaf (e := KP) rfl h0 h1 hl.1
theorem zvX (f : Nat) (l : List (Kd.T .bool)) {left : Int} (h0 : 0 ≤ left) (h1 : left ≤ 1048576) (hl : wfD (.list .bool) l) : zfz f ((l, ()), (left, ()), ()) = some ((szR (szK (.list .bool) l) left, ()), ()) := szLeaf (e := .bool) rfl h0 h1 hl.1
theorem zo5 (f : Nat) (hf : 1048576 < f) (l : List (Kd.T (.list I6))) {left : Int} (h0 : 0 ≤ left) (h1 : left ≤ 1048576) (hl : wfD (.list (.list I6)) l) : za3 f ((l, ()), (left, ()), ()) = some ((szR (szK (.list (.list I6)) l) left, ()), ()) :=
  szSlice (e := (.list I6)) (F := fun x left => za1 f ((x, ()), (left, ()), ())) (st := zh2 f) []
    (fun i left g hi => by
      show zdi f g _ = _
      unfold zdi
      simp only [zz_eq, lt_cast hi, le_cast, decide_true, cond_true, Int.toNat_natCast])
    (fun left g => by
      show zdi f g _ = _
      unfold zdi
      simp only [zz_eq, zf, decide_false, cond_false])
    (fun x hx left h0 h1 => zo4 f x h0 h1 (hl.2 x hx)) h0 h1 hl.1 hf
theorem zvY (f : Nat) (hf : 1048576 < f) (s : Kd.T KS) {left : Int} (h0 : 0 ≤ left) (h1 : left ≤ 1048576) (hl : wfD KS s) : zfu f ((s.1.1, s.2.1.1, s.2.2.1.1, s.2.2.1.2.1, s.2.2.1.2.2.1, s.2.2.2.1.1, s.2.2.2.1.2.1, ()), (left, ()), ()) = some ((szR (szK KS s) left, ()), ()) := by
  obtain ⟨⟨rs, ⟨⟩⟩, ⟨ms, ⟨⟩⟩, ⟨ps, lost, tall, ⟨⟩⟩, ⟨ks, rall, ⟨⟩⟩, ⟨⟩⟩ := s
  obtain ⟨⟨w1, -⟩, ⟨w2, -⟩, ⟨w3, -⟩, ⟨w4, -⟩, -⟩ := hl
  have e : szK KS ((rs, ()), (ms, ()), (ps, lost, tall, ()), (ks, rall, ()), ()) = szK (.list (.list I6)) rs + (szK (.list I6) ms + (szK (.list KP) ps + (szK (.list KP) ks + 0))) := by
    simp only [szK]; omega
  rw [e]
  refine szBind (szBind (m := 0) (zo5 f hf rs h0 h1 w1) fun h => szEnd h) fun h2 => ?_
  have h2 : 0 ≤ left - (szK (.list (.list I6)) rs : Int) := h2
  refine szBind (szBind (m := 0) (zo4 f ms h2 (by show left - _ ≤ _; omega) w2) fun h => szEnd h) fun h3 => ?_
  refine szBind (szBind (m := 0) (zvV f ps h3 (by show left - _ - _ ≤ _; omega) w3) fun h => szEnd h) fun h4 => ?_
  exact szBind (szBind (m := 0) (zvW f ks h4 (by show left - _ - _ - _ ≤ _; omega) w4) fun h => szEnd h) fun h5 => szEnd h5
theorem zvZ (f : Nat) (hf : 1048576 < f) (x : EntY) {left : Int} (h0 : 0 ≤ left) (h1 : left ≤ 1048576) (hl : wfD KE x) : zdj f ((x.1, x.2.1, x.2.2.1, x.2.2.2.1.1.1, x.2.2.2.1.2.1.1, x.2.2.2.1.2.2.1.1, x.2.2.2.1.2.2.1.2.1, x.2.2.2.1.2.2.1.2.2.1, x.2.2.2.1.2.2.2.1.1, x.2.2.2.1.2.2.2.1.2.1, ()), (left, ()), ()) = some ((szR (szK KE x) left, ()), ()) := by
  have e : szK KE x = szK KS x.2.2.2.1 + 0 := by simp only [szK]; omega
  rw [e]
  exact szBind (zvY f hf x.2.2.2.1 h0 h1 hl.2.2.2.1) fun h => szEnd h
theorem zo6 (f : Nat) (hf : 1048576 < f) (l : List (Kd.T KE)) {left : Int} (h0 : 0 ≤ left) (h1 : left ≤ 1048576) (hl : wfD (.list KE) l) : zdp f ((l, ()), (left, ()), ()) = some ((szR (szK (.list KE) l) left, ()), ()) :=
  szSlice (e := KE) (F := fun x left => zdj f ((x.1, x.2.1, x.2.2.1, x.2.2.2.1.1.1, x.2.2.2.1.2.1.1, x.2.2.2.1.2.2.1.1, x.2.2.2.1.2.2.1.2.1, x.2.2.2.1.2.2.1.2.2.1, x.2.2.2.1.2.2.2.1.1, x.2.2.2.1.2.2.2.1.2.1, ()), (left, ()), ())) (st := zin f) dE
    (fun i left g hi => by
      show zdo f g _ = _
      unfold zdo
      simp only [zz_eq, lt_cast hi, le_cast, decide_true, cond_true, Int.toNat_natCast])
    (fun left g => by
      show zdo f g _ = _
      unfold zdo
      simp only [zz_eq, zf, decide_false, cond_false])
    (fun x hx left h0 h1 => zvZ f hf x h0 h1 (hl.2 x hx)) h0 h1 hl.1 hf
theorem zv0 (f : Nat) (hf : 1048576 < f) (x : NodY) {left : Int} (h0 : 0 ≤ left) (h1 : left ≤ 1048576) (hl : wfD KN x) : zdq f ((x.1, x.2.1, x.2.2.1, x.2.2.2.1, x.2.2.2.2.1, ()), (left, ()), ()) = some ((szR (szK KN x) left, ()), ()) := by
  have e : szK KN x = szK (.list KE) x.2.1 + 0 := by simp only [szK]; omega
  rw [e]
  exact szBind (zo6 f hf x.2.1 h0 h1 hl.2.1) fun h => szEnd h
theorem zv1 (f : Nat) (hf : 1048576 < f) (x : WorY) {left : Int} (h0 : 0 ≤ left) (h1 : left ≤ 1048576) (hl : wfD KW x) : zdw f ((x.1, x.2.1, x.2.2.1, x.2.2.2.1, x.2.2.2.2.1, x.2.2.2.2.2.1, ()), (left, ()), ()) = some ((szR (szK KW x) left, ()), ()) := by
  have e : szK KW x = szK (.list KE) x.2.2.2.2.2.1 + 0 := by simp only [szK]; omega
  rw [e]
  exact szBind (zo6 f hf x.2.2.2.2.2.1 h0 h1 hl.2.2.2.2.2.1) fun h => szEnd h
theorem zv2 (f : Nat) (hf : 1048576 < f) (l : List (Kd.T KN)) {left : Int} (h0 : 0 ≤ left) (h1 : left ≤ 1048576) (hl : wfD (.list KN) l) : zfy f ((l, ()), (left, ()), ()) = some ((szR (szK (.list KN) l) left, ()), ()) :=
  szSlice (e := KN) (F := fun x left => zdq f ((x.1, x.2.1, x.2.2.1, x.2.2.2.1, x.2.2.2.2.1, ()), (left, ()), ())) (st := zir f) dN
    (fun i left g hi => by
      show zdv f g _ = _
      unfold zdv
      simp only [zz_eq, lt_cast hi, le_cast, decide_true, cond_true, Int.toNat_natCast])
    (fun left g => by
      show zdv f g _ = _
      unfold zdv
      simp only [zz_eq, zf, decide_false, cond_false])
    (fun x hx left h0 h1 => zv0 f hf x h0 h1 (hl.2 x hx)) h0 h1 hl.1 hf
theorem zv3 (f : Nat) (hf : 1048576 < f) (l : List (Kd.T KW)) {left : Int} (h0 : 0 ≤ left) (h1 : left ≤ 1048576) (hl : wfD (.list KW) l) : zfB f ((l, ()), (left, ()), ()) = some ((szR (szK (.list KW) l) left, ()), ()) :=
  szSlice (e := KW) (F := fun x left => zdw f ((x.1, x.2.1, x.2.2.1, x.2.2.2.1, x.2.2.2.2.1, x.2.2.2.2.2.1, ()), (left, ()), ())) (st := zix f) dW
    (fun i left g hi => by
      show zdB f g _ = _
      unfold zdB
      simp only [zz_eq, lt_cast hi, le_cast, decide_true, cond_true, Int.toNat_natCast])
    (fun left g => by
      show zdB f g _ = _
      unfold zdB
      simp only [zz_eq, zf, decide_false, cond_false])
    (fun x hx left h0 h1 => zv1 f hf x h0 h1 (hl.2 x hx)) h0 h1 hl.1 hf
theorem zv4 (f : Nat) (hf : 1048576 < f) (l : List (Kd.T (.list (.list I6)))) {left : Int} (h0 : 0 ≤ left) (h1 : left ≤ 1048576) (hl : wfD (.list (.list (.list I6))) l) : zfD f ((l, ()), (left, ()), ()) = some ((szR (szK (.list (.list (.list I6))) l) left, ()), ()) :=
  szSlice (e := (.list (.list I6))) (F := fun x left => za3 f ((x, ()), (left, ()), ())) (st := ziz f) []
    (fun i left g hi => by
      show zdG f g _ = _
      unfold zdG
      simp only [zz_eq, lt_cast hi, le_cast, decide_true, cond_true, Int.toNat_natCast])
    (fun left g => by
      show zdG f g _ = _
      unfold zdG
      simp only [zz_eq, zf, decide_false, cond_false])
    (fun x hx left h0 h1 => zo5 f hf x h0 h1 (hl.2 x hx)) h0 h1 hl.1 hf
theorem zv5 (f : Nat) (hf : 1048576 < f) (n : NetY) (hl : wfD KNET n) : zfE f ((n.1, n.2.1, n.2.2.1, n.2.2.2.1, ()), ((1048576 : Int), ()), ()) = some ((szR (szK KNET n) 1048576, ()), ()) := by
  obtain ⟨ns, ls, ws, ps, ⟨⟩⟩ := n
  obtain ⟨w1, w2, w3, w4, -⟩ := hl
  have e : szK KNET (ns, ls, ws, ps, ()) = szK (.list KN) ns + (szK (.list .bool) ls + (szK (.list KW) ws + (szK (.list (.list (.list I6))) ps + 0))) := by simp only [szK]
  rw [e]
  refine szBind (zv2 f hf ns (show (0 : Int) ≤ 1048576 by decide) (show (1048576 : Int) ≤ 1048576 by decide) w1) fun h2 => ?_
  have h2 : 0 ≤ (1048576 : Int) - (szK (.list KN) ns : Int) := h2
  refine szBind (zvX f ls h2 (by show (1048576 : Int) - _ ≤ _; omega) w2) fun h3 => ?_
  refine szBind (zv3 f hf ws h3 (by show (1048576 : Int) - _ - _ ≤ _; omega) w3) fun h4 => ?_
  exact szBind (zv4 f hf ps h4 (by show (1048576 : Int) - _ - _ - _ ≤ _; omega) w4) fun h5 => szEnd h5
theorem zo7 (f : Nat) (l : List Int) (hl : l.length ≤ 1048576) (hf : 1048576 < f) : zaF f ((l, ()), ()) = some ((l, ()), ()) := by
  show zeg f (iter (zef f) f) l = _
  unfold zeg
  have h1 := lim_of hl
  simp only [zz_eq, Int.toNat_natCast, Int.natCast_nonneg, Int.le_refl, h1, decide_true, cond_true]
  refine (zgn (st := zef f) (enc := fun i out => ((i : Int), l, out)) (fun out => some ((out, ()), ())) l 0 id ?_ ?_ f 0 (by omega)).trans (by rw [List.map_id])
  · intro i out g hi ho
    show zbK f g _ = _
    unfold zbK
    have ho' : i < out.length := by omega
    simp only [zz_eq, lt_cast hi, lt_cast ho', ho', le_cast, decide_true, cond_true, Int.toNat_natCast, w64_up (show i < 4294967296 by omega)]
    rfl
  · intro s g
    show zbK f g _ = _
    unfold zbK
    simp only [zz_eq, zf, decide_false, cond_false]
theorem zv6 (f : Nat) (l : List Bool) (hl : l.length ≤ 1048576) (hf : 1048576 < f) : zfM f ((l, ()), ()) = some ((l, ()), ()) := by
  show zfL f (iter (zfK f) f) l = _
  unfold zfL
  have h1 := lim_of hl
  simp only [zz_eq, Int.toNat_natCast, Int.natCast_nonneg, Int.le_refl, h1, decide_true, cond_true]
  refine (zgn (st := zfK f) (enc := fun i out => ((i : Int), l, out)) (fun out => some ((out, ()), ())) l false id ?_ ?_ f false (by omega)).trans (by rw [List.map_id])
  · intro i out g hi ho
    show zdN f g _ = _
    unfold zdN
    have ho' : i < out.length := by omega
    simp only [zz_eq, lt_cast hi, lt_cast ho', ho', le_cast, decide_true, cond_true, Int.toNat_natCast, w64_up (show i < 4294967296 by omega)]
    rfl
  · intro s g
    show zdN f g _ = _
    unfold zdN
    simp only [zz_eq, zf, decide_false, cond_false]
theorem zv7 (f : Nat) (l : LP) (hl : l.length ≤ 1048576) (hf : 1048576 < f) : zeq f ((l, ()), ()) = some ((l, ()), ()) := by
  show zep f (iter (zeo f) f) l = _
  unfold zep
  have h1 := lim_of hl
  have ek : ∀ x y : Int, zem f ((x, y, ()), ()) = some ((x, y, ()), ()) := fun x y => rfl
  simp only [zz_eq, Int.toNat_natCast, Int.natCast_nonneg, Int.le_refl, h1, decide_true, cond_true]
  refine (zgn (st := zeo f) (enc := fun i out => ((i : Int), l, out)) (fun out => some ((out, ()), ())) l (0, 0, ()) id ?_ ?_ f (0, 0, ()) (by omega)).trans (by rw [List.map_id])
  · intro i out g hi ho
    show zbP f g _ = _
    unfold zbP
    have ho' : i < out.length := by omega
    simp only [zz_eq, lt_cast hi, lt_cast ho', ho', le_cast, decide_true, cond_true, Int.toNat_natCast, w64_up (show i < 4294967296 by omega), ek, Option.bind_some]
    rfl
  · intro s g
    show zbP f g _ = _
    unfold zbP
    simp only [zz_eq, zf, decide_false, cond_false]
theorem zv8 (f : Nat) (l : LP) (hl : l.length ≤ 1048576) (hf : 1048576 < f) : zev f ((l, ()), ()) = some ((l, ()), ()) := by
  show zeu f (iter (zet f) f) l = _
  unfold zeu
  have h1 := lim_of hl
  have ek : ∀ x y : Int, zer f ((x, y, ()), ()) = some ((x, y, ()), ()) := fun x y => rfl
  simp only [zz_eq, Int.toNat_natCast, Int.natCast_nonneg, Int.le_refl, h1, decide_true, cond_true]
  refine (zgn (st := zet f) (enc := fun i out => ((i : Int), l, out)) (fun out => some ((out, ()), ())) l (0, 0, ()) id ?_ ?_ f (0, 0, ()) (by omega)).trans (by rw [List.map_id])
  · intro i out g hi ho
    show zbU f g _ = _
    unfold zbU
    have ho' : i < out.length := by omega
    simp only [zz_eq, lt_cast hi, lt_cast ho', ho', le_cast, decide_true, cond_true, Int.toNat_natCast, w64_up (show i < 4294967296 by omega), ek, Option.bind_some]
    rfl
  · intro s g
    show zbU f g _ = _
    unfold zbU
    simp only [zz_eq, zf, decide_false, cond_false]
theorem zo8 (f : Nat) (hf : 1048576 < f) (l : List (Kd.T (.list I6))) (hl : szK (.list (.list I6)) l ≤ 1048576) : zZ f (l, ()) = some l := by
  have h : l.length ≤ 1048576 := Nat.le_trans szK_len hl
  unfold zZ
  rw [if_pos h]
  exact mapO_id fun x hx => by
    have : szK (.list I6) x + l.length ≤ szK (.list (.list I6)) l := szK_mem hx
    unfold zgs
    rw [zo7 f x (by have := szK_len (e := I6) (xs := x); omega) hf]; rfl
theorem zv9 (f : Nat) (hf : 1048576 < f) (l : List (Kd.T (.list (.list I6)))) (hl : szK (.list (.list (.list I6))) l ≤ 1048576) : zaG f (l, ()) = some l := by
  have h : l.length ≤ 1048576 := Nat.le_trans szK_len hl
  unfold zaG
  rw [if_pos h]
  exact mapO_id fun x hx => by
    have : szK (.list (.list I6)) x + l.length ≤ szK (.list (.list (.list I6))) l := szK_mem hx
    unfold zel
    exact zo8 f hf x (by omega)
theorem zwa (f : Nat) (hf : 1048576 < f) (s : Kd.T KS) (hl : szK KS s ≤ 1048576) : zew f ((s.1.1, s.2.1.1, s.2.2.1.1, s.2.2.1.2.1, s.2.2.1.2.2.1, s.2.2.2.1.1, s.2.2.2.1.2.1, ()), ()) = some s := by
  obtain ⟨⟨rs, ⟨⟩⟩, ⟨ms, ⟨⟩⟩, ⟨ps, lost, tall, ⟨⟩⟩, ⟨ks, rall, ⟨⟩⟩, ⟨⟩⟩ := s
  have e : szK KS ((rs, ()), (ms, ()), (ps, lost, tall, ()), (ks, rall, ()), ()) = szK (.list (.list I6)) rs + (szK (.list I6) ms + (szK (.list KP) ps + (szK (.list KP) ks + 0))) := by
    simp only [szK]; omega
  rw [e] at hl
  have l2 := szK_len (e := I6) (xs := ms); have l3 := szK_len (e := KP) (xs := ps); have l4 := szK_len (e := KP) (xs := ks)
  show zgD f rs ms ps lost tall ks rall = _
  unfold zgD
  rw [zo8 f hf rs (by omega), Option.bind_some, zo7 f ms (by omega) hf, Option.bind_some, zv7 f ps (by omega) hf, Option.bind_some, zv8 f ks (by omega) hf]
  rfl
theorem zwb (f : Nat) (hf : 1048576 < f) (x : EntY) (hl : szK KE x ≤ 1048576) : zbV f ((x.1, x.2.1, x.2.2.1, x.2.2.2.1.1.1, x.2.2.2.1.2.1.1, x.2.2.2.1.2.2.1.1, x.2.2.2.1.2.2.1.2.1, x.2.2.2.1.2.2.1.2.2.1, x.2.2.2.1.2.2.2.1.1, x.2.2.2.1.2.2.2.1.2.1, ()), ()) = some x := by
  show zgG f (x.1) (x.2.1) (x.2.2.1) (x.2.2.2.1.1.1) (x.2.2.2.1.2.1.1) (x.2.2.2.1.2.2.1.1) (x.2.2.2.1.2.2.1.2.1) (x.2.2.2.1.2.2.1.2.2.1) (x.2.2.2.1.2.2.2.1.1) (x.2.2.2.1.2.2.2.1.2.1) = _
  unfold zgG
  have e : szK KE x = szK KS x.2.2.2.1 := by simp only [szK]; omega
  rw [zwa f hf x.2.2.2.1 (by omega)]
  rfl
theorem zo9 (f : Nat) (hf : 1048576 < f) (l : List (Kd.T KE)) (hl : szK (.list KE) l ≤ 1048576) : zan f (l, ()) = some l := by
  have h : l.length ≤ 1048576 := Nat.le_trans szK_len hl
  unfold zan
  rw [if_pos h]
  exact mapO_id fun x hx => by
    have : szK KE x + l.length ≤ szK (.list KE) l := szK_mem hx
    unfold zey
    exact zwb f hf x (by omega)
theorem zwc (f : Nat) (hf : 1048576 < f) (x : NodY) (hl : szK KN x ≤ 1048576) : zbW f ((x.1, x.2.1, x.2.2.1, x.2.2.2.1, x.2.2.2.2.1, ()), ()) = some x := by
  show zgL f (x.1) (x.2.1) (x.2.2.1) (x.2.2.2.1) (x.2.2.2.2.1) = _
  unfold zgL
  have e : szK KN x = szK (.list KE) x.2.1 := by simp only [szK]; omega
  rw [zo9 f hf x.2.1 (by omega)]
  rfl
theorem zwd (f : Nat) (hf : 1048576 < f) (x : WorY) (hl : szK KW x ≤ 1048576) : zbX f ((x.1, x.2.1, x.2.2.1, x.2.2.2.1, x.2.2.2.2.1, x.2.2.2.2.2.1, ()), ()) = some x := by
  show zgO f (x.1) (x.2.1) (x.2.2.1) (x.2.2.2.1) (x.2.2.2.2.1) (x.2.2.2.2.2.1) = _
  unfold zgO
  have e : szK KW x = szK (.list KE) x.2.2.2.2.2.1 := by simp only [szK]; omega
  rw [zo9 f hf x.2.2.2.2.2.1 (by omega)]
  rfl
theorem zwe (f : Nat) (hf : 1048576 < f) (l : List (Kd.T KN)) (hl : szK (.list KN) l ≤ 1048576) : zaJ f (l, ()) = some l := by
  have h : l.length ≤ 1048576 := Nat.le_trans szK_len hl
  unfold zaJ
  rw [if_pos h]
  exact mapO_id fun x hx => by
    have : szK KN x + l.length ≤ szK (.list KN) l := szK_mem hx
    unfold zeB
    exact zwc f hf x (by omega)
theorem zwf (f : Nat) (hf : 1048576 < f) (l : List (Kd.T KW)) (hl : szK (.list KW) l ≤ 1048576) : zaK f (l, ()) = some l := by
  have h : l.length ≤ 1048576 := Nat.le_trans szK_len hl
  unfold zaK
  rw [if_pos h]
  exact mapO_id fun x hx => by
    have : szK KW x + l.length ≤ szK (.list KW) l := szK_mem hx
    unfold zeD
    exact zwd f hf x (by omega)
theorem zwg (f : Nat) (hf : 1048576 < f) (n : NetY) (hl : szK KNET n ≤ 1048576) : zaw f ((n.1, n.2.1, n.2.2.1, n.2.2.2.1, ()), ()) = some n := by
  obtain ⟨ns, ls, ws, ps, ⟨⟩⟩ := n
  have e : szK KNET (ns, ls, ws, ps, ()) = szK (.list KN) ns + (szK (.list .bool) ls + (szK (.list KW) ws + (szK (.list (.list (.list I6))) ps + 0))) := by simp only [szK]
  rw [e] at hl
  have l2 := szK_len (e := .bool) (xs := ls)
  show ziI f ns ls ws ps = _
  unfold ziI
  rw [zwe f hf ns (by omega), Option.bind_some, zv6 f ls (by omega) hf, Option.bind_some, zwf f hf ws (by omega), Option.bind_some, zv9 f hf ps (by omega)]
  rfl
theorem zjB (f : Nat) (l : List Int) (hl : l.length ≤ 1048576) (hf : 1048576 < f) : zP f ((l, ()), (l, ()), ()) = some ((true, ()), ()) := by
  show zeK f (iter (zeJ f) f) l l = _
  unfold zeK
  simp only [bne_self_eq_false, cond_false]
  refine zO (st := zeJ f) (enc := fun i => ((i : Int), l, l)) _ l.length ?_ ?_ l.length 0 f (by omega) (by omega)
  · intro i g hi
    show zcu f g _ = _
    unfold zcu
    simp only [zz_eq, lt_cast hi, le_cast, decide_true, cond_true, Int.toNat_natCast, w64_up (show i < 4294967296 by omega), bne_self_eq_false, beq_self_eq_true, cond_false, Bool.not_true]
  · intro g
    show zcu f g _ = _
    unfold zcu
    simp only [zz_eq, zf, decide_false, cond_false]
theorem zwh (f : Nat) (l : List Bool) (hl : l.length ≤ 1048576) (hf : 1048576 < f) : zff f ((l, ()), (l, ()), ()) = some ((true, ()), ()) := by
  show zfe f (iter (zfd f) f) l l = _
  unfold zfe
  simp only [bne_self_eq_false, cond_false]
  refine zO (st := zfd f) (enc := fun i => ((i : Int), l, l)) _ l.length ?_ ?_ l.length 0 f (by omega) (by omega)
  · intro i g hi
    show zc2 f g _ = _
    unfold zc2
    simp only [zz_eq, lt_cast hi, le_cast, decide_true, cond_true, Int.toNat_natCast, w64_up (show i < 4294967296 by omega), bne_self_eq_false, beq_self_eq_true, cond_false, Bool.not_true]
  · intro g
    show zc2 f g _ = _
    unfold zc2
    simp only [zz_eq, zf, decide_false, cond_false]
theorem zwi (f : Nat) (l : LP) (hl : l.length ≤ 1048576) (hf : 1048576 < f) : zeV f ((l, ()), (l, ()), ()) = some ((true, ()), ()) := by
  show zeU f (iter (zeT f) f) l l = _
  unfold zeU
  simp only [bne_self_eq_false, cond_false]
  have ek : ∀ x y : Int, zeR f ((x, y, ()), (x, y, ()), ()) = some ((true, ()), ()) := fun x y => by
    show zhv f x y x y = _
    unfold zhv
    simp
  refine zO (st := zeT f) (enc := fun i => ((i : Int), l, l)) _ l.length ?_ ?_ l.length 0 f (by omega) (by omega)
  · intro i g hi
    show zcF f g _ = _
    unfold zcF
    simp only [zz_eq, lt_cast hi, le_cast, decide_true, cond_true, Int.toNat_natCast, w64_up (show i < 4294967296 by omega), bne_self_eq_false, beq_self_eq_true, cond_false, ek, Option.bind_some, Bool.not_true]
  · intro g
    show zcF f g _ = _
    unfold zcF
    simp only [zz_eq, zf, decide_false, cond_false]
theorem zwj (f : Nat) (l : LP) (hl : l.length ≤ 1048576) (hf : 1048576 < f) : ze1 f ((l, ()), (l, ()), ()) = some ((true, ()), ()) := by
  show ze0 f (iter (zeZ f) f) l l = _
  unfold ze0
  simp only [bne_self_eq_false, cond_false]
  have ek : ∀ x y : Int, zeX f ((x, y, ()), (x, y, ()), ()) = some ((true, ()), ()) := fun x y => by
    show zhC f x y x y = _
    unfold zhC
    simp
  refine zO (st := zeZ f) (enc := fun i => ((i : Int), l, l)) _ l.length ?_ ?_ l.length 0 f (by omega) (by omega)
  · intro i g hi
    show zcK f g _ = _
    unfold zcK
    simp only [zz_eq, lt_cast hi, le_cast, decide_true, cond_true, Int.toNat_natCast, w64_up (show i < 4294967296 by omega), bne_self_eq_false, beq_self_eq_true, cond_false, ek, Option.bind_some, Bool.not_true]
  · intro g
    show zcK f g _ = _
    unfold zcK
    simp only [zz_eq, zf, decide_false, cond_false]
theorem zpa (f : Nat) (hf : 1048576 < f) (l : List (Kd.T (.list I6))) (hl : szK (.list (.list I6)) l ≤ 1048576) : zaT f ((l, ()), (l, ()), ()) = some ((true, ()), ()) := by
  have hl' : l.length ≤ 1048576 := Nat.le_trans szK_len hl
  show zeN f (iter (zeM f) f) l l = _
  unfold zeN
  simp only [bne_self_eq_false, cond_false]
  refine zO (st := zeM f) (enc := fun i => ((i : Int), l, l)) _ l.length ?_ ?_ l.length 0 f (by omega) (by omega)
  · intro i g hi
    show zcA f g _ = _
    unfold zcA
    have hx := szK_mem (getD_in hi ([] : Kd.T (.list I6)))
    have he : zP f (((l.getD i []), ()), ((l.getD i []), ()), ()) = some ((true, ()), ()) := zjB f _ (by have := szK_len (e := I6) (xs := l.getD i []); omega) hf
    simp only [zz_eq, lt_cast hi, le_cast, decide_true, cond_true, Int.toNat_natCast, w64_up (show i < 4294967296 by omega)]
    rw [he]
    rfl
  · intro g
    show zcA f g _ = _
    unfold zcA
    simp only [zz_eq, zf, decide_false, cond_false]
theorem zwk (f : Nat) (hf : 1048576 < f) (l : List (Kd.T (.list (.list I6)))) (hl : szK (.list (.list (.list I6))) l ≤ 1048576) : zfn f ((l, ()), (l, ()), ()) = some ((true, ()), ()) := by
  have hl' : l.length ≤ 1048576 := Nat.le_trans szK_len hl
  show zfm f (iter (zfl f) f) l l = _
  unfold zfm
  simp only [bne_self_eq_false, cond_false]
  refine zO (st := zfl f) (enc := fun i => ((i : Int), l, l)) _ l.length ?_ ?_ l.length 0 f (by omega) (by omega)
  · intro i g hi
    show zdd f g _ = _
    unfold zdd
    have hx := szK_mem (getD_in hi ([] : Kd.T (.list (.list I6))))
    have he : zaT f (((l.getD i []), ()), ((l.getD i []), ()), ()) = some ((true, ()), ()) := zpa f hf _ (by omega)
    simp only [zz_eq, lt_cast hi, le_cast, decide_true, cond_true, Int.toNat_natCast, w64_up (show i < 4294967296 by omega)]
    rw [he]
    rfl
  · intro g
    show zdd f g _ = _
    unfold zdd
    simp only [zz_eq, zf, decide_false, cond_false]
theorem zwl (f : Nat) (hf : 1048576 < f) (s : Kd.T KS) (hl : szK KS s ≤ 1048576) : ze3 f ((s.1.1, s.2.1.1, s.2.2.1.1, s.2.2.1.2.1, s.2.2.1.2.2.1, s.2.2.2.1.1, s.2.2.2.1.2.1, ()), (s.1.1, s.2.1.1, s.2.2.1.1, s.2.2.1.2.1, s.2.2.1.2.2.1, s.2.2.2.1.1, s.2.2.2.1.2.1, ()), ()) = some ((true, ()), ()) := by
  obtain ⟨⟨rs, ⟨⟩⟩, ⟨ms, ⟨⟩⟩, ⟨ps, lost, tall, ⟨⟩⟩, ⟨ks, rall, ⟨⟩⟩, ⟨⟩⟩ := s
  have e : szK KS ((rs, ()), (ms, ()), (ps, lost, tall, ()), (ks, rall, ()), ()) = szK (.list (.list I6)) rs + (szK (.list I6) ms + (szK (.list KP) ps + (szK (.list KP) ks + 0))) := by
    simp only [szK]; omega
  rw [e] at hl
  have l2 := szK_len (e := I6) (xs := ms); have l3 := szK_len (e := KP) (xs := ps); have l4 := szK_len (e := KP) (xs := ks)
  show zhJ f rs ms ps lost tall ks rall rs ms ps lost tall ks rall = _
  unfold zhJ
  have e1 : zeP f ((rs, ()), (rs, ()), ()) = some ((true, ()), ()) := by
    show zhp f rs rs = _
    unfold zhp; rw [zpa f hf rs (by omega)]; rfl
  have e2 : zeQ f ((ms, ()), (ms, ()), ()) = some ((true, ()), ()) := by
    show zhs f ms ms = _
    unfold zhs; rw [zjB f ms (by omega) hf]; rfl
  have e3 : zeW f ((ps, lost, tall, ()), (ps, lost, tall, ()), ()) = some ((true, ()), ()) := by
    show zhz f ps lost tall ps lost tall = _
    unfold zhz; rw [zwi f ps (by omega) hf]; simp
  have e4 : ze2 f ((ks, rall, ()), (ks, rall, ()), ()) = some ((true, ()), ()) := by
    show zhG f ks rall ks rall = _
    unfold zhG; rw [zwj f ks (by omega) hf]; simp
  rw [e1, Option.bind_some, e2, Option.bind_some, e3, Option.bind_some, e4]; rfl
theorem zwm (f : Nat) (hf : 1048576 < f) (x : EntY) (hl : szK KE x ≤ 1048576) : zcL f ((x.1, x.2.1, x.2.2.1, x.2.2.2.1.1.1, x.2.2.2.1.2.1.1, x.2.2.2.1.2.2.1.1, x.2.2.2.1.2.2.1.2.1, x.2.2.2.1.2.2.1.2.2.1, x.2.2.2.1.2.2.2.1.1, x.2.2.2.1.2.2.2.1.2.1, ()), (x.1, x.2.1, x.2.2.1, x.2.2.2.1.1.1, x.2.2.2.1.2.1.1, x.2.2.2.1.2.2.1.1, x.2.2.2.1.2.2.1.2.1, x.2.2.2.1.2.2.1.2.2.1, x.2.2.2.1.2.2.2.1.1, x.2.2.2.1.2.2.2.1.2.1, ()), ()) = some ((true, ()), ()) := by
  show zhM f (x.1) (x.2.1) (x.2.2.1) (x.2.2.2.1.1.1) (x.2.2.2.1.2.1.1) (x.2.2.2.1.2.2.1.1) (x.2.2.2.1.2.2.1.2.1) (x.2.2.2.1.2.2.1.2.2.1) (x.2.2.2.1.2.2.2.1.1) (x.2.2.2.1.2.2.2.1.2.1) (x.1) (x.2.1) (x.2.2.1) (x.2.2.2.1.1.1) (x.2.2.2.1.2.1.1) (x.2.2.2.1.2.2.1.1) (x.2.2.2.1.2.2.1.2.1) (x.2.2.2.1.2.2.1.2.2.1) (x.2.2.2.1.2.2.2.1.1) (x.2.2.2.1.2.2.2.1.2.1) = _
  unfold zhM
  have e : szK KE x = szK KS x.2.2.2.1 := by simp only [szK]; omega
  rw [zwl f hf x.2.2.2.1 (by omega)]
  simp only [bne_self_eq_false, cond_false, Option.bind_some, Bool.not_true]
theorem zpb (f : Nat) (hf : 1048576 < f) (l : List (Kd.T KE)) (hl : szK (.list KE) l ≤ 1048576) : zcR f ((l, ()), (l, ()), ()) = some ((true, ()), ()) := by
  have hl' : l.length ≤ 1048576 := Nat.le_trans szK_len hl
  show ze6 f (iter (ze5 f) f) l l = _
  unfold ze6
  simp only [bne_self_eq_false, cond_false]
  refine zO (st := ze5 f) (enc := fun i => ((i : Int), l, l)) _ l.length ?_ ?_ l.length 0 f (by omega) (by omega)
  · intro i g hi
    show zcQ f g _ = _
    unfold zcQ
    have hx := szK_mem (getD_in hi (dE : Kd.T KE))
    have he : zcL f (((l.getD i dE).1, (l.getD i dE).2.1, (l.getD i dE).2.2.1, (l.getD i dE).2.2.2.1.1.1, (l.getD i dE).2.2.2.1.2.1.1, (l.getD i dE).2.2.2.1.2.2.1.1, (l.getD i dE).2.2.2.1.2.2.1.2.1, (l.getD i dE).2.2.2.1.2.2.1.2.2.1, (l.getD i dE).2.2.2.1.2.2.2.1.1, (l.getD i dE).2.2.2.1.2.2.2.1.2.1, ()), ((l.getD i dE).1, (l.getD i dE).2.1, (l.getD i dE).2.2.1, (l.getD i dE).2.2.2.1.1.1, (l.getD i dE).2.2.2.1.2.1.1, (l.getD i dE).2.2.2.1.2.2.1.1, (l.getD i dE).2.2.2.1.2.2.1.2.1, (l.getD i dE).2.2.2.1.2.2.1.2.2.1, (l.getD i dE).2.2.2.1.2.2.2.1.1, (l.getD i dE).2.2.2.1.2.2.2.1.2.1, ()), ()) = some ((true, ()), ()) := zwm f hf _ (by omega)
    simp only [zz_eq, lt_cast hi, le_cast, decide_true, cond_true, Int.toNat_natCast, w64_up (show i < 4294967296 by omega)]
    rw [he]
    rfl
  · intro g
    show zcQ f g _ = _
    unfold zcQ
    simp only [zz_eq, zf, decide_false, cond_false]
theorem zwn (f : Nat) (hf : 1048576 < f) (x : NodY) (hl : szK KN x ≤ 1048576) : zcS f ((x.1, x.2.1, x.2.2.1, x.2.2.2.1, x.2.2.2.2.1, ()), (x.1, x.2.1, x.2.2.1, x.2.2.2.1, x.2.2.2.2.1, ()), ()) = some ((true, ()), ()) := by
  show zhP f (x.1) (x.2.1) (x.2.2.1) (x.2.2.2.1) (x.2.2.2.2.1) (x.1) (x.2.1) (x.2.2.1) (x.2.2.2.1) (x.2.2.2.2.1) = _
  unfold zhP
  have e : szK KN x = szK (.list KE) x.2.1 := by simp only [szK]; omega
  rw [zpb f hf x.2.1 (by omega)]
  simp only [bne_self_eq_false, cond_false, Option.bind_some, Bool.not_true]
theorem zwo (f : Nat) (hf : 1048576 < f) (x : WorY) (hl : szK KW x ≤ 1048576) : zc3 f ((x.1, x.2.1, x.2.2.1, x.2.2.2.1, x.2.2.2.2.1, x.2.2.2.2.2.1, ()), (x.1, x.2.1, x.2.2.1, x.2.2.2.1, x.2.2.2.2.1, x.2.2.2.2.2.1, ()), ()) = some ((true, ()), ()) := by
  show zhU f (x.1) (x.2.1) (x.2.2.1) (x.2.2.2.1) (x.2.2.2.2.1) (x.2.2.2.2.2.1) (x.1) (x.2.1) (x.2.2.1) (x.2.2.2.1) (x.2.2.2.2.1) (x.2.2.2.2.2.1) = _
  unfold zhU
  have e : szK KW x = szK (.list KE) x.2.2.2.2.2.1 := by simp only [szK]; omega
  rw [zpb f hf x.2.2.2.2.2.1 (by omega)]
  simp only [bne_self_eq_false, cond_false, Option.bind_some, Bool.not_true]
theorem zwp (f : Nat) (hf : 1048576 < f) (l : List (Kd.T KN)) (hl : szK (.list KN) l ≤ 1048576) : zfb f ((l, ()), (l, ()), ()) = some ((true, ()), ()) := by
  have hl' : l.length ≤ 1048576 := Nat.le_trans szK_len hl
  show zfa f (iter (ze9 f) f) l l = _
  unfold zfa
  simp only [bne_self_eq_false, cond_false]
  refine zO (st := ze9 f) (enc := fun i => ((i : Int), l, l)) _ l.length ?_ ?_ l.length 0 f (by omega) (by omega)
  · intro i g hi
    show zcX f g _ = _
    unfold zcX
    have hx := szK_mem (getD_in hi (dN : Kd.T KN))
    have he : zcS f (((l.getD i dN).1, (l.getD i dN).2.1, (l.getD i dN).2.2.1, (l.getD i dN).2.2.2.1, (l.getD i dN).2.2.2.2.1, ()), ((l.getD i dN).1, (l.getD i dN).2.1, (l.getD i dN).2.2.1, (l.getD i dN).2.2.2.1, (l.getD i dN).2.2.2.2.1, ()), ()) = some ((true, ()), ()) := zwn f hf _ (by omega)
    simp only [zz_eq, lt_cast hi, le_cast, decide_true, cond_true, Int.toNat_natCast, w64_up (show i < 4294967296 by omega)]
    rw [he]
    rfl
  · intro g
    show zcX f g _ = _
    unfold zcX
    simp only [zz_eq, zf, decide_false, cond_false]
theorem zwq (f : Nat) (hf : 1048576 < f) (l : List (Kd.T KW)) (hl : szK (.list KW) l ≤ 1048576) : zfj f ((l, ()), (l, ()), ()) = some ((true, ()), ()) := by
  have hl' : l.length ≤ 1048576 := Nat.le_trans szK_len hl
  show zfi f (iter (zfh f) f) l l = _
  unfold zfi
  simp only [bne_self_eq_false, cond_false]
  refine zO (st := zfh f) (enc := fun i => ((i : Int), l, l)) _ l.length ?_ ?_ l.length 0 f (by omega) (by omega)
  · intro i g hi
    show zc8 f g _ = _
    unfold zc8
    have hx := szK_mem (getD_in hi (dW : Kd.T KW))
    have he : zc3 f (((l.getD i dW).1, (l.getD i dW).2.1, (l.getD i dW).2.2.1, (l.getD i dW).2.2.2.1, (l.getD i dW).2.2.2.2.1, (l.getD i dW).2.2.2.2.2.1, ()), ((l.getD i dW).1, (l.getD i dW).2.1, (l.getD i dW).2.2.1, (l.getD i dW).2.2.2.1, (l.getD i dW).2.2.2.2.1, (l.getD i dW).2.2.2.2.2.1, ()), ()) = some ((true, ()), ()) := zwo f hf _ (by omega)
    simp only [zz_eq, lt_cast hi, le_cast, decide_true, cond_true, Int.toNat_natCast, w64_up (show i < 4294967296 by omega)]
    rw [he]
    rfl
  · intro g
    show zc8 f g _ = _
    unfold zc8
    simp only [zz_eq, zf, decide_false, cond_false]
theorem zwr (f : Nat) (hf : 1048576 < f) (n : NetY) (hl : szK KNET n ≤ 1048576) : zfo f ((n.1, n.2.1, n.2.2.1, n.2.2.2.1, ()), (n.1, n.2.1, n.2.2.1, n.2.2.2.1, ()), ()) = some ((true, ()), ()) := by
  obtain ⟨ns, ls, ws, ps, ⟨⟩⟩ := n
  have e : szK KNET (ns, ls, ws, ps, ()) = szK (.list KN) ns + (szK (.list .bool) ls + (szK (.list KW) ws + (szK (.list (.list (.list I6))) ps + 0))) := by simp only [szK]
  rw [e] at hl
  have l2 := szK_len (e := .bool) (xs := ls)
  show zhZ f ns ls ws ps ns ls ws ps = _
  unfold zhZ
  rw [zwp f hf ns (by omega), zwh f ls (by omega) hf, zwq f hf ws (by omega), zwk f hf ps (by omega)]
  rfl
end Go.Proofs.Ytmkekjmckdkcnaa.Den
namespace Go.Proofs.Ytmkekjmckdkcnaa.Den
open Go
def lk (L : List Bool) (a b : Nat) : Bool := L.getD (a * 5 + b) false
def on (s : List Bool) (i : Nat) : Prop := s.getD i false = true
inductive Rch (L : List Bool) : Nat → Prop
  | root : Rch L 0
  | step {a b : Nat} : Rch L a → a < 5 → b < 5 → lk L a b = true → Rch L b
theorem on_set {s : List Bool} {i j : Nat} {v : Bool} (h : i < s.length) : on (s.set i v) j ↔ if i = j then v = true else on s j := by
  unfold on
  rw [List.getD_eq_getElem?_getD, List.getElem?_set]
  split
  · simp [h]
  · rw [List.getD_eq_getElem?_getD]
def Snd (L s : List Bool) : Prop := ∀ i, on s i → Rch L i
def Clo (L s : List Bool) : Prop := ∀ a b, a < 5 → b < 5 → on s a → lk L a b = true → on s b
theorem on_iff {L s : List Bool} (h0 : on s 0) (hs : Snd L s) (hc : Clo L s) (i : Nat) : on s i ↔ Rch L i := by
  refine ⟨hs i, fun h => ?_⟩
  induction h with
  | root => exact h0
  | step _ ha hb hl ih => exact hc _ _ ha hb ih hl
theorem ext_on {s t : List Bool} (hl : s.length = t.length) (h : ∀ i, on s i ↔ on t i) : s = t := by
  refine List.ext_getElem hl fun i h1 h2 => ?_
  have := h i
  unfold on at this
  rw [List.getD_eq_getElem?_getD, List.getD_eq_getElem?_getD, List.getElem?_eq_getElem h1, List.getElem?_eq_getElem h2] at this
  simp only [Option.getD_some] at this
  cases hx : s[i] <;> cases hy : t[i] <;> simp_all
theorem grow : ∀ {s t : List Bool}, s.length = t.length → (∀ i, on s i → on t i) → s = t ∨ s.count true < t.count true
  | [], [], _, _ => .inl rfl
  | [], _ :: _, h, _ => by simp at h
  | _ :: _, [], h, _ => by simp at h
  | x :: s, y :: t, hl, h => by
    have h0 : x = true → y = true := h 0
    have hr := grow (s := s) (t := t) (by simpa using hl) fun i hi => h (i + 1) hi
    rcases hr with rfl | hr
    · cases x <;> cases y <;> simp_all
    · right
      cases x <;> cases y <;> simp_all <;> omega
def up (L : List Bool) (s : List Bool) (p : Nat × Nat) : List Bool := s.set p.2 (s.getD p.2 false || (s.getD p.1 false && lk L p.1 p.2))
def row5 (a : Nat) : List (Nat × Nat) := [(a, 0), (a, 1), (a, 2), (a, 3), (a, 4)]
def prs : List (Nat × Nat) := row5 0 ++ row5 1 ++ row5 2 ++ row5 3 ++ row5 4
def rnd (L s : List Bool) : List Bool := prs.foldl (up L) s
theorem up_on {L s : List Bool} {p : Nat × Nat} {i : Nat} (h : p.2 < s.length) : on (up L s p) i ↔ on s i ∨ (i = p.2 ∧ on s p.1 ∧ lk L p.1 p.2 = true) := by
  unfold up
  rw [on_set h]
  by_cases e : p.2 = i
  · subst e; simp [on]
  · rw [if_neg e]; constructor
    · exact .inl
    · rintro (h | ⟨h, _⟩)
      · exact h
      · exact absurd h.symm e
theorem ups_len {L : List Bool} : ∀ {l : List (Nat × Nat)} {s : List Bool}, (l.foldl (up L) s).length = s.length
  | [], s => rfl
  | p :: l, s => by rw [List.foldl_cons, ups_len]; simp [up]
theorem ups {L : List Bool} : ∀ {l : List (Nat × Nat)} {s : List Bool}, s.length = 5 → (∀ p ∈ l, p.1 < 5 ∧ p.2 < 5) →
    (l.foldl (up L) s).length = 5 ∧ (∀ i, on s i → on (l.foldl (up L) s) i) ∧ (Snd L s → Snd L (l.foldl (up L) s)) ∧ ∀ p ∈ l, on s p.1 → lk L p.1 p.2 = true → on (l.foldl (up L) s) p.2
  | [], s, hs, _ => ⟨hs, fun _ h => h, fun h => h, fun p h => by simp at h⟩
  | q :: l, s, hs, hl => by
    have hq := hl q (by simp)
    have h1 : (up L s q).length = 5 := by simp [up, hs]
    obtain ⟨g1, g2, g3, g4⟩ := ups (L := L) (l := l) h1 fun p hp => hl p (by simp [hp])
    have ho : ∀ {i}, on (up L s q) i ↔ _ := fun {i} => up_on (L := L) (p := q) (i := i) (by rw [hs]; exact hq.2)
    refine ⟨g1, fun i h => g2 i (ho.2 (.inl h)), fun h => g3 fun i hi => ?_, fun p hp h2 h3 => ?_⟩
    · rcases ho.1 hi with h4 | ⟨rfl, h5, h6⟩
      · exact h i h4
      · exact .step (h _ h5) hq.1 hq.2 h6
    · rcases List.mem_cons.1 hp with rfl | hp
      · exact g2 _ (ho.2 (.inr ⟨rfl, h2, h3⟩))
      · exact g4 p hp (ho.2 (.inl h2)) h3
theorem prs_lt : ∀ p ∈ prs, p.1 < 5 ∧ p.2 < 5 := by decide
theorem prs_all {a b : Nat} (ha : a < 5) (hb : b < 5) : (a, b) ∈ prs := by
  rcases show a = 0 ∨ a = 1 ∨ a = 2 ∨ a = 3 ∨ a = 4 by omega with rfl | rfl | rfl | rfl | rfl <;> rcases show b = 0 ∨ b = 1 ∨ b = 2 ∨ b = 3 ∨ b = 4 by omega with rfl | rfl | rfl | rfl | rfl <;> decide
theorem zpc {L s : List Bool} (hs : s.length = 5) : (rnd L s).length = 5 ∧ (∀ i, on s i → on (rnd L s) i) ∧ (Snd L s → Snd L (rnd L s)) ∧ (rnd L s = s → Clo L s) := by
  obtain ⟨h1, h2, h3, h4⟩ := ups (L := L) (l := prs) hs prs_lt
  exact ⟨h1, h2, h3, fun he a b ha hb h5 h6 => by have := h4 (a, b) (prs_all ha hb) h5 h6; rw [← he]; exact this⟩
def rnds (L : List Bool) : Nat → List Bool → List Bool
  | 0, s => s
  | n + 1, s => rnds L n (rnd L s)
theorem zpd {L s : List Bool} (h : rnd L s = s) : ∀ n, rnds L n s = s
  | 0 => rfl
  | n + 1 => by rw [rnds, h, zpd h n]
theorem zjC {L : List Bool} : ∀ (n : Nat) {s : List Bool}, s.length = 5 → 6 ≤ s.count true + n → (rnds L n s).length = 5 ∧ (∀ i, on s i → on (rnds L n s) i) ∧ (Snd L s → Snd L (rnds L n s)) ∧ Clo L (rnds L n s)
  | 0, s, hs, hn => by have := List.count_le_length (a := true) (l := s); omega
  | n + 1, s, hs, hn => by
    obtain ⟨h1, h2, h3, h4⟩ := zpc (L := L) hs
    rcases grow (hs.trans h1.symm) h2 with e | e
    · rw [zpd e.symm]
      exact ⟨hs, fun _ h => h, fun h => h, h4 e.symm⟩
    · obtain ⟨g1, g2, g3, g4⟩ := zjC (L := L) n h1 (by omega)
      exact ⟨g1, fun i hi => g2 i (h2 i hi), fun h => g3 (h3 h), g4⟩
def hit (L s : List Bool) (far : Nat) : Bool := !s.getD far false && (List.range' 0 5).any fun o => s.getD o false && lk L o far
def nxt (L s : List Bool) : Option Nat := (List.range' 0 5).find? (hit L s)
def ones (L : List Bool) : Nat → List Bool → List Bool
  | 0, s => s
  | n + 1, s => match nxt L s with
    | some far => ones L n (s.set far true)
    | none => s
theorem zpe {L s : List Bool} {far : Nat} (h : nxt L s = some far) : far < 5 ∧ ¬ on s far ∧ ∃ o, o < 5 ∧ on s o ∧ lk L o far = true := by
  unfold nxt at h
  have h1 := List.find?_some h
  have h2 := List.mem_of_find?_eq_some h
  simp only [hit, Bool.and_eq_true, Bool.not_eq_true', List.any_eq_true] at h1
  obtain ⟨h3, o, h4, h5⟩ := h1
  simp only [List.mem_range'_1] at h2 h4
  exact ⟨by omega, by unfold on; rw [h3]; simp, o, by omega, h5⟩
theorem zws {L s : List Bool} (h : nxt L s = none) : Clo L s := by
  intro a b ha hb h1 h2
  unfold nxt at h
  rw [List.find?_eq_none] at h
  have h3 := h b (by simp [List.mem_range'_1]; omega)
  unfold on
  cases hx : s.getD b false with
  | true => rfl
  | false =>
    refine absurd ?_ h3
    simp only [hit, Bool.and_eq_true, Bool.not_eq_true', List.any_eq_true]
    exact ⟨hx, a, by simp only [List.mem_range'_1]; omega, h1, h2⟩
theorem zpf {L : List Bool} : ∀ (n : Nat) {s : List Bool}, s.length = 5 → 6 ≤ s.count true + n → (ones L n s).length = 5 ∧ (∀ i, on s i → on (ones L n s) i) ∧ (Snd L s → Snd L (ones L n s)) ∧ Clo L (ones L n s)
  | 0, s, hs, hn => by have := List.count_le_length (a := true) (l := s); omega
  | n + 1, s, hs, hn => by
    rw [ones]
    split
    · rename_i far h
      obtain ⟨h1, h2, o, h3, h4, h5⟩ := zpe h
      have hl : (s.set far true).length = 5 := by simp [hs]
      have hm : ∀ i, on s i → on (s.set far true) i := fun i hi => (on_set (by omega)).2 (by split <;> simp_all)
      have hne : s ≠ s.set far true := fun e => h2 (by rw [e]; exact (on_set (by omega)).2 (by simp))
      have hg := (grow (hs.trans hl.symm) hm).resolve_left hne
      obtain ⟨g1, g2, g3, g4⟩ := zpf (L := L) n hl (by omega)
      refine ⟨g1, fun i hi => g2 i (hm i hi), fun hsn => g3 fun i hi => ?_, g4⟩
      rw [on_set (by omega)] at hi
      split at hi
      · rename_i e; subst e
        exact .step (hsn o h4) h3 h1 h5
      · exact hsn i hi
    · rename_i h
      exact ⟨hs, fun _ h => h, fun h => h, zws h⟩
def seen0 : List Bool := [true, false, false, false, false]
theorem zpg {L : List Bool} : Snd L seen0 := by
  intro i hi
  cases i with
  | zero => exact .root
  | succ i =>
    exfalso
    unfold on seen0 at hi
    rcases i with _ | _ | _ | _ | i <;> simp at hi
def reachS (L : List Bool) : List Bool := rnds L 5 seen0
theorem zwt {L : List Bool} (i : Nat) : on (reachS L) i ↔ Rch L i := by
  obtain ⟨h1, h2, h3, h4⟩ := zjC (L := L) 5 (s := seen0) rfl (by decide)
  exact on_iff (h2 0 rfl) (h3 zpg) h4 i
theorem ones_eq {L : List Bool} : ones L 5 seen0 = reachS L := by
  obtain ⟨h1, h2, h3, h4⟩ := zpf (L := L) 5 (s := seen0) rfl (by decide)
  exact ext_on (h1.trans (zjC (L := L) 5 (s := seen0) rfl (by decide)).1.symm) fun i => (on_iff (h2 0 rfl) (h3 zpg) h4 i).trans (zwt i).symm
def outS5 (s : List Bool) : List Int := ((List.range' 0 5).filter fun i => s.getD i false).map fun i : Nat => (i : Int)
def reachL (L : List Bool) : List Int := if L.length = 25 then outS5 (reachS L) else []
section
variable {R σ : Type}
theorem zph {p : Nat → Bool} {r : Option R} {body : Nat → (Unit → Option R) → Unit → Option R} {fin : Unit → Option R} (hb : ∀ i k, body i k () = cond (p i) r (k ())) : ∀ (d i : Nat), upGo body fin d i () = cond ((List.range' i d).any p) r (fin ())
  | 0, i => rfl
  | d + 1, i => by
    show body i _ () = _
    rw [hb, zph hb d (i + 1), List.range'_succ, List.any_cons]
    cases p i <;> rfl
theorem zpi {p : Nat → Bool} {r : Nat → Option R} {body : Nat → (Unit → Option R) → Unit → Option R} {fin : Unit → Option R} (hb : ∀ i k, body i k () = cond (p i) (r i) (k ())) : ∀ (d i : Nat), upGo body fin d i () = match (List.range' i d).find? p with
      | some x => r x
      | none => fin ()
  | 0, i => rfl
  | d + 1, i => by
    show body i _ () = _
    rw [hb, zpi hb d (i + 1), List.range'_succ, List.find?_cons]
    cases p i <;> rfl
end
theorem upGo5 {R σ : Type} {F : Nat → σ → σ} {fin : σ → Option R} (s : σ) : upGo (fun a k s => k (F a s)) fin 5 0 s = fin (F 4 (F 3 (F 2 (F 1 (F 0 s))))) := rfl
theorem i5 {i : Nat} (h : i < 5) : ((i : Int) < 5) := by omega
theorem n5 : ¬ (((5 : Nat) : Int) < 5) := by decide
theorem mul5 {a b : Nat} (ha : a < 5) (hb : b < 5) : w64 (w64 ((a : Int) * 5) + (b : Int)) = ((a * 5 + b : Nat) : Int) := by
  have h : w64 ((a : Int) * 5) = (a : Int) * 5 := by rw [w64_id] <;> omega
  rw [h, w64_id] <;> omega
section
variable (f : Nat) (hf : 100 < f) (ns : List NodY) (L : List Bool) (hL : L.length = 25) (ws : List WorY) (ps : List (List (List Int)))
include hf hL
theorem zwu (g1 : zR → zb) (a : Nat) (ha : a < 5) (r : Int) (s : List Bool) (hs : s.length = 5) :
    iter (zbc f g1) f ((0 : Int), (a : Int), r, s, ns, L, ws, ps) = g1 (((a + 1 : Nat) : Int), r, (row5 a).foldl (up L) s, ns, L, ws, ps) := by
  have h := iter_up (st := zbc f g1) (enc := fun b (s : {s : List Bool // s.length = 5}) => ((b : Int), (a : Int), r, s.1, ns, L, ws, ps)) (body := fun b k s => k ⟨up L s.1 (a, b), by simp [up, s.2]⟩)
    (fin := fun s => g1 (((a + 1 : Nat) : Int), r, s.1, ns, L, ws, ps)) 5
    (fun b s g hb => by
      obtain ⟨s, hs⟩ := s
      show zbb f g1 g _ = _
      unfold zbb
      have e : zfF f (((a : Int), ()), ((b : Int), ()), ()) = some ((((a * 5 + b : Nat) : Int), ()), ()) := by
        show some (((w64 (w64 ((a : Int) * 5) + b), ()), ())) = _
        rw [mul5 ha hb]
      have h1 : (((a * 5 + b : Nat) : Int)) < ((25 : Nat) : Int) := by omega
      simp only [zz_eq, hs, i5 hb, i5 ha, lt_cast hb, lt_cast ha, le_cast, hb, ha, h1, decide_true, cond_true, Int.toNat_natCast, e, Option.bind_some, w64_up (show b < 4294967296 by omega), hL]
      cases hx : s.getD b false with
      | true => simp only [cond_true, up, hx, Bool.true_or]
      | false =>
        cases hy : s.getD a false with
        | true => simp only [cond_true, cond_false, up, hx, hy, lk, Bool.false_or, Bool.true_and]
        | false => simp only [cond_false, up, hx, hy, Bool.false_or, Bool.false_and])
    (fun s g => by
      show zbb f g1 g _ = _
      unfold zbb
      simp only [n5, decide_false, cond_false, w64_up (show a < 4294967296 by omega)])
    5 0 ⟨s, hs⟩ f (by omega) (by omega)
  exact h
theorem zwv (g0 : zQ → zb) (r : Nat) (hr : r < 5) (s : List Bool) (hs : s.length = 5) :
    iter (zbe f g0) f ((0 : Int), (r : Int), s, ns, L, ws, ps) = g0 (((r + 1 : Nat) : Int), rnd L s, ns, L, ws, ps) := by
  have h := iter_up (st := zbe f g0) (enc := fun a (s : {s : List Bool // s.length = 5}) => ((a : Int), (r : Int), s.1, ns, L, ws, ps))
    (body := fun a k s => k ⟨(row5 a).foldl (up L) s.1, ups_len.trans s.2⟩)
    (fin := fun s => g0 (((r + 1 : Nat) : Int), s.1, ns, L, ws, ps)) 5
    (fun a s g ha => by
      obtain ⟨s, hs⟩ := s
      show zbd f g0 (iter (zbc f g) f) g _ = _
      unfold zbd
      simp only [i5 ha, decide_true, cond_true]
      rw [zwu f hf ns L hL ws ps g a ha (r : Int) s hs])
    (fun s g => by
      show zbd f g0 (iter (zbc f g) f) g _ = _
      unfold zbd
      simp only [n5, decide_false, cond_false, w64_up (show r < 4294967296 by omega)])
    5 0 ⟨s, hs⟩ f (by omega) (by omega)
  rw [show rnd L s = (row5 4).foldl (up L) ((row5 3).foldl (up L) ((row5 2).foldl (up L) ((row5 1).foldl (up L) ((row5 0).foldl (up L) s)))) by simp only [rnd, prs, List.foldl_append]]
  refine Eq.trans ?_ (h.trans ?_)
  · rfl
  · rw [upGo5 (F := fun a (s : {s : List Bool // s.length = 5}) => (⟨(row5 a).foldl (up L) s.1, ups_len.trans s.2⟩ : {s : List Bool // s.length = 5}))]
end
theorem zpj {st : (Int × List Bool × List Int → Option ((List Int × Unit) × Unit)) → Int × List Bool × List Int → Option ((List Int × Unit) × Unit)} {s : List Bool} {f : Nat} (hf : 100 < f)
    (hs : ∀ (i : Nat) (o : List Int) g, i < 5 → o.length ≤ i → st g ((i : Int), s, o) = g (((i + 1 : Nat) : Int), s, if s.getD i false then o ++ [(i : Int)] else o)) (he : ∀ (o : List Int) g, st g (((5 : Nat) : Int), s, o) = some ((o, ()), ())) :
    iter st f ((0 : Int), s, []) = some ((outS5 s, ()), ()) := by
  have h : ∀ (d i : Nat) (o : List Int) (f : Nat), i + d = 5 → o.length ≤ i → d < f → iter st f ((i : Int), s, o) = some ((o ++ ((List.range' i d).filter fun i => s.getD i false).map fun i : Nat => (i : Int), ()), ()) := by
    intro d
    induction d with
    | zero =>
      intro i o f hi ho hf
      obtain ⟨f, rfl⟩ : ∃ g, f = g + 1 := ⟨f - 1, by omega⟩
      obtain rfl : i = 5 := by omega
      rw [iter, he]; simp
    | succ d ih =>
      intro i o f hi ho hf
      obtain ⟨f, rfl⟩ : ∃ g, f = g + 1 := ⟨f - 1, by omega⟩
      rw [iter, hs i o _ (by omega) ho, ih (i + 1) _ f (by omega) (by rcases s.getD i false with _ | _ <;> simp <;> omega) (by omega), List.range'_succ, List.filter_cons]
      split <;> simp
  have := h 5 0 [] f (by omega) (by simp) (by omega)
  simpa [outS5] using this
theorem lim5 {n : Nat} (h : n < 5) : n + 1 < LIM := by unfold LIM; omega
section
variable (f : Nat) (hf : 100 < f) (ns : List NodY) (L : List Bool) (hL : L.length = 25) (ws : List WorY) (ps : List (List (List Int)))
include hf
theorem zww (s : List Bool) (hs : s.length = 5) : iter (zdI f) f ((0 : Int), s, []) = some ((outS5 s, ()), ()) :=
  zpj hf (fun i o g hi ho => by
    show zdH f g _ = _
    unfold zdH
    simp only [zz_eq, hs, i5 hi, lt_cast hi, le_cast, hi, lim5 (show o.length < 5 by omega), decide_true, cond_true, Int.toNat_natCast, w64_up (show i < 4294967296 by omega)]
    cases s.getD i false <;> rfl)
  (fun o g => by
    show zdH f g _ = _
    unfold zdH
    simp only [n5, decide_false, cond_false])
theorem zwx (s : List Bool) (hs : s.length = 5) : iter (zfP f) f ((0 : Int), s, []) = some ((outS5 s, ()), ()) :=
  zpj hf (fun i o g hi ho => by
    show zdP f g _ = _
    unfold zdP
    simp only [zz_eq, hs, i5 hi, lt_cast hi, le_cast, hi, lim5 (show o.length < 5 by omega), decide_true, cond_true, Int.toNat_natCast, w64_up (show i < 4294967296 by omega)]
    cases s.getD i false <;> rfl)
  (fun o g => by
    show zdP f g _ = _
    unfold zdP
    simp only [n5, decide_false, cond_false])
theorem zwy : zfI f ((ns, L, ws, ps, ()), ()) = some ((reachL L, ()), ()) := by
  show zfH f (iter (zbg f) f) ns L ws ps = _
  unfold zfH reachL
  by_cases hL : L.length = 25
  · have hb : (zz L.length != (25 : Int)) = false := by rw [zz_eq, hL]; rfl
    rw [hb, cond_false, if_pos hL]
    have h : ∀ (d r : Nat) (s : List Bool) (g : Nat), r + d = 5 → s.length = 5 → d < g → iter (zbg f) g ((r : Int), s, ns, L, ws, ps) = some ((outS5 (rnds L d s), ()), ()) := by
      intro d
      induction d with
      | zero =>
        intro r s g hr hs hg
        obtain ⟨g, rfl⟩ : ∃ h, g = h + 1 := ⟨g - 1, by omega⟩
        obtain rfl : r = 5 := by omega
        rw [iter]
        show zbf f (iter (zbe f (iter (zbg f) g)) f) (iter (zdI f) f) _ _ = _
        unfold zbf
        simp only [n5, decide_false, cond_false]
        exact zww f hf s hs
      | succ d ih =>
        intro r s g hr hs hg
        obtain ⟨g, rfl⟩ : ∃ h, g = h + 1 := ⟨g - 1, by omega⟩
        rw [iter]
        show zbf f (iter (zbe f (iter (zbg f) g)) f) (iter (zdI f) f) _ _ = _
        unfold zbf
        simp only [i5 (show r < 5 by omega), decide_true, cond_true]
        rw [zwv f hf ns L hL ws ps _ r (by omega) s hs]
        exact ih (r + 1) _ g (by omega) (zpc (L := L) hs).1 (by omega)
    exact h 5 0 seen0 f (by omega) rfl (by omega)
  · have hb : (zz L.length != (25 : Int)) = true := by rw [zz_eq]; simp; omega
    rw [hb, cond_true, if_neg hL]
include hL
theorem zwz (g0 : zT → zl) (far : Nat) (hfar : far < 5) (s : List Bool) (hs : s.length = 5) :
    iter (zbl f g0) f ((0 : Int), (far : Int), (far : Int), (-1 : Int), s, ns, L, ws, ps) =
      cond ((List.range' 0 5).any fun o => s.getD o false && lk L o far) (some (((s, ns, L, ws, ps, ()), (far : Int)))) (g0 (((far + 1 : Nat) : Int), (-1 : Int), s, ns, L, ws, ps)) := by
  have h := iter_up (st := zbl f g0) (enc := fun o (_ : Unit) => ((o : Int), (far : Int), (far : Int), (-1 : Int), s, ns, L, ws, ps))
    (body := fun o k _ => cond (s.getD o false && lk L o far) (some (((s, ns, L, ws, ps, ()), (far : Int)))) (k ()))
    (fin := fun _ => g0 (((far + 1 : Nat) : Int), (-1 : Int), s, ns, L, ws, ps)) 5
    (fun o _ g ho => by
      show zbk f g0 g _ = _
      unfold zbk
      have h1 : (((o * 5 + far : Nat) : Int)) < ((25 : Nat) : Int) := by omega
      simp only [zz_eq, hs, i5 ho, lt_cast ho, le_cast, ho, h1, decide_true, cond_true, Int.toNat_natCast, mul5 ho hfar, w64_up (show o < 4294967296 by omega), hL]
      cases hx : s.getD o false with
      | true => simp only [cond_true, Bool.true_and, lk]
      | false => simp only [cond_false, Bool.false_and])
    (fun _ g => by
      show zbk f g0 g _ = _
      unfold zbk
      simp only [n5, decide_false, cond_false, w64_up (show far < 4294967296 by omega)])
    5 0 () f (by omega) (by omega)
  refine h.trans ?_
  rw [zph (fun _ _ => rfl)]
theorem zpk (s : List Bool) (hs : s.length = 5) : zdO f (s, ns, L, ws, ps, ()) = some (((s, ns, L, ws, ps, ()), match nxt L s with
    | some far => (far : Int)
    | none => -1)) := by
  show iter (zfN f) f ((0 : Int), (-1 : Int), s, ns, L, ws, ps) = _
  have h := iter_up (st := zfN f) (enc := fun far (_ : Unit) => ((far : Int), (-1 : Int), s, ns, L, ws, ps))
    (body := fun far k _ => cond (hit L s far) (some (((s, ns, L, ws, ps, ()), (far : Int)))) (k ()))
    (fin := fun _ => some (((s, ns, L, ws, ps, ()), (-1 : Int)))) 5
    (fun far _ g hfar => by
      show zbm f (iter (zbl f g) f) g _ = _
      unfold zbm
      simp only [zz_eq, hs, i5 hfar, lt_cast hfar, le_cast, hfar, decide_true, cond_true, Int.toNat_natCast, w64_up (show far < 4294967296 by omega)]
      cases hx : s.getD far false with
      | true => simp only [cond_true, hit, hx, Bool.not_true, Bool.false_and, cond_false]
      | false =>
        simp only [cond_false, hit, hx, Bool.not_false, Bool.true_and]
        exact zwz f hf ns L hL ws ps g far hfar s hs)
    (fun _ g => by
      show zbm f (iter (zbl f g) f) g _ = _
      unfold zbm
      simp only [n5, decide_false, cond_false])
    5 0 () f (by omega) (by omega)
  refine h.trans ?_
  rw [zpi (fun _ _ => rfl)]
  unfold nxt
  split <;> simp_all
theorem implLoop : ∀ (n : Nat) (s : List Bool) (g : Nat), s.length = 5 → 6 ≤ s.count true + n → n < g →
    iter (zfR f) g ((match nxt L s with
      | some far => (far : Int)
      | none => -1), s, ns, L, ws, ps) = some ((outS5 (ones L n s), ()), ()) := by
  intro n
  induction n with
  | zero => intro s g hs hn _; have := List.count_le_length (a := true) (l := s); omega
  | succ n ih =>
    intro s g hs hn hg
    obtain ⟨g, rfl⟩ : ∃ h, g = h + 1 := ⟨g - 1, by omega⟩
    rw [iter]
    show zfQ f (iter (zfP f) f) _ _ = _
    unfold zfQ
    cases hx : nxt L s with
    | none =>
      simp only [hx, show ¬ ((-1 : Int) ≥ 0) by decide, decide_false, cond_false, ones]
      exact zwx f hf s hs
    | some far =>
      obtain ⟨h1, h2, o, h3, h4, h5⟩ := zpe hx
      have hl : (s.set far true).length = 5 := by simp [hs]
      have hm : ∀ i, on s i → on (s.set far true) i := fun i hi => (on_set (by omega)).2 (by split <;> simp_all)
      have hne : s ≠ s.set far true := fun e => h2 (by rw [e]; exact (on_set (by omega)).2 (by simp))
      have hg := (grow (hs.trans hl.symm) hm).resolve_left hne
      have h6 : ((far : Int) ≥ 0) := by omega
      simp only [hx, zz_eq, h6, hs, lt_cast h1, le_cast, h1, decide_true, cond_true, Int.toNat_natCast, zpk f hf ns L hL ws ps _ hl, Option.bind_some, ones]
      exact ih _ g hl (by omega) (by omega)
omit hL
theorem zwA : zdQ f ((ns, L, ws, ps, ()), ()) = some ((reachL L, ()), ()) := by
  show zfS f (iter (zfR f) f) ns L ws ps = _
  unfold zfS reachL
  by_cases hL : L.length = 25
  · have hb : (zz L.length != (25 : Int)) = false := by rw [zz_eq, hL]; rfl
    rw [hb, cond_false, if_pos hL]
    have e : List.set (List.replicate 5 false) (Int.toNat (0 : Int)) true = seen0 := rfl
    rw [e, zpk f hf ns L hL ws ps seen0 rfl, Option.bind_some, ← ones_eq]
    exact implLoop f hf ns L hL ws ps 5 seen0 f rfl (by decide) (by omega)
  · have hb : (zz L.length != (25 : Int)) = true := by rw [zz_eq]; simp; omega
    rw [hb, cond_true, if_neg hL]
end
end Go.Proofs.Ytmkekjmckdkcnaa.Den
