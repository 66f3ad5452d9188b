/- Part 7 of the texts behind the row. -/
import Derived.Test.YtmkekjmckdkcnaaAEN6
import Derived.WalkKit
import Derived.OpenShut
import Derived.ChangeArms
set_option linter.unusedVariables false
set_option linter.unusedSimpArgs false
namespace Go.Proofs.Ytmkekjmckdkcnaa.Den
open Go Go.RowKit
def fldsOK (P : Program) (f : TypeId → Kd → Bool) : List Field → Nat → Kd → Bool
  | [], _, .unit => true
  | x :: fs, off, .pair a b => Nat.beq x.offset off && (Nat.beq (P.cellsOf x.type) a.sz && (f x.type a && fldsOK P f fs (off + a.sz) b))
  | _, _, _ => false
def tyOK (P : Program) : Nat → TypeId → Kd → Bool
  | 0, _, _ => false
  | n + 1, t, .int k => match P.underlying t with
    | some (.int k') => decide (k' = k)
    | _ => false
  | n + 1, t, .bool => match P.underlying t with
    | some .bool => true
    | _ => false
  | n + 1, t, .list e => match P.underlying t with
    | some (.slice u) => tyOK P n u e && (Nat.beq (P.cellsOf u) e.sz && Nat.blt 0 e.sz)
    | _ => false
  | n + 1, t, .unit => match P.underlying t with
    | some (.struct fs) => fldsOK P (tyOK P n) fs.toList 0 .unit
    | _ => false
  | n + 1, t, .pair a b => match P.underlying t with
    | some (.struct fs) => fldsOK P (tyOK P n) fs.toList 0 (.pair a b)
    | _ => false
def wfD : (K : Kd) → K.T → Prop
  | .int k, n => (Lit.int k n).wf = true
  | .bool, _ => True
  | .unit, _ => True
  | .pair a b, x => wfD a x.1 ∧ wfD b x.2
  | .list e, xs => xs.length ≤ maxLen ∧ ∀ x ∈ xs, wfD e x
theorem zmA {α β : Type} {f : α → Option β} : ∀ {l : List α} {ys : List β}, l.mapM f = some ys → ys.length = l.length ∧ ∀ (i : Nat) (x : α), l[i]? = some x → ∃ y, ys[i]? = some y ∧ f x = some y
  | [], ys, h => by simp at h; subst h; simp
  | x :: l, ys, h => by
    rw [List.mapM_cons] at h
    simp only [Option.bind_eq_bind, Option.bind_eq_some_iff, Option.pure_def, Option.some.injEq] at h
    obtain ⟨y, h1, ys', h2, rfl⟩ := h
    obtain ⟨h3, h4⟩ := zmA h2
    refine ⟨by simp [h3], fun i z hz => ?_⟩
    cases i with
    | zero => simp at hz; subst hz; exact ⟨y, by simp, h1⟩
    | succ i => simpa using h4 i z (by simpa using hz)
theorem zsw {β : Type} {f : Nat → Option β} {n : Nat} {ys : List β} (h : (List.range n).mapM f = some ys) : ys.length = n ∧ ∀ i, i < n → ∃ y, ys[i]? = some y ∧ f i = some y := by
  obtain ⟨h1, h2⟩ := zmA h
  exact ⟨by simpa using h1, fun i hi => h2 i i (by simp [hi])⟩
theorem zmB {α : Type} {p : Nat → α → Prop} : ∀ {n : Nat}, (∀ i, i < n → ∃ x, p i x) → ∃ xs : List α, xs.length = n ∧ ∀ (i : Nat) (x : α), xs[i]? = some x → p i x
  | 0, _ => ⟨[], rfl, fun i x h => by simp at h⟩
  | n + 1, h => by
    obtain ⟨xs, h1, h2⟩ := zmB (n := n) fun i hi => h i (by omega)
    obtain ⟨x, hx⟩ := h n (by omega)
    refine ⟨xs ++ [x], by simp [h1], fun i y hy => ?_⟩
    rcases Nat.lt_trichotomy i n with h3 | h3 | h3
    · rw [List.getElem?_append_left (by omega)] at hy; exact h2 i y hy
    · subst h3
      rw [List.getElem?_append_right (by omega), h1] at hy
      simp at hy; subst hy; exact hx
    · rw [List.getElem?_eq_none (by simp; omega)] at hy; cases hy
theorem cells?_spec {w : World} {base : Nat} {a : Addr} {n : Nat} {es : List Value} (h : w.cells? base a n = some es) : es.length = n ∧ ∀ j u, es[j]? = some u → w.cell? (a.add j) = some u := by
  unfold World.cells? at h
  split at h
  · obtain ⟨h1, h2⟩ := zsw h
    refine ⟨h1, fun j u hu => ?_⟩
    have hj : j < n := by have := (List.getElem?_eq_some_iff.1 hu).1; omega
    obtain ⟨y, h3, h4⟩ := h2 j hj
    rw [hu] at h3; cases h3; exact h4
  · cases h
theorem cell?_lt {w : World} {a : Addr} {u : Value} (h : w.cell? a = some u) : a.block < w.heap.size := by
  unfold World.cell? at h
  split at h
  · rename_i h1; exact (Array.getElem?_eq_some_iff.1 h1).1
  · cases h
section
variable {H : Type} {enc : TypeId × Value → H} {P : Program} {w : World} {base : Nat} {spare : Nat → Bool} {held : Bool}
theorem zmC {n fuel : Nat} (ih : ∀ {t : TypeId} {K : Kd} {cs : List Value} {d : DataW H} {ps : List MemPlace}, tyOK P n t K = true → P.cellsOf t = K.sz → DataW.trod enc P w base spare held fuel t cs = some (d, ps) → ∃ x : K.T, CRel w (fun b => b < w.heap.size) K x cs ∧ wfD K x) :
    ∀ {fs : List Field} {off : Nat} {K : Kd} {cs : List Value} {l : List (DataW H × List MemPlace)}, fldsOK P (tyOK P n) fs off K = true → cs.length = off + K.sz →
      (fs.mapM fun f => DataW.trod enc P w base spare held fuel f.type ((cs.drop f.offset).take (P.cellsOf f.type))) = some l → ∃ x : K.T, CRel w (fun b => b < w.heap.size) K x (cs.drop off) ∧ wfD K x
  | [], off, K, cs, l, ho, hl, h => by
    cases K with
    | unit => exact ⟨(), by simp only [CRel]; exact List.drop_eq_nil_of_le (by simp [Kd.sz] at hl; omega), trivial⟩
    | _ => simp [fldsOK] at ho
  | f :: fs, off, K, cs, l, ho, hl, h => by
    cases K with
    | pair a b =>
      simp only [fldsOK, Bool.and_eq_true] at ho
      obtain ⟨h1, h2, h3, h4⟩ := ho
      rw [List.mapM_cons] at h
      simp only [Option.bind_eq_bind, Option.bind_eq_some_iff, Option.pure_def, Option.some.injEq] at h
      obtain ⟨⟨d1, p1⟩, h5, l', h6, _⟩ := h
      rw [Nat.eq_of_beq_eq_true h1, Nat.eq_of_beq_eq_true h2] at h5
      obtain ⟨x, hx, wx⟩ := ih h3 (Nat.eq_of_beq_eq_true h2) h5
      simp only [Kd.sz] at hl
      obtain ⟨y, hy, wy⟩ := zmC ih h4 (by omega) h6
      refine ⟨(x, y), ?_, wx, wy⟩
      simp only [CRel]
      refine ⟨_, _, ?_, hx, hy⟩
      rw [← List.drop_drop]
      exact (List.take_append_drop a.sz (cs.drop off)).symm
    | _ => simp [fldsOK] at ho
theorem zhw : ∀ {n : Nat} {t : TypeId} {K : Kd} {fuel : Nat} {cs : List Value} {d : DataW H} {ps : List MemPlace}, tyOK P n t K = true → P.cellsOf t = K.sz → DataW.trod enc P w base spare held fuel t cs = some (d, ps) →
    ∃ x : K.T, CRel w (fun b => b < w.heap.size) K x cs ∧ wfD K x
  | 0, t, K, fuel, cs, d, ps, ho, hsz, h => by simp [tyOK] at ho
  | n + 1, t, K, 0, cs, d, ps, ho, hsz, h => by simp [DataW.trod] at h
  | n + 1, t, K, fuel + 1, cs, d, ps, ho, hsz, h => by
    have strct : ∀ {fs : Array Field}, P.underlying t = some (.struct fs) → fldsOK P (tyOK P n) fs.toList 0 K = true → ∃ x : K.T, CRel w (fun b => b < w.heap.size) K x cs ∧ wfD K x := by
      intro fs hu hf
      unfold DataW.trod at h
      simp only [hu] at h
      split at h
      · rename_i hl
        simp only [Option.map_eq_some_iff] at h
        obtain ⟨l, h1, _⟩ := h
        exact zmC (off := 0) (fun h2 h3 h4 => zhw h2 h3 h4) hf (by rw [hl, hsz]; omega) h1
      · cases h
    cases K with
    | int k =>
      simp only [tyOK] at ho
      split at ho
      · rename_i k' hu
        obtain rfl : k' = k := by simpa using ho
        obtain ⟨m, rfl, _, hw⟩ := DataW.trod_int hu h
        exact ⟨m, by simp [CRel], hw⟩
      · cases ho
    | bool =>
      simp only [tyOK] at ho
      split at ho
      · rename_i hu
        obtain ⟨b, rfl, _⟩ := DataW.trod_bool hu h
        exact ⟨b, by simp [CRel], trivial⟩
      · cases ho
    | unit =>
      simp only [tyOK] at ho
      split at ho
      · rename_i fs hu; exact strct hu ho
      · cases ho
    | pair a b =>
      simp only [tyOK] at ho
      split at ho
      · rename_i fs hu; exact strct hu ho
      · cases ho
    | list e =>
      simp only [tyOK] at ho
      split at ho
      · rename_i u hu
        simp only [Bool.and_eq_true] at ho
        obtain ⟨h1, h2, h3⟩ := ho
        have hes := Nat.eq_of_beq_eq_true h2
        have hpos : 0 < e.sz := by simpa [Nat.blt_eq] using h3
        rcases DataW.trod_slice hu h with ⟨rfl, _⟩ | ⟨ad, len, cap, elems, rest, m, _, rfl, _, _, hb1, hb2, hel, h6, _⟩
        · exact ⟨[], by simp only [CRel]; exact ⟨none, 0, rfl, Nat.le_refl _, fun h => by simp at h⟩, by simp [wfD]⟩
        · obtain ⟨xs, h7, h8⟩ := zmB (p := fun i (x : e.T) => ∃ es, CRel w (fun b => b < w.heap.size) e x es ∧ wfD e x ∧ ∀ (j : Nat) (u : Value), es[j]? = some u → w.cell? (ad.add (i * e.sz + j)) = some u) (n := len) (fun i hi => by
            have h8 := h6 i hi
            rw [List.getElem?_eq_getElem (by omega), Option.bind_eq_some_iff] at h8
            obtain ⟨es, h9, h10⟩ := h8
            obtain ⟨x, h11, h12⟩ := zhw h1 hes h10
            obtain ⟨_, h13⟩ := cells?_spec h9
            exact ⟨x, es, h11, h12, fun j v hj => by have := h13 j v hj; rw [add_add, hes] at this; exact this⟩)
          refine ⟨xs, ?_, by rw [h7]; omega, fun x hx => ?_⟩
          · simp only [CRel]
            refine ⟨some ad, cap, by rw [h7], by rw [h7]; exact hb1, fun h0 => ⟨ad, rfl, ?_, fun i x hx => ?_⟩⟩
            · obtain ⟨es, h9, _, h10⟩ := h8 0 xs[0] (List.getElem?_eq_getElem h0)
              have h11 := h9.length
              have h12 : 0 < es.length := by omega
              have := cell?_lt (h10 0 es[0] (List.getElem?_eq_getElem h12))
              rw [zcX] at this; exact this
            · obtain ⟨es, h9, _, h10⟩ := h8 i x hx
              exact ⟨es, h9, h10⟩
          · obtain ⟨i, hi⟩ := List.mem_iff_getElem?.1 hx
            obtain ⟨es, _, h9, _⟩ := h8 i x hi
            exact h9
      · cases ho
end
def Kd.flat : Kd → List Kd
  | .unit => []
  | .pair a b => a.flat ++ b.flat
  | K => [K]
def wfCs : (cs : List (Kd × Bool)) → CsT cs → Prop
  | [], _ => True
  | (K, _) :: r, x => wfD K x.1 ∧ wfCs r x.2
theorem zhx {w : World} {B : Nat → Prop} {K : Kd} {x : K.T} {cs : List Value} (h1 : K.sz = 1) (h : CRel w B K x cs) (hw : wfD K x) (r : List (Kd × Bool)) (y : CsT r) (us : List Value) (hr : CsRel w B r y us) (hwr : wfCs r y) :
    ∃ z : CsT ((K, false) :: r), CsRel w B ((K, false) :: r) z (cs ++ us) ∧ wfCs ((K, false) :: r) z := by
  have hl := h.length
  rw [h1] at hl
  match cs, hl with
  | [u], _ => exact ⟨(x, y), by simp only [CsRel]; exact ⟨u, us, rfl, h, hr⟩, hw, hwr⟩
theorem zhy {w : World} {B : Nat → Prop} : ∀ {K : Kd} {x : K.T} {cs : List Value}, CRel w B K x cs → wfD K x → ∀ (r : List (Kd × Bool)) (y : CsT r) (us : List Value), CsRel w B r y us → wfCs r y →
    ∃ z : CsT (K.flat.map (·, false) ++ r), CsRel w B (K.flat.map (·, false) ++ r) z (cs ++ us) ∧ wfCs (K.flat.map (·, false) ++ r) z
  | .int k, x, cs, h, hw, r, y, us, hr, hwr => zhx (K := .int k) rfl h hw r y us hr hwr
  | .bool, x, cs, h, hw, r, y, us, hr, hwr => zhx (K := .bool) rfl h hw r y us hr hwr
  | .list e, x, cs, h, hw, r, y, us, hr, hwr => zhx (K := .list e) rfl h hw r y us hr hwr
  | .unit, x, cs, h, hw, r, y, us, hr, hwr => by
    simp only [CRel] at h
    subst h
    exact ⟨y, hr, hwr⟩
  | .pair a b, x, cs, h, hw, r, y, us, hr, hwr => by
    simp only [CRel] at h
    obtain ⟨c1, c2, rfl, h1, h2⟩ := h
    obtain ⟨z1, hz1, wz1⟩ := zhy h2 hw.2 r y us hr hwr
    obtain ⟨z2, hz2, wz2⟩ := zhy h1 hw.1 _ z1 _ hz1 wz1
    have e : (Kd.pair a b).flat.map (·, false) ++ r = a.flat.map (·, false) ++ (b.flat.map (·, false) ++ r) := by simp only [Kd.flat, List.map_append, List.append_assoc]
    rw [e, List.append_assoc]
    exact ⟨z2, hz2, wz2⟩
section
variable {H : Type} {enc : TypeId × Value → H} {P : Program} {w : World} {base : Nat} {spare : Nat → Bool} {held : Bool}
theorem zsx {n : Nat} {t : TypeId} (K : Kd) {v : Value} {d : DataW H} {ps : List MemPlace} (ho : tyOK P n t K = true) (hsz : P.cellsOf t = K.sz) (h : DataW.Trod enc P w base spare held t v d ps) {cs : List (Kd × Bool)} (hcs : K.flat.map (·, false) ++ [] = cs) :
    ∃ z : CsT cs, CsRel w (fun b => b < w.heap.size ∧ ¬ False) cs z v.cells.toList ∧ wfCs cs z := by
  obtain ⟨m, hm⟩ := h
  obtain ⟨x, hx, hw⟩ := zhw ho hsz hm
  subst hcs
  have := zhy (CRel.mono (B' := fun b => b < w.heap.size ∧ ¬ False) (fun b hb => ⟨hb, id⟩) (fun _ _ => rfl) hx) hw [] () [] rfl trivial
  simpa using this
end
@[reducible] def boolRs : List Pm := [{ cs := [(Kd.bool, false)], ag := false }]
theorem zsy {P : Program} {f : FuncId} {ps : List Pm} {fl : Bool} {fn : PsT ps → Option (PsT boolRs)} (h : FnSpec P f ⟨ps, boolRs, fl, fn⟩) {w : World} {vs : List Value} {x : PsT ps} {b : Bool}
    (hps : PsRel w (fun b => b < w.heap.size ∧ ¬ False) ps x vs) (hfn : fn x = some ((b, ()), ())) :
    Calls P f vs.toArray w fun e w' => e = .returned (.bool b) ∧ Below w.heap.size w w' := by
  refine Calls.mono (h w (fun _ => False) vs x _ (fun _ h => h.elim) hps hfn) fun e w' he => ?_
  obtain ⟨us, tk, rfl, h1, h2, h3, h4, h5, _, _, h6⟩ := he
  refine ⟨?_, ⟨h1, h2, h3, h4, h5⟩⟩
  simp only [boolRs, PsOut, CsOut] at h6
  obtain ⟨v, vs', t1, t2, e1, _, ⟨u, us', e2, h7, h8, _⟩, h9, _⟩ := h6
  simp only [CRel] at h7
  simp at h7 e2
  obtain ⟨rfl, rfl⟩ := e2
  subst h7; subst h9
  have : us = #[.bool b] := Array.toList_inj.1 (by simpa using e1)
  subst this
  simp [resU]
end Go.Proofs.Ytmkekjmckdkcnaa.Den
namespace Go.Proofs.Ytmkekjmckdkcnaa.Den
open Go Go.RowKit
abbrev EntY := Int × Int × Int × ((List (List Int) × Unit) × (List Int × Unit) × (LP × Int × Int × Unit) × (LP × Int × Unit) × Unit) × Unit
abbrev EntF := Int × Int × Int × SumY
abbrev NodY := Int × List EntY × Int × Int × Int × Unit
abbrev WorY := Int × Int × Int × Int × Int × List EntY × Unit
abbrev NetY := List NodY × List Bool × List WorY × List (List (List Int)) × Unit
abbrev dE : EntY := (0, (0, (0, ((([], ()), (([], ()), (([], (0, (0, ()))), (([], (0, ())), ())))), ()))))
abbrev dN : NodY := (0, ([], (0, (0, (0, ())))))
abbrev dW : WorY := (0, (0, (0, (0, (0, ([], ()))))))
def zbo (fuel : Nat) : Tab := Tab.of [] []
abbrev zdk : List Pm := [{ cs := [(Kd.list I6, false)], ag := false }, { cs := [(Kd.list I6, false)], ag := false }]
abbrev zbp : List Pm := [{ cs := [(Kd.bool, false)], ag := false }]
def zhW : List Norm := [{ live := [5, 0, 1], fix := [] }]
noncomputable def zbq : C := irOf Try.prog Try.f9 [] zhW []
theorem zny : lightC Try.prog [] Try.f9.ntmps zhW [] 0 (bodyOf Try.f9) = some (zbq, 1) := by kernel_rfl
def zbr : List (Nat × Option (Nat × Bool)) := [(4, none)]
abbrev zae := (Int) × (List Int) × (List Int)
def zhX (v : zae) : Env × Heap := ([(5, SV.int .i64 v.1), (0, SV.es I6 v.2.1), (1, SV.es I6 v.2.2)], [])
def zbs (fuel : Nat) (g0 : zae → Option ((Bool × Unit) × Unit)) (v : zae) : Option ((Bool × Unit) × Unit) :=
 cond (decide (v.1 < (zz (List.length v.2.1))))
 (tst (decide (0 ≤ v.1)) <|
 tst (decide (v.1 < (zz (List.length v.2.1)))) <|
 tst (decide (0 ≤ v.1)) <|
 tst (decide (v.1 < (zz (List.length v.2.2)))) <|
 cond (List.getD v.2.1 (Int.toNat v.1) 0 != List.getD v.2.2 (Int.toNat v.1) 0)
 (some (((false, ()), ())))
 (g0 (w64 (v.1 + (1 : Int)), v.2.1, v.2.2)))
 (some (((true, ()), ())))
def zdl (fuel : Nat) (g0 : zae → Option ((Bool × Unit) × Unit)) : zae → Option ((Bool × Unit) × Unit) := zbs fuel g0
theorem znz (fuel : Nat) (G) : zbq.lp (zbo fuel) 0 fuel G (endF zbr zbp) 0 zhX = iter (zdl fuel) fuel := C.lp_iter fun g v => by kernel_rfl
def zdm (fuel : Nat) (X0 : zae → Option ((Bool × Unit) × Unit)) (x0 : List Int) (x1 : List Int) : Option ((Bool × Unit) × Unit) :=
 cond ((zz (List.length x0)) != (zz (List.length x1)))
 (some (((false, ()), ())))
 (X0 ((0 : Int), x0, x1))
def zS (fuel : Nat) (x : (((List Int) × Unit) × (((List Int) × Unit) × Unit))) : Option ((Bool × Unit) × Unit) := zdm fuel (iter (zdl fuel) fuel) x.1.1 x.2.1.1
theorem znA (fuel : Nat) (x : PsT zdk) : run (zbo fuel) 0 fuel zbq (env0 (svPs zdk x) 0) [] (endF zbr zbp) = zS fuel x :=
  (show run (zbo fuel) 0 fuel zbq (env0 (svPs zdk x) 0) [] (endF zbr zbp) = zdm fuel (zbq.lp (zbo fuel) 0 fuel (fun _ _ _ => none) (endF zbr zbp) 0 zhX) x.1.1 x.2.1.1 by kernel_rfl).trans (by rw [znz]; rfl)
def zbt (fuel : Nat) : TF := ⟨zdk, zbp, true, zS fuel⟩
theorem znB (fuel : Nat) : FnSpec Try.prog 9 (zbt fuel) :=
  fn_spec (T := zbo fuel) (c := bodyOf Try.f9) (fn := Try.f9) (TabOK.of (entNil) (methNil)) mixed (by kernel_rfl) (by kernel_rfl) zny (by kernel_rfl) (Nat.le_of_ble_eq_true (by kernel_rfl)) (rv := zbr) (by kernel_rfl) (znA fuel)
theorem zfk (fuel : Nat) : EntryOK Try.prog 9 (zbt fuel).te := EntryOK.tf rfl (znB fuel) (isFn (fn := Try.f9) (by kernel_rfl) (by kernel_rfl) (by kernel_rfl))
def zbu (fuel : Nat) : Tab := Tab.of [(9, (zbt fuel).te)] []
abbrev zdn : List Pm := [{ cs := [(Kd.list (Kd.list I6), false)], ag := false }, { cs := [(Kd.list (Kd.list I6), false)], ag := false }]
abbrev zbv : List Pm := [{ cs := [(Kd.bool, false)], ag := false }]
def zhY : List Norm := [{ live := [5, 0, 1], fix := [] }]
noncomputable def zbw : C := irOf Try.prog Try.f54 [] zhY []
theorem znC : lightC Try.prog [] Try.f54.ntmps zhY [] 0 (bodyOf Try.f54) = some (zbw, 1) := by kernel_rfl
def zbx : List (Nat × Option (Nat × Bool)) := [(4, none)]
abbrev zaf := (Int) × (List (List Int)) × (List (List Int))
def zhZ (v : zaf) : Env × Heap := ([(5, SV.int .i64 v.1), (0, SV.es (Kd.list I6) v.2.1), (1, SV.es (Kd.list I6) v.2.2)], [])
def zby (fuel : Nat) (g0 : zaf → Option ((Bool × Unit) × Unit)) (v : zaf) : Option ((Bool × Unit) × Unit) :=
 cond (decide (v.1 < (zz (List.length v.2.1))))
 (tst (decide (0 ≤ v.1)) <|
 tst (decide (v.1 < (zz (List.length v.2.1)))) <|
 tst (decide (0 ≤ v.1)) <|
 tst (decide (v.1 < (zz (List.length v.2.2)))) <|
 Option.bind (zS fuel ((List.getD v.2.1 (Int.toNat v.1) [], ()), (List.getD v.2.2 (Int.toNat v.1) [], ()), ())) fun y_2 =>
 cond (!y_2.1.1)
 (some (((false, ()), ())))
 (g0 (w64 (v.1 + (1 : Int)), v.2.1, v.2.2)))
 (some (((true, ()), ())))
def zdo (fuel : Nat) (g0 : zaf → Option ((Bool × Unit) × Unit)) : zaf → Option ((Bool × Unit) × Unit) := zby fuel g0
theorem znD (fuel : Nat) (G) : zbw.lp (zbu fuel) 0 fuel G (endF zbx zbv) 0 zhZ = iter (zdo fuel) fuel := C.lp_iter fun g v => by kernel_rfl
def zdp (fuel : Nat) (X0 : zaf → Option ((Bool × Unit) × Unit)) (x0 : List (List Int)) (x1 : List (List Int)) : Option ((Bool × Unit) × Unit) :=
 cond ((zz (List.length x0)) != (zz (List.length x1)))
 (some (((false, ()), ())))
 (X0 ((0 : Int), x0, x1))
def zag (fuel : Nat) (x : (((List (List Int)) × Unit) × (((List (List Int)) × Unit) × Unit))) : Option ((Bool × Unit) × Unit) := zdp fuel (iter (zdo fuel) fuel) x.1.1 x.2.1.1
theorem znE (fuel : Nat) (x : PsT zdn) : run (zbu fuel) 0 fuel zbw (env0 (svPs zdn x) 0) [] (endF zbx zbv) = zag fuel x :=
  (show run (zbu fuel) 0 fuel zbw (env0 (svPs zdn x) 0) [] (endF zbx zbv) = zdp fuel (zbw.lp (zbu fuel) 0 fuel (fun _ _ _ => none) (endF zbx zbv) 0 zhZ) x.1.1 x.2.1.1 by kernel_rfl).trans (by rw [znD]; rfl)
def zdq (fuel : Nat) : TF := ⟨zdn, zbv, true, zag fuel⟩
theorem znF (fuel : Nat) : FnSpec Try.prog 54 (zdq fuel) :=
  fn_spec (T := zbu fuel) (c := bodyOf Try.f54) (fn := Try.f54) (TabOK.of (entCons (zfk fuel) entNil) (methNil)) mixed (by kernel_rfl) (by kernel_rfl) znC (by kernel_rfl) (Nat.le_of_ble_eq_true (by kernel_rfl)) (rv := zbx) (by kernel_rfl) (znE fuel)
theorem zh0 (fuel : Nat) : EntryOK Try.prog 54 (zdq fuel).te := EntryOK.tf rfl (znF fuel) (isFn (fn := Try.f54) (by kernel_rfl) (by kernel_rfl) (by kernel_rfl))
def zh1 (fuel : Nat) : Tab := Tab.of [(54, (zdq fuel).te)] []
abbrev zfl : List Pm := [{ cs := [(Kd.list (Kd.list I6), false)], ag := true }, { cs := [(Kd.list (Kd.list I6), false)], ag := true }]
abbrev zh2 : List Pm := [{ cs := [(Kd.bool, false)], ag := false }]
def zh3 : List Norm := []
noncomputable def zh4 : C := irOf Try.prog Try.f85 [] zh3 []
theorem znG : lightC Try.prog [] Try.f85.ntmps zh3 [] 0 (bodyOf Try.f85) = some (zh4, 0) := by kernel_rfl
def zh5 : List (Nat × Option (Nat × Bool)) := [(4, none)]
def zfm (fuel : Nat) (x0 : List (List Int)) (x1 : List (List Int)) : Option ((Bool × Unit) × Unit) :=
 Option.bind (zag fuel ((x0, ()), (x1, ()), ())) fun y_1 =>
 cond (!y_1.1.1)
 (some (((false, ()), ())))
 (some (((true, ()), ())))
def zdr (fuel : Nat) (x : (((List (List Int)) × Unit) × (((List (List Int)) × Unit) × Unit))) : Option ((Bool × Unit) × Unit) := zfm fuel x.1.1 x.2.1.1
theorem znH (fuel : Nat) (x : PsT zfl) : run (zh1 fuel) 0 fuel zh4 (env0 (svPs zfl x) 0) [] (endF zh5 zh2) = zdr fuel x := by kernel_rfl
def zfn (fuel : Nat) : TF := ⟨zfl, zh2, true, zdr fuel⟩
theorem znI (fuel : Nat) : FnSpec Try.prog 85 (zfn fuel) :=
  fn_spec (T := zh1 fuel) (c := bodyOf Try.f85) (fn := Try.f85) (TabOK.of (entCons (zh0 fuel) entNil) (methNil)) mixed (by kernel_rfl) (by kernel_rfl) znG (by kernel_rfl) (Nat.le_of_ble_eq_true (by kernel_rfl)) (rv := zh5) (by kernel_rfl) (znH fuel)
theorem znJ (fuel : Nat) : EntryOK Try.prog 85 (zfn fuel).te := EntryOK.tf rfl (znI fuel) (isFn (fn := Try.f85) (by kernel_rfl) (by kernel_rfl) (by kernel_rfl))
def zh6 (fuel : Nat) : Tab := Tab.of [(9, (zbt fuel).te)] []
abbrev zfo : List Pm := [{ cs := [(Kd.list I6, false)], ag := true }, { cs := [(Kd.list I6, false)], ag := true }]
abbrev zh7 : List Pm := [{ cs := [(Kd.bool, false)], ag := false }]
def zh8 : List Norm := []
noncomputable def zh9 : C := irOf Try.prog Try.f86 [] zh8 []
theorem znK : lightC Try.prog [] Try.f86.ntmps zh8 [] 0 (bodyOf Try.f86) = some (zh9, 0) := by kernel_rfl
def zia : List (Nat × Option (Nat × Bool)) := [(4, none)]
def zfp (fuel : Nat) (x0 : List Int) (x1 : List Int) : Option ((Bool × Unit) × Unit) :=
 Option.bind (zS fuel ((x0, ()), (x1, ()), ())) fun y_1 =>
 cond (!y_1.1.1)
 (some (((false, ()), ())))
 (some (((true, ()), ())))
def zds (fuel : Nat) (x : (((List Int) × Unit) × (((List Int) × Unit) × Unit))) : Option ((Bool × Unit) × Unit) := zfp fuel x.1.1 x.2.1.1
theorem znL (fuel : Nat) (x : PsT zfo) : run (zh6 fuel) 0 fuel zh9 (env0 (svPs zfo x) 0) [] (endF zia zh7) = zds fuel x := by kernel_rfl
def zfq (fuel : Nat) : TF := ⟨zfo, zh7, true, zds fuel⟩
theorem znM (fuel : Nat) : FnSpec Try.prog 86 (zfq fuel) :=
  fn_spec (T := zh6 fuel) (c := bodyOf Try.f86) (fn := Try.f86) (TabOK.of (entCons (zfk fuel) entNil) (methNil)) mixed (by kernel_rfl) (by kernel_rfl) znK (by kernel_rfl) (Nat.le_of_ble_eq_true (by kernel_rfl)) (rv := zia) (by kernel_rfl) (znL fuel)
theorem znN (fuel : Nat) : EntryOK Try.prog 86 (zfq fuel).te := EntryOK.tf rfl (znM fuel) (isFn (fn := Try.f86) (by kernel_rfl) (by kernel_rfl) (by kernel_rfl))
def zib (fuel : Nat) : Tab := Tab.of [] []
abbrev zfr : List Pm := [{ cs := [(I6, false), (I6, false)], ag := true }, { cs := [(I6, false), (I6, false)], ag := true }]
abbrev zic : List Pm := [{ cs := [(Kd.bool, false)], ag := false }]
def zid : List Norm := []
noncomputable def zie : C := irOf Try.prog Try.f103 [] zid []
theorem znO : lightC Try.prog [] Try.f103.ntmps zid [] 0 (bodyOf Try.f103) = some (zie, 0) := by kernel_rfl
def zif : List (Nat × Option (Nat × Bool)) := [(4, none)]
def zfs (fuel : Nat) (x0 : Int) (x1 : Int) (x2 : Int) (x3 : Int) : Option ((Bool × Unit) × Unit) :=
 cond (x0 != x2)
 (some (((false, ()), ())))
 (cond (x1 != x3)
 (some (((false, ()), ())))
 (some (((true, ()), ()))))
def zdt (fuel : Nat) (x : ((Int × (Int × Unit)) × ((Int × (Int × Unit)) × Unit))) : Option ((Bool × Unit) × Unit) := zfs fuel x.1.1 x.1.2.1 x.2.1.1 x.2.1.2.1
theorem znP (fuel : Nat) (x : PsT zfr) : run (zib fuel) 0 fuel zie (env0 (svPs zfr x) 0) [] (endF zif zic) = zdt fuel x := by kernel_rfl
def zft (fuel : Nat) : TF := ⟨zfr, zic, true, zdt fuel⟩
theorem znQ (fuel : Nat) : FnSpec Try.prog 103 (zft fuel) :=
  fn_spec (T := zib fuel) (c := bodyOf Try.f103) (fn := Try.f103) (TabOK.of (entNil) (methNil)) mixed (by kernel_rfl) (by kernel_rfl) znO (by kernel_rfl) (Nat.le_of_ble_eq_true (by kernel_rfl)) (rv := zif) (by kernel_rfl) (znP fuel)
theorem znR (fuel : Nat) : EntryOK Try.prog 103 (zft fuel).te := EntryOK.tf rfl (znQ fuel) (isFn (fn := Try.f103) (by kernel_rfl) (by kernel_rfl) (by kernel_rfl))
def zbz (fuel : Nat) : Tab := Tab.of [(103, (zft fuel).te)] []
abbrev zdu : List Pm := [{ cs := [(Kd.list KP, false)], ag := false }, { cs := [(Kd.list KP, false)], ag := false }]
abbrev zbA : List Pm := [{ cs := [(Kd.bool, false)], ag := false }]
def zig : List Norm := [{ live := [5, 0, 1], fix := [] }]
noncomputable def zbB : C := irOf Try.prog Try.f97 [] zig []
theorem znS : lightC Try.prog [] Try.f97.ntmps zig [] 0 (bodyOf Try.f97) = some (zbB, 1) := by kernel_rfl
def zbC : List (Nat × Option (Nat × Bool)) := [(4, none)]
abbrev zah := (Int) × LP × LP
def zih (v : zah) : Env × Heap := ([(5, SV.int .i64 v.1), (0, SV.es KP v.2.1), (1, SV.es KP v.2.2)], [])
def zbD (fuel : Nat) (g0 : zah → Option ((Bool × Unit) × Unit)) (v : zah) : Option ((Bool × Unit) × Unit) :=
 cond (decide (v.1 < (zz (List.length v.2.1))))
 (tst (decide (0 ≤ v.1)) <|
 tst (decide (v.1 < (zz (List.length v.2.1)))) <|
 tst (decide (0 ≤ v.1)) <|
 tst (decide (v.1 < (zz (List.length v.2.2)))) <|
 Option.bind (zdt fuel (((List.getD v.2.1 (Int.toNat v.1) (0, (0, ()))).1, (List.getD v.2.1 (Int.toNat v.1) (0, (0, ()))).2.1, ()), ((List.getD v.2.2 (Int.toNat v.1) (0, (0, ()))).1, (List.getD v.2.2 (Int.toNat v.1) (0, (0, ()))).2.1, ()), ())) fun y_2 =>
 cond (!y_2.1.1)
 (some (((false, ()), ())))
 (g0 (w64 (v.1 + (1 : Int)), v.2.1, v.2.2)))
 (some (((true, ()), ())))
def zdv (fuel : Nat) (g0 : zah → Option ((Bool × Unit) × Unit)) : zah → Option ((Bool × Unit) × Unit) := zbD fuel g0
theorem znT (fuel : Nat) (G) : zbB.lp (zbz fuel) 0 fuel G (endF zbC zbA) 0 zih = iter (zdv fuel) fuel := C.lp_iter fun g v => by kernel_rfl
def zdw (fuel : Nat) (X0 : zah → Option ((Bool × Unit) × Unit)) (x0 : LP) (x1 : LP) : Option ((Bool × Unit) × Unit) :=
 cond ((zz (List.length x0)) != (zz (List.length x1)))
 (some (((false, ()), ())))
 (X0 ((0 : Int), x0, x1))
def zdx (fuel : Nat) (x : ((LP × Unit) × ((LP × Unit) × Unit))) : Option ((Bool × Unit) × Unit) := zdw fuel (iter (zdv fuel) fuel) x.1.1 x.2.1.1
theorem znU (fuel : Nat) (x : PsT zdu) : run (zbz fuel) 0 fuel zbB (env0 (svPs zdu x) 0) [] (endF zbC zbA) = zdx fuel x :=
  (show run (zbz fuel) 0 fuel zbB (env0 (svPs zdu x) 0) [] (endF zbC zbA) = zdw fuel (zbB.lp (zbz fuel) 0 fuel (fun _ _ _ => none) (endF zbC zbA) 0 zih) x.1.1 x.2.1.1 by kernel_rfl).trans (by rw [znT]; rfl)
def zfu (fuel : Nat) : TF := ⟨zdu, zbA, true, zdx fuel⟩
theorem znV (fuel : Nat) : FnSpec Try.prog 97 (zfu fuel) :=
  fn_spec (T := zbz fuel) (c := bodyOf Try.f97) (fn := Try.f97) (TabOK.of (entCons (znR fuel) entNil) (methNil)) mixed (by kernel_rfl) (by kernel_rfl) znS (by kernel_rfl) (Nat.le_of_ble_eq_true (by kernel_rfl)) (rv := zbC) (by kernel_rfl) (znU fuel)
theorem znW (fuel : Nat) : EntryOK Try.prog 97 (zfu fuel).te := EntryOK.tf rfl (znV fuel) (isFn (fn := Try.f97) (by kernel_rfl) (by kernel_rfl) (by kernel_rfl))
def zii (fuel : Nat) : Tab := Tab.of [(97, (zfu fuel).te)] []
abbrev zfv : List Pm := [{ cs := [(Kd.list KP, false), (I6, false), (I6, false)], ag := true }, { cs := [(Kd.list KP, false), (I6, false), (I6, false)], ag := true }]
abbrev zij : List Pm := [{ cs := [(Kd.bool, false)], ag := false }]
def zik : List Norm := []
noncomputable def zil : C := irOf Try.prog Try.f87 [] zik []
theorem znX : lightC Try.prog [] Try.f87.ntmps zik [] 0 (bodyOf Try.f87) = some (zil, 0) := by kernel_rfl
def zim : List (Nat × Option (Nat × Bool)) := [(4, none)]
def zfw (fuel : Nat) (x0 : LP) (x1 : Int) (x2 : Int) (x3 : LP) (x4 : Int) (x5 : Int) : Option ((Bool × Unit) × Unit) :=
 Option.bind (zdx fuel ((x0, ()), (x3, ()), ())) fun y_1 =>
 cond (!y_1.1.1)
 (some (((false, ()), ())))
 (cond (x1 != x4)
 (some (((false, ()), ())))
 (cond (x2 != x5)
 (some (((false, ()), ())))
 (some (((true, ()), ())))))
def zdy (fuel : Nat) (x : ((LP × (Int × (Int × Unit))) × ((LP × (Int × (Int × Unit))) × Unit))) : Option ((Bool × Unit) × Unit) := zfw fuel x.1.1 x.1.2.1 x.1.2.2.1 x.2.1.1 x.2.1.2.1 x.2.1.2.2.1
theorem znY (fuel : Nat) (x : PsT zfv) : run (zii fuel) 0 fuel zil (env0 (svPs zfv x) 0) [] (endF zim zij) = zdy fuel x := by kernel_rfl
def zfx (fuel : Nat) : TF := ⟨zfv, zij, true, zdy fuel⟩
theorem znZ (fuel : Nat) : FnSpec Try.prog 87 (zfx fuel) :=
  fn_spec (T := zii fuel) (c := bodyOf Try.f87) (fn := Try.f87) (TabOK.of (entCons (znW fuel) entNil) (methNil)) mixed (by kernel_rfl) (by kernel_rfl) znX (by kernel_rfl) (Nat.le_of_ble_eq_true (by kernel_rfl)) (rv := zim) (by kernel_rfl) (znY fuel)
theorem zn0 (fuel : Nat) : EntryOK Try.prog 87 (zfx fuel).te := EntryOK.tf rfl (znZ fuel) (isFn (fn := Try.f87) (by kernel_rfl) (by kernel_rfl) (by kernel_rfl))
def zin (fuel : Nat) : Tab := Tab.of [] []
abbrev zfy : List Pm := [{ cs := [(I6, false), (I6, false)], ag := true }, { cs := [(I6, false), (I6, false)], ag := true }]
abbrev zio : List Pm := [{ cs := [(Kd.bool, false)], ag := false }]
def ziq : List Norm := []
noncomputable def zir : C := irOf Try.prog Try.f104 [] ziq []
theorem zn1 : lightC Try.prog [] Try.f104.ntmps ziq [] 0 (bodyOf Try.f104) = some (zir, 0) := by kernel_rfl
def zis : List (Nat × Option (Nat × Bool)) := [(4, none)]
def zfz (fuel : Nat) (x0 : Int) (x1 : Int) (x2 : Int) (x3 : Int) : Option ((Bool × Unit) × Unit) :=
 cond (x0 != x2)
 (some (((false, ()), ())))
 (cond (x1 != x3)
 (some (((false, ()), ())))
 (some (((true, ()), ()))))
def zdz (fuel : Nat) (x : ((Int × (Int × Unit)) × ((Int × (Int × Unit)) × Unit))) : Option ((Bool × Unit) × Unit) := zfz fuel x.1.1 x.1.2.1 x.2.1.1 x.2.1.2.1
theorem zn2 (fuel : Nat) (x : PsT zfy) : run (zin fuel) 0 fuel zir (env0 (svPs zfy x) 0) [] (endF zis zio) = zdz fuel x := by kernel_rfl
def zfA (fuel : Nat) : TF := ⟨zfy, zio, true, zdz fuel⟩
theorem zn3 (fuel : Nat) : FnSpec Try.prog 104 (zfA fuel) :=
  fn_spec (T := zin fuel) (c := bodyOf Try.f104) (fn := Try.f104) (TabOK.of (entNil) (methNil)) mixed (by kernel_rfl) (by kernel_rfl) zn1 (by kernel_rfl) (Nat.le_of_ble_eq_true (by kernel_rfl)) (rv := zis) (by kernel_rfl) (zn2 fuel)
theorem zn4 (fuel : Nat) : EntryOK Try.prog 104 (zfA fuel).te := EntryOK.tf rfl (zn3 fuel) (isFn (fn := Try.f104) (by kernel_rfl) (by kernel_rfl) (by kernel_rfl))
def zbE (fuel : Nat) : Tab := Tab.of [(104, (zfA fuel).te)] []
abbrev zdA : List Pm := [{ cs := [(Kd.list KP, false)], ag := false }, { cs := [(Kd.list KP, false)], ag := false }]
abbrev zbF : List Pm := [{ cs := [(Kd.bool, false)], ag := false }]
def zit : List Norm := [{ live := [5, 0, 1], fix := [] }]
noncomputable def zbG : C := irOf Try.prog Try.f98 [] zit []
theorem zn5 : lightC Try.prog [] Try.f98.ntmps zit [] 0 (bodyOf Try.f98) = some (zbG, 1) := by kernel_rfl
def zbH : List (Nat × Option (Nat × Bool)) := [(4, none)]
abbrev zai := (Int) × LP × LP
def ziu (v : zai) : Env × Heap := ([(5, SV.int .i64 v.1), (0, SV.es KP v.2.1), (1, SV.es KP v.2.2)], [])
def zbI (fuel : Nat) (g0 : zai → Option ((Bool × Unit) × Unit)) (v : zai) : Option ((Bool × Unit) × Unit) :=
 cond (decide (v.1 < (zz (List.length v.2.1))))
 (tst (decide (0 ≤ v.1)) <|
 tst (decide (v.1 < (zz (List.length v.2.1)))) <|
 tst (decide (0 ≤ v.1)) <|
 tst (decide (v.1 < (zz (List.length v.2.2)))) <|
 Option.bind (zdz fuel (((List.getD v.2.1 (Int.toNat v.1) (0, (0, ()))).1, (List.getD v.2.1 (Int.toNat v.1) (0, (0, ()))).2.1, ()), ((List.getD v.2.2 (Int.toNat v.1) (0, (0, ()))).1, (List.getD v.2.2 (Int.toNat v.1) (0, (0, ()))).2.1, ()), ())) fun y_2 =>
 cond (!y_2.1.1)
 (some (((false, ()), ())))
 (g0 (w64 (v.1 + (1 : Int)), v.2.1, v.2.2)))
 (some (((true, ()), ())))
def zdB (fuel : Nat) (g0 : zai → Option ((Bool × Unit) × Unit)) : zai → Option ((Bool × Unit) × Unit) := zbI fuel g0
theorem zn6 (fuel : Nat) (G) : zbG.lp (zbE fuel) 0 fuel G (endF zbH zbF) 0 ziu = iter (zdB fuel) fuel := C.lp_iter fun g v => by kernel_rfl
def zdC (fuel : Nat) (X0 : zai → Option ((Bool × Unit) × Unit)) (x0 : LP) (x1 : LP) : Option ((Bool × Unit) × Unit) :=
 cond ((zz (List.length x0)) != (zz (List.length x1)))
 (some (((false, ()), ())))
 (X0 ((0 : Int), x0, x1))
def zdD (fuel : Nat) (x : ((LP × Unit) × ((LP × Unit) × Unit))) : Option ((Bool × Unit) × Unit) := zdC fuel (iter (zdB fuel) fuel) x.1.1 x.2.1.1
theorem zn7 (fuel : Nat) (x : PsT zdA) : run (zbE fuel) 0 fuel zbG (env0 (svPs zdA x) 0) [] (endF zbH zbF) = zdD fuel x :=
  (show run (zbE fuel) 0 fuel zbG (env0 (svPs zdA x) 0) [] (endF zbH zbF) = zdC fuel (zbG.lp (zbE fuel) 0 fuel (fun _ _ _ => none) (endF zbH zbF) 0 ziu) x.1.1 x.2.1.1 by kernel_rfl).trans (by rw [zn6]; rfl)
def zfB (fuel : Nat) : TF := ⟨zdA, zbF, true, zdD fuel⟩
theorem zn8 (fuel : Nat) : FnSpec Try.prog 98 (zfB fuel) :=
  fn_spec (T := zbE fuel) (c := bodyOf Try.f98) (fn := Try.f98) (TabOK.of (entCons (zn4 fuel) entNil) (methNil)) mixed (by kernel_rfl) (by kernel_rfl) zn5 (by kernel_rfl) (Nat.le_of_ble_eq_true (by kernel_rfl)) (rv := zbH) (by kernel_rfl) (zn7 fuel)
theorem zn9 (fuel : Nat) : EntryOK Try.prog 98 (zfB fuel).te := EntryOK.tf rfl (zn8 fuel) (isFn (fn := Try.f98) (by kernel_rfl) (by kernel_rfl) (by kernel_rfl))
def ziv (fuel : Nat) : Tab := Tab.of [(98, (zfB fuel).te)] []
abbrev zfC : List Pm := [{ cs := [(Kd.list KP, false), (I6, false)], ag := true }, { cs := [(Kd.list KP, false), (I6, false)], ag := true }]
abbrev ziw : List Pm := [{ cs := [(Kd.bool, false)], ag := false }]
def zix : List Norm := []
noncomputable def ziy : C := irOf Try.prog Try.f88 [] zix []
theorem zoa : lightC Try.prog [] Try.f88.ntmps zix [] 0 (bodyOf Try.f88) = some (ziy, 0) := by kernel_rfl
def ziz : List (Nat × Option (Nat × Bool)) := [(4, none)]
def zfD (fuel : Nat) (x0 : LP) (x1 : Int) (x2 : LP) (x3 : Int) : Option ((Bool × Unit) × Unit) :=
 Option.bind (zdD fuel ((x0, ()), (x2, ()), ())) fun y_1 =>
 cond (!y_1.1.1)
 (some (((false, ()), ())))
 (cond (x1 != x3)
 (some (((false, ()), ())))
 (some (((true, ()), ()))))
def zdE (fuel : Nat) (x : ((LP × (Int × Unit)) × ((LP × (Int × Unit)) × Unit))) : Option ((Bool × Unit) × Unit) := zfD fuel x.1.1 x.1.2.1 x.2.1.1 x.2.1.2.1
theorem zob (fuel : Nat) (x : PsT zfC) : run (ziv fuel) 0 fuel ziy (env0 (svPs zfC x) 0) [] (endF ziz ziw) = zdE fuel x := by kernel_rfl
def zfE (fuel : Nat) : TF := ⟨zfC, ziw, true, zdE fuel⟩
theorem zoc (fuel : Nat) : FnSpec Try.prog 88 (zfE fuel) :=
  fn_spec (T := ziv fuel) (c := bodyOf Try.f88) (fn := Try.f88) (TabOK.of (entCons (zn9 fuel) entNil) (methNil)) mixed (by kernel_rfl) (by kernel_rfl) zoa (by kernel_rfl) (Nat.le_of_ble_eq_true (by kernel_rfl)) (rv := ziz) (by kernel_rfl) (zob fuel)
theorem zod (fuel : Nat) : EntryOK Try.prog 88 (zfE fuel).te := EntryOK.tf rfl (zoc fuel) (isFn (fn := Try.f88) (by kernel_rfl) (by kernel_rfl) (by kernel_rfl))
def ziA (fuel : Nat) : Tab := Tab.of [(85, (zfn fuel).te), (86, (zfq fuel).te), (87, (zfx fuel).te), (88, (zfE fuel).te)] []
abbrev zfF : List Pm := [{ cs := [(Kd.list (Kd.list I6), false), (Kd.list I6, false), (Kd.list KP, false), (I6, false), (I6, false), (Kd.list KP, false), (I6, false)], ag := true }, { cs := [(Kd.list (Kd.list I6), false), (Kd.list I6, false), (Kd.list KP, false), (I6, false), (I6, false), (Kd.list KP, false), (I6, false)], ag := true }]
abbrev ziB : List Pm := [{ cs := [(Kd.bool, false)], ag := false }]
def ziC : List Norm := []
noncomputable def ziD : C := irOf Try.prog Try.f82 [] ziC []
theorem zoe : lightC Try.prog [] Try.f82.ntmps ziC [] 0 (bodyOf Try.f82) = some (ziD, 0) := by kernel_rfl
def ziE : List (Nat × Option (Nat × Bool)) := [(4, none)]
def zfG (fuel : Nat) (x0 : List (List Int)) (x1 : List Int) (x2 : LP) (x3 : Int) (x4 : Int) (x5 : LP) (x6 : Int) (x7 : List (List Int)) (x8 : List Int) (x9 : LP) (x10 : Int) (x11 : Int) (x12 : LP) (x13 : Int) : Option ((Bool × Unit) × Unit) :=
 Option.bind (zdr fuel ((x0, ()), (x7, ()), ())) fun y_1 =>
 cond (!y_1.1.1)
 (some (((false, ()), ())))
 (Option.bind (zds fuel ((x1, ()), (x8, ()), ())) fun y_3 =>
 cond (!y_3.1.1)
 (some (((false, ()), ())))
 (Option.bind (zdy fuel ((x2, x3, x4, ()), (x9, x10, x11, ()), ())) fun y_5 =>
 cond (!y_5.1.1)
 (some (((false, ()), ())))
 (Option.bind (zdE fuel ((x5, x6, ()), (x12, x13, ()), ())) fun y_7 =>
 cond (!y_7.1.1)
 (some (((false, ()), ())))
 (some (((true, ()), ()))))))
def zdF (fuel : Nat) (x : (SumY × (SumY × Unit))) : Option ((Bool × Unit) × Unit) := zfG fuel x.1.1 x.1.2.1 x.1.2.2.1 x.1.2.2.2.1 x.1.2.2.2.2.1 x.1.2.2.2.2.2.1 x.1.2.2.2.2.2.2.1 x.2.1.1 x.2.1.2.1 x.2.1.2.2.1 x.2.1.2.2.2.1 x.2.1.2.2.2.2.1 x.2.1.2.2.2.2.2.1 x.2.1.2.2.2.2.2.2.1
theorem zof (fuel : Nat) (x : PsT zfF) : run (ziA fuel) 0 fuel ziD (env0 (svPs zfF x) 0) [] (endF ziE ziB) = zdF fuel x := by kernel_rfl
def zfH (fuel : Nat) : TF := ⟨zfF, ziB, true, zdF fuel⟩
theorem zog (fuel : Nat) : FnSpec Try.prog 82 (zfH fuel) :=
  fn_spec (T := ziA fuel) (c := bodyOf Try.f82) (fn := Try.f82) (TabOK.of (entCons (znJ fuel) (entCons (znN fuel) (entCons (zn0 fuel) (entCons (zod fuel) entNil)))) (methNil)) mixed (by kernel_rfl) (by kernel_rfl) zoe (by kernel_rfl) (Nat.le_of_ble_eq_true (by kernel_rfl)) (rv := ziE) (by kernel_rfl) (zof fuel)
theorem zoh (fuel : Nat) : EntryOK Try.prog 82 (zfH fuel).te := EntryOK.tf rfl (zog fuel) (isFn (fn := Try.f82) (by kernel_rfl) (by kernel_rfl) (by kernel_rfl))
def ziF (fuel : Nat) : Tab := Tab.of [(82, (zfH fuel).te)] []
abbrev zfI : List Pm := [{ cs := [(I6, false), (I6, false), (I6, false), (Kd.list (Kd.list I6), false), (Kd.list I6, false), (Kd.list KP, false), (I6, false), (I6, false), (Kd.list KP, false), (I6, false)], ag := true }, { cs := [(I6, false), (I6, false), (I6, false), (Kd.list (Kd.list I6), false), (Kd.list I6, false), (Kd.list KP, false), (I6, false), (I6, false), (Kd.list KP, false), (I6, false)], ag := true }]
abbrev ziG : List Pm := [{ cs := [(Kd.bool, false)], ag := false }]
def ziH : List Norm := []
noncomputable def ziI : C := irOf Try.prog Try.f79 [] ziH []
theorem zoi : lightC Try.prog [] Try.f79.ntmps ziH [] 0 (bodyOf Try.f79) = some (ziI, 0) := by kernel_rfl
def ziJ : List (Nat × Option (Nat × Bool)) := [(4, none)]
def zfJ (fuel : Nat) (x0 : Int) (x1 : Int) (x2 : Int) (x3 : List (List Int)) (x4 : List Int) (x5 : LP) (x6 : Int) (x7 : Int) (x8 : LP) (x9 : Int) (x10 : Int) (x11 : Int) (x12 : Int) (x13 : List (List Int)) (x14 : List Int) (x15 : LP) (x16 : Int) (x17 : Int) (x18 : LP) (x19 : Int) : Option ((Bool × Unit) × Unit) :=
 cond (x0 != x10)
 (some (((false, ()), ())))
 (cond (x1 != x11)
 (some (((false, ()), ())))
 (cond (x2 != x12)
 (some (((false, ()), ())))
 (Option.bind (zdF fuel ((x3, x4, x5, x6, x7, x8, x9, ()), (x13, x14, x15, x16, x17, x18, x19, ()), ())) fun y_4 =>
 cond (!y_4.1.1)
 (some (((false, ()), ())))
 (some (((true, ()), ()))))))
def zbJ (fuel : Nat) (x : (EntF × (EntF × Unit))) : Option ((Bool × Unit) × Unit) := zfJ fuel x.1.1 x.1.2.1 x.1.2.2.1 x.1.2.2.2.1 x.1.2.2.2.2.1 x.1.2.2.2.2.2.1 x.1.2.2.2.2.2.2.1 x.1.2.2.2.2.2.2.2.1 x.1.2.2.2.2.2.2.2.2.1 x.1.2.2.2.2.2.2.2.2.2.1 x.2.1.1 x.2.1.2.1 x.2.1.2.2.1 x.2.1.2.2.2.1 x.2.1.2.2.2.2.1 x.2.1.2.2.2.2.2.1 x.2.1.2.2.2.2.2.2.1 x.2.1.2.2.2.2.2.2.2.1 x.2.1.2.2.2.2.2.2.2.2.1 x.2.1.2.2.2.2.2.2.2.2.2.1
theorem zoj (fuel : Nat) (x : PsT zfI) : run (ziF fuel) 0 fuel ziI (env0 (svPs zfI x) 0) [] (endF ziJ ziG) = zbJ fuel x := by kernel_rfl
def zfK (fuel : Nat) : TF := ⟨zfI, ziG, true, zbJ fuel⟩
theorem zok (fuel : Nat) : FnSpec Try.prog 79 (zfK fuel) :=
  fn_spec (T := ziF fuel) (c := bodyOf Try.f79) (fn := Try.f79) (TabOK.of (entCons (zoh fuel) entNil) (methNil)) mixed (by kernel_rfl) (by kernel_rfl) zoi (by kernel_rfl) (Nat.le_of_ble_eq_true (by kernel_rfl)) (rv := ziJ) (by kernel_rfl) (zoj fuel)
theorem zol (fuel : Nat) : EntryOK Try.prog 79 (zfK fuel).te := EntryOK.tf rfl (zok fuel) (isFn (fn := Try.f79) (by kernel_rfl) (by kernel_rfl) (by kernel_rfl))
def zbK (fuel : Nat) : Tab := Tab.of [(79, (zfK fuel).te)] []
abbrev zdG : List Pm := [{ cs := [(Kd.list KE, false)], ag := false }, { cs := [(Kd.list KE, false)], ag := false }]
abbrev zbL : List Pm := [{ cs := [(Kd.bool, false)], ag := false }]
def ziK : List Norm := [{ live := [5, 0, 1], fix := [] }]
noncomputable def zbM : C := irOf Try.prog Try.f71 [] ziK []
theorem zom : lightC Try.prog [] Try.f71.ntmps ziK [] 0 (bodyOf Try.f71) = some (zbM, 1) := by kernel_rfl
def zbN : List (Nat × Option (Nat × Bool)) := [(4, none)]
abbrev zaj := (Int) × (List EntY) × (List EntY)
def ziL (v : zaj) : Env × Heap := ([(5, SV.int .i64 v.1), (0, SV.es KE v.2.1), (1, SV.es KE v.2.2)], [])
def zbO (fuel : Nat) (g0 : zaj → Option ((Bool × Unit) × Unit)) (v : zaj) : Option ((Bool × Unit) × Unit) :=
 cond (decide (v.1 < (zz (List.length v.2.1))))
 (tst (decide (0 ≤ v.1)) <|
 tst (decide (v.1 < (zz (List.length v.2.1)))) <|
 tst (decide (0 ≤ v.1)) <|
 tst (decide (v.1 < (zz (List.length v.2.2)))) <|
 Option.bind (zbJ fuel (((List.getD v.2.1 (Int.toNat v.1) dE).1, (List.getD v.2.1 (Int.toNat v.1) dE).2.1, (List.getD v.2.1 (Int.toNat v.1) dE).2.2.1, (List.getD v.2.1 (Int.toNat v.1) dE).2.2.2.1.1.1, (List.getD v.2.1 (Int.toNat v.1) dE).2.2.2.1.2.1.1, (List.getD v.2.1 (Int.toNat v.1) dE).2.2.2.1.2.2.1.1, (List.getD v.2.1 (Int.toNat v.1) dE).2.2.2.1.2.2.1.2.1, (List.getD v.2.1 (Int.toNat v.1) dE).2.2.2.1.2.2.1.2.2.1, (List.getD v.2.1 (Int.toNat v.1) dE).2.2.2.1.2.2.2.1.1, (List.getD v.2.1 (Int.toNat v.1) dE).2.2.2.1.2.2.2.1.2.1, ()), ((List.getD v.2.2 (Int.toNat v.1) dE).1, (List.getD v.2.2 (Int.toNat v.1) dE).2.1, (List.getD v.2.2 (Int.toNat v.1) dE).2.2.1, (List.getD v.2.2 (Int.toNat v.1) dE).2.2.2.1.1.1, (List.getD v.2.2 (Int.toNat v.1) dE).2.2.2.1.2.1.1, (List.getD v.2.2 (Int.toNat v.1) dE).2.2.2.1.2.2.1.1, (List.getD v.2.2 (Int.toNat v.1) dE).2.2.2.1.2.2.1.2.1, (List.getD v.2.2 (Int.toNat v.1) dE).2.2.2.1.2.2.1.2.2.1, (List.getD v.2.2 (Int.toNat v.1) dE).2.2.2.1.2.2.2.1.1, (List.getD v.2.2 (Int.toNat v.1) dE).2.2.2.1.2.2.2.1.2.1, ()), ())) fun y_2 =>
 cond (!y_2.1.1)
 (some (((false, ()), ())))
 (g0 (w64 (v.1 + (1 : Int)), v.2.1, v.2.2)))
 (some (((true, ()), ())))
def zdH (fuel : Nat) (g0 : zaj → Option ((Bool × Unit) × Unit)) : zaj → Option ((Bool × Unit) × Unit) := zbO fuel g0
theorem zon (fuel : Nat) (G) : zbM.lp (zbK fuel) 0 fuel G (endF zbN zbL) 0 ziL = iter (zdH fuel) fuel := C.lp_iter fun g v => by kernel_rfl
def zdI (fuel : Nat) (X0 : zaj → Option ((Bool × Unit) × Unit)) (x0 : List EntY) (x1 : List EntY) : Option ((Bool × Unit) × Unit) :=
 cond ((zz (List.length x0)) != (zz (List.length x1)))
 (some (((false, ()), ())))
 (X0 ((0 : Int), x0, x1))
def zbP (fuel : Nat) (x : (((List EntY) × Unit) × (((List EntY) × Unit) × Unit))) : Option ((Bool × Unit) × Unit) := zdI fuel (iter (zdH fuel) fuel) x.1.1 x.2.1.1
theorem zoo (fuel : Nat) (x : PsT zdG) : run (zbK fuel) 0 fuel zbM (env0 (svPs zdG x) 0) [] (endF zbN zbL) = zbP fuel x :=
  (show run (zbK fuel) 0 fuel zbM (env0 (svPs zdG x) 0) [] (endF zbN zbL) = zdI fuel (zbM.lp (zbK fuel) 0 fuel (fun _ _ _ => none) (endF zbN zbL) 0 ziL) x.1.1 x.2.1.1 by kernel_rfl).trans (by rw [zon]; rfl)
def zdJ (fuel : Nat) : TF := ⟨zdG, zbL, true, zbP fuel⟩
theorem zop (fuel : Nat) : FnSpec Try.prog 71 (zdJ fuel) :=
  fn_spec (T := zbK fuel) (c := bodyOf Try.f71) (fn := Try.f71) (TabOK.of (entCons (zol fuel) entNil) (methNil)) mixed (by kernel_rfl) (by kernel_rfl) zom (by kernel_rfl) (Nat.le_of_ble_eq_true (by kernel_rfl)) (rv := zbN) (by kernel_rfl) (zoo fuel)
theorem ziM (fuel : Nat) : EntryOK Try.prog 71 (zdJ fuel).te := EntryOK.tf rfl (zop fuel) (isFn (fn := Try.f71) (by kernel_rfl) (by kernel_rfl) (by kernel_rfl))
def ziN (fuel : Nat) : Tab := Tab.of [(71, (zdJ fuel).te)] []
abbrev zfL : List Pm := [{ cs := [(I6, false), (Kd.list KE, false), (I6, false), (I6, false), (I6, false)], ag := true }, { cs := [(I6, false), (Kd.list KE, false), (I6, false), (I6, false), (I6, false)], ag := true }]
abbrev ziO : List Pm := [{ cs := [(Kd.bool, false)], ag := false }]
def ziP : List Norm := []
noncomputable def ziQ : C := irOf Try.prog Try.f52 [] ziP []
theorem zoq : lightC Try.prog [] Try.f52.ntmps ziP [] 0 (bodyOf Try.f52) = some (ziQ, 0) := by kernel_rfl
def ziR : List (Nat × Option (Nat × Bool)) := [(4, none)]
def zfM (fuel : Nat) (x0 : Int) (x1 : List EntY) (x2 : Int) (x3 : Int) (x4 : Int) (x5 : Int) (x6 : List EntY) (x7 : Int) (x8 : Int) (x9 : Int) : Option ((Bool × Unit) × Unit) :=
 cond (x0 != x5)
 (some (((false, ()), ())))
 (Option.bind (zbP fuel ((x1, ()), (x6, ()), ())) fun y_2 =>
 cond (!y_2.1.1)
 (some (((false, ()), ())))
 (cond (x2 != x7)
 (some (((false, ()), ())))
 (cond (x3 != x8)
 (some (((false, ()), ())))
 (cond (x4 != x9)
 (some (((false, ()), ())))
 (some (((true, ()), ())))))))
def zbQ (fuel : Nat) (x : (NodY × (NodY × Unit))) : Option ((Bool × Unit) × Unit) := zfM fuel x.1.1 x.1.2.1 x.1.2.2.1 x.1.2.2.2.1 x.1.2.2.2.2.1 x.2.1.1 x.2.1.2.1 x.2.1.2.2.1 x.2.1.2.2.2.1 x.2.1.2.2.2.2.1
theorem zor (fuel : Nat) (x : PsT zfL) : run (ziN fuel) 0 fuel ziQ (env0 (svPs zfL x) 0) [] (endF ziR ziO) = zbQ fuel x := by kernel_rfl
def zfN (fuel : Nat) : TF := ⟨zfL, ziO, true, zbQ fuel⟩
theorem zos (fuel : Nat) : FnSpec Try.prog 52 (zfN fuel) :=
  fn_spec (T := ziN fuel) (c := bodyOf Try.f52) (fn := Try.f52) (TabOK.of (entCons (ziM fuel) entNil) (methNil)) mixed (by kernel_rfl) (by kernel_rfl) zoq (by kernel_rfl) (Nat.le_of_ble_eq_true (by kernel_rfl)) (rv := ziR) (by kernel_rfl) (zor fuel)
theorem zot (fuel : Nat) : EntryOK Try.prog 52 (zfN fuel).te := EntryOK.tf rfl (zos fuel) (isFn (fn := Try.f52) (by kernel_rfl) (by kernel_rfl) (by kernel_rfl))
def zbR (fuel : Nat) : Tab := Tab.of [(52, (zfN fuel).te)] []
abbrev zdK : List Pm := [{ cs := [(Kd.list KN, false)], ag := false }, { cs := [(Kd.list KN, false)], ag := false }]
abbrev zbS : List Pm := [{ cs := [(Kd.bool, false)], ag := false }]
def ziS : List Norm := [{ live := [5, 0, 1], fix := [] }]
noncomputable def zbT : C := irOf Try.prog Try.f25 [] ziS []
theorem zou : lightC Try.prog [] Try.f25.ntmps ziS [] 0 (bodyOf Try.f25) = some (zbT, 1) := by kernel_rfl
def zbU : List (Nat × Option (Nat × Bool)) := [(4, none)]
abbrev zak := (Int) × (List NodY) × (List NodY)
def ziT (v : zak) : Env × Heap := ([(5, SV.int .i64 v.1), (0, SV.es KN v.2.1), (1, SV.es KN v.2.2)], [])
def zbV (fuel : Nat) (g0 : zak → Option ((Bool × Unit) × Unit)) (v : zak) : Option ((Bool × Unit) × Unit) :=
 cond (decide (v.1 < (zz (List.length v.2.1))))
 (tst (decide (0 ≤ v.1)) <|
 tst (decide (v.1 < (zz (List.length v.2.1)))) <|
 tst (decide (0 ≤ v.1)) <|
 tst (decide (v.1 < (zz (List.length v.2.2)))) <|
 Option.bind (zbQ fuel (((List.getD v.2.1 (Int.toNat v.1) dN).1, (List.getD v.2.1 (Int.toNat v.1) dN).2.1, (List.getD v.2.1 (Int.toNat v.1) dN).2.2.1, (List.getD v.2.1 (Int.toNat v.1) dN).2.2.2.1, (List.getD v.2.1 (Int.toNat v.1) dN).2.2.2.2.1, ()), ((List.getD v.2.2 (Int.toNat v.1) dN).1, (List.getD v.2.2 (Int.toNat v.1) dN).2.1, (List.getD v.2.2 (Int.toNat v.1) dN).2.2.1, (List.getD v.2.2 (Int.toNat v.1) dN).2.2.2.1, (List.getD v.2.2 (Int.toNat v.1) dN).2.2.2.2.1, ()), ())) fun y_2 =>
 cond (!y_2.1.1)
 (some (((false, ()), ())))
 (g0 (w64 (v.1 + (1 : Int)), v.2.1, v.2.2)))
 (some (((true, ()), ())))
def zdL (fuel : Nat) (g0 : zak → Option ((Bool × Unit) × Unit)) : zak → Option ((Bool × Unit) × Unit) := zbV fuel g0
theorem zov (fuel : Nat) (G) : zbT.lp (zbR fuel) 0 fuel G (endF zbU zbS) 0 ziT = iter (zdL fuel) fuel := C.lp_iter fun g v => by kernel_rfl
def zdM (fuel : Nat) (X0 : zak → Option ((Bool × Unit) × Unit)) (x0 : List NodY) (x1 : List NodY) : Option ((Bool × Unit) × Unit) :=
 cond ((zz (List.length x0)) != (zz (List.length x1)))
 (some (((false, ()), ())))
 (X0 ((0 : Int), x0, x1))
def zdN (fuel : Nat) (x : (((List NodY) × Unit) × (((List NodY) × Unit) × Unit))) : Option ((Bool × Unit) × Unit) := zdM fuel (iter (zdL fuel) fuel) x.1.1 x.2.1.1
theorem zow (fuel : Nat) (x : PsT zdK) : run (zbR fuel) 0 fuel zbT (env0 (svPs zdK x) 0) [] (endF zbU zbS) = zdN fuel x :=
  (show run (zbR fuel) 0 fuel zbT (env0 (svPs zdK x) 0) [] (endF zbU zbS) = zdM fuel (zbT.lp (zbR fuel) 0 fuel (fun _ _ _ => none) (endF zbU zbS) 0 ziT) x.1.1 x.2.1.1 by kernel_rfl).trans (by rw [zov]; rfl)
def zfO (fuel : Nat) : TF := ⟨zdK, zbS, true, zdN fuel⟩
theorem zox (fuel : Nat) : FnSpec Try.prog 25 (zfO fuel) :=
  fn_spec (T := zbR fuel) (c := bodyOf Try.f25) (fn := Try.f25) (TabOK.of (entCons (zot fuel) entNil) (methNil)) mixed (by kernel_rfl) (by kernel_rfl) zou (by kernel_rfl) (Nat.le_of_ble_eq_true (by kernel_rfl)) (rv := zbU) (by kernel_rfl) (zow fuel)
theorem zoy (fuel : Nat) : EntryOK Try.prog 25 (zfO fuel).te := EntryOK.tf rfl (zox fuel) (isFn (fn := Try.f25) (by kernel_rfl) (by kernel_rfl) (by kernel_rfl))
def zbW (fuel : Nat) : Tab := Tab.of [] []
abbrev zdO : List Pm := [{ cs := [(Kd.list Kd.bool, false)], ag := false }, { cs := [(Kd.list Kd.bool, false)], ag := false }]
abbrev zbX : List Pm := [{ cs := [(Kd.bool, false)], ag := false }]
def ziU : List Norm := [{ live := [5, 0, 1], fix := [] }]
noncomputable def zbY : C := irOf Try.prog Try.f26 [] ziU []
theorem zoz : lightC Try.prog [] Try.f26.ntmps ziU [] 0 (bodyOf Try.f26) = some (zbY, 1) := by kernel_rfl
def zbZ : List (Nat × Option (Nat × Bool)) := [(4, none)]
abbrev zal := (Int) × (List Bool) × (List Bool)
def ziV (v : zal) : Env × Heap := ([(5, SV.int .i64 v.1), (0, SV.es Kd.bool v.2.1), (1, SV.es Kd.bool v.2.2)], [])
def zb0 (fuel : Nat) (g0 : zal → Option ((Bool × Unit) × Unit)) (v : zal) : Option ((Bool × Unit) × Unit) :=
 cond (decide (v.1 < (zz (List.length v.2.1))))
 (tst (decide (0 ≤ v.1)) <|
 tst (decide (v.1 < (zz (List.length v.2.1)))) <|
 tst (decide (0 ≤ v.1)) <|
 tst (decide (v.1 < (zz (List.length v.2.2)))) <|
 cond (!List.getD v.2.1 (Int.toNat v.1) false == List.getD v.2.2 (Int.toNat v.1) false)
 (some (((false, ()), ())))
 (g0 (w64 (v.1 + (1 : Int)), v.2.1, v.2.2)))
 (some (((true, ()), ())))
def zdP (fuel : Nat) (g0 : zal → Option ((Bool × Unit) × Unit)) : zal → Option ((Bool × Unit) × Unit) := zb0 fuel g0
theorem zoA (fuel : Nat) (G) : zbY.lp (zbW fuel) 0 fuel G (endF zbZ zbX) 0 ziV = iter (zdP fuel) fuel := C.lp_iter fun g v => by kernel_rfl
def zdQ (fuel : Nat) (X0 : zal → Option ((Bool × Unit) × Unit)) (x0 : List Bool) (x1 : List Bool) : Option ((Bool × Unit) × Unit) :=
 cond ((zz (List.length x0)) != (zz (List.length x1)))
 (some (((false, ()), ())))
 (X0 ((0 : Int), x0, x1))
def zdR (fuel : Nat) (x : (((List Bool) × Unit) × (((List Bool) × Unit) × Unit))) : Option ((Bool × Unit) × Unit) := zdQ fuel (iter (zdP fuel) fuel) x.1.1 x.2.1.1
theorem zoB (fuel : Nat) (x : PsT zdO) : run (zbW fuel) 0 fuel zbY (env0 (svPs zdO x) 0) [] (endF zbZ zbX) = zdR fuel x :=
  (show run (zbW fuel) 0 fuel zbY (env0 (svPs zdO x) 0) [] (endF zbZ zbX) = zdQ fuel (zbY.lp (zbW fuel) 0 fuel (fun _ _ _ => none) (endF zbZ zbX) 0 ziV) x.1.1 x.2.1.1 by kernel_rfl).trans (by rw [zoA]; rfl)
def zfP (fuel : Nat) : TF := ⟨zdO, zbX, true, zdR fuel⟩
theorem zoC (fuel : Nat) : FnSpec Try.prog 26 (zfP fuel) :=
  fn_spec (T := zbW fuel) (c := bodyOf Try.f26) (fn := Try.f26) (TabOK.of (entNil) (methNil)) mixed (by kernel_rfl) (by kernel_rfl) zoz (by kernel_rfl) (Nat.le_of_ble_eq_true (by kernel_rfl)) (rv := zbZ) (by kernel_rfl) (zoB fuel)
theorem zoD (fuel : Nat) : EntryOK Try.prog 26 (zfP fuel).te := EntryOK.tf rfl (zoC fuel) (isFn (fn := Try.f26) (by kernel_rfl) (by kernel_rfl) (by kernel_rfl))
def ziW (fuel : Nat) : Tab := Tab.of [(71, (zdJ fuel).te)] []
abbrev zfQ : List Pm := [{ cs := [(I6, false), (I6, false), (I6, false), (I6, false), (I6, false), (Kd.list KE, false)], ag := true }, { cs := [(I6, false), (I6, false), (I6, false), (I6, false), (I6, false), (Kd.list KE, false)], ag := true }]
abbrev ziX : List Pm := [{ cs := [(Kd.bool, false)], ag := false }]
def ziY : List Norm := []
noncomputable def ziZ : C := irOf Try.prog Try.f53 [] ziY []
theorem zoE : lightC Try.prog [] Try.f53.ntmps ziY [] 0 (bodyOf Try.f53) = some (ziZ, 0) := by kernel_rfl
def zi0 : List (Nat × Option (Nat × Bool)) := [(4, none)]
def zfR (fuel : Nat) (x0 : Int) (x1 : Int) (x2 : Int) (x3 : Int) (x4 : Int) (x5 : List EntY) (x6 : Int) (x7 : Int) (x8 : Int) (x9 : Int) (x10 : Int) (x11 : List EntY) : Option ((Bool × Unit) × Unit) :=
 cond (x0 != x6)
 (some (((false, ()), ())))
 (cond (x1 != x7)
 (some (((false, ()), ())))
 (cond (x2 != x8)
 (some (((false, ()), ())))
 (cond (x3 != x9)
 (some (((false, ()), ())))
 (cond (x4 != x10)
 (some (((false, ()), ())))
 (Option.bind (zbP fuel ((x5, ()), (x11, ()), ())) fun y_6 =>
 cond (!y_6.1.1)
 (some (((false, ()), ())))
 (some (((true, ()), ()))))))))
def zb1 (fuel : Nat) (x : (WorY × (WorY × Unit))) : Option ((Bool × Unit) × Unit) := zfR fuel x.1.1 x.1.2.1 x.1.2.2.1 x.1.2.2.2.1 x.1.2.2.2.2.1 x.1.2.2.2.2.2.1 x.2.1.1 x.2.1.2.1 x.2.1.2.2.1 x.2.1.2.2.2.1 x.2.1.2.2.2.2.1 x.2.1.2.2.2.2.2.1
theorem zoF (fuel : Nat) (x : PsT zfQ) : run (ziW fuel) 0 fuel ziZ (env0 (svPs zfQ x) 0) [] (endF zi0 ziX) = zb1 fuel x := by kernel_rfl
def zfS (fuel : Nat) : TF := ⟨zfQ, ziX, true, zb1 fuel⟩
theorem zoG (fuel : Nat) : FnSpec Try.prog 53 (zfS fuel) :=
  fn_spec (T := ziW fuel) (c := bodyOf Try.f53) (fn := Try.f53) (TabOK.of (entCons (ziM fuel) entNil) (methNil)) mixed (by kernel_rfl) (by kernel_rfl) zoE (by kernel_rfl) (Nat.le_of_ble_eq_true (by kernel_rfl)) (rv := zi0) (by kernel_rfl) (zoF fuel)
theorem zoH (fuel : Nat) : EntryOK Try.prog 53 (zfS fuel).te := EntryOK.tf rfl (zoG fuel) (isFn (fn := Try.f53) (by kernel_rfl) (by kernel_rfl) (by kernel_rfl))
def zb2 (fuel : Nat) : Tab := Tab.of [(53, (zfS fuel).te)] []
abbrev zdS : List Pm := [{ cs := [(Kd.list KW, false)], ag := false }, { cs := [(Kd.list KW, false)], ag := false }]
abbrev zb3 : List Pm := [{ cs := [(Kd.bool, false)], ag := false }]
def zi1 : List Norm := [{ live := [5, 0, 1], fix := [] }]
noncomputable def zb4 : C := irOf Try.prog Try.f27 [] zi1 []
theorem zoI : lightC Try.prog [] Try.f27.ntmps zi1 [] 0 (bodyOf Try.f27) = some (zb4, 1) := by kernel_rfl
def zb5 : List (Nat × Option (Nat × Bool)) := [(4, none)]
abbrev zam := (Int) × (List WorY) × (List WorY)
def zi2 (v : zam) : Env × Heap := ([(5, SV.int .i64 v.1), (0, SV.es KW v.2.1), (1, SV.es KW v.2.2)], [])
def zb6 (fuel : Nat) (g0 : zam → Option ((Bool × Unit) × Unit)) (v : zam) : Option ((Bool × Unit) × Unit) :=
 cond (decide (v.1 < (zz (List.length v.2.1))))
 (tst (decide (0 ≤ v.1)) <|
 tst (decide (v.1 < (zz (List.length v.2.1)))) <|
 tst (decide (0 ≤ v.1)) <|
 tst (decide (v.1 < (zz (List.length v.2.2)))) <|
 Option.bind (zb1 fuel (((List.getD v.2.1 (Int.toNat v.1) dW).1, (List.getD v.2.1 (Int.toNat v.1) dW).2.1, (List.getD v.2.1 (Int.toNat v.1) dW).2.2.1, (List.getD v.2.1 (Int.toNat v.1) dW).2.2.2.1, (List.getD v.2.1 (Int.toNat v.1) dW).2.2.2.2.1, (List.getD v.2.1 (Int.toNat v.1) dW).2.2.2.2.2.1, ()), ((List.getD v.2.2 (Int.toNat v.1) dW).1, (List.getD v.2.2 (Int.toNat v.1) dW).2.1, (List.getD v.2.2 (Int.toNat v.1) dW).2.2.1, (List.getD v.2.2 (Int.toNat v.1) dW).2.2.2.1, (List.getD v.2.2 (Int.toNat v.1) dW).2.2.2.2.1, (List.getD v.2.2 (Int.toNat v.1) dW).2.2.2.2.2.1, ()), ())) fun y_2 =>
 cond (!y_2.1.1)
 (some (((false, ()), ())))
 (g0 (w64 (v.1 + (1 : Int)), v.2.1, v.2.2)))
 (some (((true, ()), ())))
def zdT (fuel : Nat) (g0 : zam → Option ((Bool × Unit) × Unit)) : zam → Option ((Bool × Unit) × Unit) := zb6 fuel g0
theorem zoJ (fuel : Nat) (G) : zb4.lp (zb2 fuel) 0 fuel G (endF zb5 zb3) 0 zi2 = iter (zdT fuel) fuel := C.lp_iter fun g v => by kernel_rfl
def zdU (fuel : Nat) (X0 : zam → Option ((Bool × Unit) × Unit)) (x0 : List WorY) (x1 : List WorY) : Option ((Bool × Unit) × Unit) :=
 cond ((zz (List.length x0)) != (zz (List.length x1)))
 (some (((false, ()), ())))
 (X0 ((0 : Int), x0, x1))
def zdV (fuel : Nat) (x : (((List WorY) × Unit) × (((List WorY) × Unit) × Unit))) : Option ((Bool × Unit) × Unit) := zdU fuel (iter (zdT fuel) fuel) x.1.1 x.2.1.1
theorem zoK (fuel : Nat) (x : PsT zdS) : run (zb2 fuel) 0 fuel zb4 (env0 (svPs zdS x) 0) [] (endF zb5 zb3) = zdV fuel x :=
  (show run (zb2 fuel) 0 fuel zb4 (env0 (svPs zdS x) 0) [] (endF zb5 zb3) = zdU fuel (zb4.lp (zb2 fuel) 0 fuel (fun _ _ _ => none) (endF zb5 zb3) 0 zi2) x.1.1 x.2.1.1 by kernel_rfl).trans (by rw [zoJ]; rfl)
def zfT (fuel : Nat) : TF := ⟨zdS, zb3, true, zdV fuel⟩
theorem zoL (fuel : Nat) : FnSpec Try.prog 27 (zfT fuel) :=
  fn_spec (T := zb2 fuel) (c := bodyOf Try.f27) (fn := Try.f27) (TabOK.of (entCons (zoH fuel) entNil) (methNil)) mixed (by kernel_rfl) (by kernel_rfl) zoI (by kernel_rfl) (Nat.le_of_ble_eq_true (by kernel_rfl)) (rv := zb5) (by kernel_rfl) (zoK fuel)
theorem zoM (fuel : Nat) : EntryOK Try.prog 27 (zfT fuel).te := EntryOK.tf rfl (zoL fuel) (isFn (fn := Try.f27) (by kernel_rfl) (by kernel_rfl) (by kernel_rfl))
end Go.Proofs.Ytmkekjmckdkcnaa.Den
namespace Go.Proofs.Ytmkekjmckdkcnaa.Den
open Go Go.RowKit
def zb7 (fuel : Nat) : Tab := Tab.of [(54, (zdq fuel).te)] []
abbrev zdW : List Pm := [{ cs := [(Kd.list (Kd.list (Kd.list I6)), false)], ag := false }, { cs := [(Kd.list (Kd.list (Kd.list I6)), false)], ag := false }]
abbrev zb8 : List Pm := [{ cs := [(Kd.bool, false)], ag := false }]
def zi3 : List Norm := [{ live := [5, 0, 1], fix := [] }]
noncomputable def zb9 : C := irOf Try.prog Try.f28 [] zi3 []
theorem zoN : lightC Try.prog [] Try.f28.ntmps zi3 [] 0 (bodyOf Try.f28) = some (zb9, 1) := by kernel_rfl
def zca : List (Nat × Option (Nat × Bool)) := [(4, none)]
abbrev zan := (Int) × (List (List (List Int))) × (List (List (List Int)))
def zi4 (v : zan) : Env × Heap := ([(5, SV.int .i64 v.1), (0, SV.es (Kd.list (Kd.list I6)) v.2.1), (1, SV.es (Kd.list (Kd.list I6)) v.2.2)], [])
def zcb (fuel : Nat) (g0 : zan → Option ((Bool × Unit) × Unit)) (v : zan) : Option ((Bool × Unit) × Unit) :=
 cond (decide (v.1 < (zz (List.length v.2.1))))
 (tst (decide (0 ≤ v.1)) <|
 tst (decide (v.1 < (zz (List.length v.2.1)))) <|
 tst (decide (0 ≤ v.1)) <|
 tst (decide (v.1 < (zz (List.length v.2.2)))) <|
 Option.bind (zag fuel ((List.getD v.2.1 (Int.toNat v.1) [], ()), (List.getD v.2.2 (Int.toNat v.1) [], ()), ())) fun y_2 =>
 cond (!y_2.1.1)
 (some (((false, ()), ())))
 (g0 (w64 (v.1 + (1 : Int)), v.2.1, v.2.2)))
 (some (((true, ()), ())))
def zdX (fuel : Nat) (g0 : zan → Option ((Bool × Unit) × Unit)) : zan → Option ((Bool × Unit) × Unit) := zcb fuel g0
theorem zoO (fuel : Nat) (G) : zb9.lp (zb7 fuel) 0 fuel G (endF zca zb8) 0 zi4 = iter (zdX fuel) fuel := C.lp_iter fun g v => by kernel_rfl
def zdY (fuel : Nat) (X0 : zan → Option ((Bool × Unit) × Unit)) (x0 : List (List (List Int))) (x1 : List (List (List Int))) : Option ((Bool × Unit) × Unit) :=
 cond ((zz (List.length x0)) != (zz (List.length x1)))
 (some (((false, ()), ())))
 (X0 ((0 : Int), x0, x1))
def zdZ (fuel : Nat) (x : (((List (List (List Int))) × Unit) × (((List (List (List Int))) × Unit) × Unit))) : Option ((Bool × Unit) × Unit) := zdY fuel (iter (zdX fuel) fuel) x.1.1 x.2.1.1
theorem zoP (fuel : Nat) (x : PsT zdW) : run (zb7 fuel) 0 fuel zb9 (env0 (svPs zdW x) 0) [] (endF zca zb8) = zdZ fuel x :=
  (show run (zb7 fuel) 0 fuel zb9 (env0 (svPs zdW x) 0) [] (endF zca zb8) = zdY fuel (zb9.lp (zb7 fuel) 0 fuel (fun _ _ _ => none) (endF zca zb8) 0 zi4) x.1.1 x.2.1.1 by kernel_rfl).trans (by rw [zoO]; rfl)
def zfU (fuel : Nat) : TF := ⟨zdW, zb8, true, zdZ fuel⟩
theorem zoQ (fuel : Nat) : FnSpec Try.prog 28 (zfU fuel) :=
  fn_spec (T := zb7 fuel) (c := bodyOf Try.f28) (fn := Try.f28) (TabOK.of (entCons (zh0 fuel) entNil) (methNil)) mixed (by kernel_rfl) (by kernel_rfl) zoN (by kernel_rfl) (Nat.le_of_ble_eq_true (by kernel_rfl)) (rv := zca) (by kernel_rfl) (zoP fuel)
theorem zoR (fuel : Nat) : EntryOK Try.prog 28 (zfU fuel).te := EntryOK.tf rfl (zoQ fuel) (isFn (fn := Try.f28) (by kernel_rfl) (by kernel_rfl) (by kernel_rfl))
def zi5 (fuel : Nat) : Tab := Tab.of [(25, (zfO fuel).te), (26, (zfP fuel).te), (27, (zfT fuel).te), (28, (zfU fuel).te)] []
abbrev zfV : List Pm := [{ cs := [(Kd.list KN, false), (Kd.list Kd.bool, false), (Kd.list KW, false), (Kd.list (Kd.list (Kd.list I6)), false)], ag := true }, { cs := [(Kd.list KN, false), (Kd.list Kd.bool, false), (Kd.list KW, false), (Kd.list (Kd.list (Kd.list I6)), false)], ag := true }]
abbrev zi6 : List Pm := [{ cs := [(Kd.bool, false)], ag := false }]
def zi7 : List Norm := []
noncomputable def zi8 : C := irOf Try.prog Try.f8 [] zi7 []
theorem zoS : lightC Try.prog [] Try.f8.ntmps zi7 [] 0 (bodyOf Try.f8) = some (zi8, 0) := by kernel_rfl
def zi9 : List (Nat × Option (Nat × Bool)) := [(4, none)]
def zfW (fuel : Nat) (x0 : List NodY) (x1 : List Bool) (x2 : List WorY) (x3 : List (List (List Int))) (x4 : List NodY) (x5 : List Bool) (x6 : List WorY) (x7 : List (List (List Int))) : Option ((Bool × Unit) × Unit) :=
 Option.bind (zdN fuel ((x0, ()), (x4, ()), ())) fun y_1 =>
 cond (!y_1.1.1)
 (some (((false, ()), ())))
 (Option.bind (zdR fuel ((x1, ()), (x5, ()), ())) fun y_3 =>
 cond (!y_3.1.1)
 (some (((false, ()), ())))
 (Option.bind (zdV fuel ((x2, ()), (x6, ()), ())) fun y_5 =>
 cond (!y_5.1.1)
 (some (((false, ()), ())))
 (Option.bind (zdZ fuel ((x3, ()), (x7, ()), ())) fun y_7 =>
 cond (!y_7.1.1)
 (some (((false, ()), ())))
 (some (((true, ()), ()))))))
def zao (fuel : Nat) (x : (NetY × (NetY × Unit))) : Option ((Bool × Unit) × Unit) := zfW fuel x.1.1 x.1.2.1 x.1.2.2.1 x.1.2.2.2.1 x.2.1.1 x.2.1.2.1 x.2.1.2.2.1 x.2.1.2.2.2.1
theorem zoT (fuel : Nat) (x : PsT zfV) : run (zi5 fuel) 0 fuel zi8 (env0 (svPs zfV x) 0) [] (endF zi9 zi6) = zao fuel x := by kernel_rfl
def zfX (fuel : Nat) : TF := ⟨zfV, zi6, true, zao fuel⟩
theorem zoU (fuel : Nat) : FnSpec Try.prog 8 (zfX fuel) :=
  fn_spec (T := zi5 fuel) (c := bodyOf Try.f8) (fn := Try.f8) (TabOK.of (entCons (zoy fuel) (entCons (zoD fuel) (entCons (zoM fuel) (entCons (zoR fuel) entNil)))) (methNil)) mixed (by kernel_rfl) (by kernel_rfl) zoS (by kernel_rfl) (Nat.le_of_ble_eq_true (by kernel_rfl)) (rv := zi9) (by kernel_rfl) (zoT fuel)
theorem zoV (fuel : Nat) : EntryOK Try.prog 8 (zfX fuel).te := EntryOK.tf rfl (zoU fuel) (isFn (fn := Try.f8) (by kernel_rfl) (by kernel_rfl) (by kernel_rfl))
end Go.Proofs.Ytmkekjmckdkcnaa.Den
namespace Go.Proofs.Ytmkekjmckdkcnaa.Den
open Go Go.RowKit
def zja (fuel : Nat) : Tab := Tab.of [] []
abbrev zfY : List Pm := [{ cs := [(I6, false)], ag := false }, { cs := [(I6, false)], ag := false }]
abbrev zjb : List Pm := [{ cs := [(I6, false)], ag := false }]
def zjc : List Norm := []
noncomputable def zjd : C := irOf Try.prog Try.f19 [] zjc []
theorem zoW : lightC Try.prog [] Try.f19.ntmps zjc [] 0 (bodyOf Try.f19) = some (zjd, 0) := by kernel_rfl
def zje : List (Nat × Option (Nat × Bool)) := [(4, none)]
def zfZ (fuel : Nat) (x0 : Int) (x1 : Int) : Option ((Int × Unit) × Unit) :=
 some (((w64 (w64 (x0 * (5 : Int)) + x1), ()), ()))
def zcc (fuel : Nat) (x : ((Int × Unit) × ((Int × Unit) × Unit))) : Option ((Int × Unit) × Unit) := zfZ fuel x.1.1 x.2.1.1
theorem zoX (fuel : Nat) (x : PsT zfY) : run (zja fuel) 0 fuel zjd (env0 (svPs zfY x) 0) [] (endF zje zjb) = zcc fuel x := by kernel_rfl
def zf0 (fuel : Nat) : TF := ⟨zfY, zjb, true, zcc fuel⟩
theorem zoY (fuel : Nat) : FnSpec Try.prog 19 (zf0 fuel) :=
  fn_spec (T := zja fuel) (c := bodyOf Try.f19) (fn := Try.f19) (TabOK.of (entNil) (methNil)) mixed (by kernel_rfl) (by kernel_rfl) zoW (by kernel_rfl) (Nat.le_of_ble_eq_true (by kernel_rfl)) (rv := zje) (by kernel_rfl) (zoX fuel)
theorem zoZ (fuel : Nat) : EntryOK Try.prog 19 (zf0 fuel).te := EntryOK.tf rfl (zoY fuel) (isFn (fn := Try.f19) (by kernel_rfl) (by kernel_rfl) (by kernel_rfl))
def zcd (fuel : Nat) : Tab := Tab.of [] []
abbrev zd0 : List Pm := [{ cs := [(Kd.list I6, false)], ag := false }, { cs := [(I6, false)], ag := false }]
abbrev zce : List Pm := [{ cs := [(I6, false)], ag := false }]
def zjf : List Norm := [{ live := [5, 0, 1], fix := [] }]
noncomputable def zcf : C := irOf Try.prog Try.f17 [] zjf []
theorem zo0 : lightC Try.prog [] Try.f17.ntmps zjf [] 0 (bodyOf Try.f17) = some (zcf, 1) := by kernel_rfl
def zcg : List (Nat × Option (Nat × Bool)) := [(4, none)]
abbrev zap := (Int) × (List Int) × (Int)
def zjg (v : zap) : Env × Heap := ([(5, SV.int .i64 v.1), (0, SV.es I6 v.2.1), (1, SV.int .i64 v.2.2)], [])
def zo1 (fuel : Nat) (g0 : zap → Option ((Int × Unit) × Unit)) (v : zap) : Option ((Int × Unit) × Unit) :=
 cond (decide (v.1 < (zz (List.length v.2.1))))
 (tst (decide (0 ≤ v.1)) <|
 tst (decide (v.1 < (zz (List.length v.2.1)))) <|
 cond (List.getD v.2.1 (Int.toNat v.1) 0 != v.2.2)
 (some ((((-1 : Int), ()), ())))
 (g0 (w64 (v.1 + (1 : Int)), v.2.1, w64 (v.2.2 + (1 : Int)))))
 (some (((v.2.2, ()), ())))
def zjh (fuel : Nat) (g0 : zap → Option ((Int × Unit) × Unit)) : zap → Option ((Int × Unit) × Unit) := zo1 fuel g0
theorem zo2 (fuel : Nat) (G) : zcf.lp (zcd fuel) 0 fuel G (endF zcg zce) 0 zjg = iter (zjh fuel) fuel := C.lp_iter fun g v => by kernel_rfl
def zji (fuel : Nat) (X0 : zap → Option ((Int × Unit) × Unit)) (x0 : List Int) (x1 : Int) : Option ((Int × Unit) × Unit) :=
 X0 ((0 : Int), x0, x1)
def zd1 (fuel : Nat) (x : (((List Int) × Unit) × ((Int × Unit) × Unit))) : Option ((Int × Unit) × Unit) := zji fuel (iter (zjh fuel) fuel) x.1.1 x.2.1.1
theorem zo3 (fuel : Nat) (x : PsT zd0) : run (zcd fuel) 0 fuel zcf (env0 (svPs zd0 x) 0) [] (endF zcg zce) = zd1 fuel x :=
  (show run (zcd fuel) 0 fuel zcf (env0 (svPs zd0 x) 0) [] (endF zcg zce) = zji fuel (zcf.lp (zcd fuel) 0 fuel (fun _ _ _ => none) (endF zcg zce) 0 zjg) x.1.1 x.2.1.1 by kernel_rfl).trans (by rw [zo2]; rfl)
def zd2 (fuel : Nat) : TF := ⟨zd0, zce, true, zd1 fuel⟩
theorem zo4 (fuel : Nat) : FnSpec Try.prog 17 (zd2 fuel) :=
  fn_spec (T := zcd fuel) (c := bodyOf Try.f17) (fn := Try.f17) (TabOK.of (entNil) (methNil)) mixed (by kernel_rfl) (by kernel_rfl) zo0 (by kernel_rfl) (Nat.le_of_ble_eq_true (by kernel_rfl)) (rv := zcg) (by kernel_rfl) (zo3 fuel)
theorem zjj (fuel : Nat) : EntryOK Try.prog 17 (zd2 fuel).te := EntryOK.tf rfl (zo4 fuel) (isFn (fn := Try.f17) (by kernel_rfl) (by kernel_rfl) (by kernel_rfl))
def zjk (fuel : Nat) : Tab := Tab.of [] []
abbrev zf1 : List Pm := [{ cs := [(I6, false)], ag := false }, { cs := [(I6, false)], ag := false }, { cs := [(I6, false)], ag := false }]
abbrev zjl : List Pm := [{ cs := [(Kd.bool, false)], ag := false }]
def zjm : List Norm := []
noncomputable def zjn : C := irOf Try.prog Try.f18 [] zjm []
theorem zo5 : lightC Try.prog [] Try.f18.ntmps zjm [] 0 (bodyOf Try.f18) = some (zjn, 0) := by kernel_rfl
def zjo : List (Nat × Option (Nat × Bool)) := [(6, none)]
def zf2 (fuel : Nat) (x0 : Int) (x1 : Int) (x2 : Int) : Option ((Bool × Unit) × Unit) :=
 cond (decide (x0 ≥ x1))
 (some (((decide (x0 ≤ x2), ()), ())))
 (some (((false, ()), ())))
def zch (fuel : Nat) (x : ((Int × Unit) × ((Int × Unit) × ((Int × Unit) × Unit)))) : Option ((Bool × Unit) × Unit) := zf2 fuel x.1.1 x.2.1.1 x.2.2.1.1
theorem zo6 (fuel : Nat) (x : PsT zf1) : run (zjk fuel) 0 fuel zjn (env0 (svPs zf1 x) 0) [] (endF zjo zjl) = zch fuel x := by kernel_rfl
def zf3 (fuel : Nat) : TF := ⟨zf1, zjl, true, zch fuel⟩
theorem zo7 (fuel : Nat) : FnSpec Try.prog 18 (zf3 fuel) :=
  fn_spec (T := zjk fuel) (c := bodyOf Try.f18) (fn := Try.f18) (TabOK.of (entNil) (methNil)) mixed (by kernel_rfl) (by kernel_rfl) zo5 (by kernel_rfl) (Nat.le_of_ble_eq_true (by kernel_rfl)) (rv := zjo) (by kernel_rfl) (zo6 fuel)
theorem zo8 (fuel : Nat) : EntryOK Try.prog 18 (zf3 fuel).te := EntryOK.tf rfl (zo7 fuel) (isFn (fn := Try.f18) (by kernel_rfl) (by kernel_rfl) (by kernel_rfl))
def zjp (fuel : Nat) : Tab := Tab.of [] []
abbrev zf4 : List Pm := []
abbrev zjq : List Pm := [{ cs := [(Kd.list (Kd.list I6), false)], ag := true }]
def zjr : List Norm := [{ live := [2, 1, 0], fix := [] }]
noncomputable def zjs : C := irOf Try.prog Try.f65 [] zjr []
theorem zo9 : lightC Try.prog [] Try.f65.ntmps zjr [] 0 (bodyOf Try.f65) = some (zjs, 1) := by kernel_rfl
def zjt : List (Nat × Option (Nat × Bool)) := [(0, some (1, true))]
def zpa (fuel : Nat)  : Option (((List (List Int)) × Unit) × Unit) :=
 some ((([List.replicate (Int.toNat (8 : Int)) 0, List.replicate (Int.toNat (8 : Int)) 0, List.replicate (Int.toNat (8 : Int)) 0], ()), ()))
def zf5 (fuel : Nat) (x : Unit) : Option (((List (List Int)) × Unit) × Unit) := zpa fuel
theorem zpb (fuel : Nat) (x : PsT zf4) : run (zjp fuel) 0 (fuel + 6) zjs (env0 (svPs zf4 x) 0) [] (endF zjt zjq) = zf5 fuel x := by kernel_rfl
def zf6 (fuel : Nat) : TF := ⟨zf4, zjq, false, zf5 fuel⟩
theorem zpc (fuel : Nat) : FnSpec Try.prog 65 (zf6 fuel) :=
  fn_spec (T := zjp fuel) (c := bodyOf Try.f65) (fn := Try.f65) (TabOK.of (entNil) (methNil)) mixed (by kernel_rfl) (by kernel_rfl) zo9 (by kernel_rfl) (Nat.le_of_ble_eq_true (by kernel_rfl)) (rv := zjt) (by kernel_rfl) (zpb fuel)
theorem zpd (fuel : Nat) : EntryOK Try.prog 65 (zf6 fuel).te := EntryOK.tf rfl (zpc fuel) (isFn (fn := Try.f65) (by kernel_rfl) (by kernel_rfl) (by kernel_rfl))
def zju (fuel : Nat) : Tab := Tab.of [(65, (zf6 fuel).te)] []
abbrev zf7 : List Pm := []
abbrev zjv : List Pm := [{ cs := [(Kd.list (Kd.list I6), false), (Kd.list I6, true), (Kd.list KP, true), (I6, false), (I6, false), (Kd.list KP, true), (I6, false)], ag := true }]
def zjw : List Norm := []
noncomputable def zjx : C := irOf Try.prog Try.f46 [] zjw []
theorem zpe : lightC Try.prog [] Try.f46.ntmps zjw [] 0 (bodyOf Try.f46) = some (zjx, 0) := by kernel_rfl
def zjy : List (Nat × Option (Nat × Bool)) := [(0, some (7, true))]
def zpf (fuel : Nat)  : Option (SumY × Unit) :=
 Option.bind (zf5 fuel ()) fun y_1 =>
 some (((y_1.1.1, [], [], (0 : Int), (0 : Int), [], (0 : Int), ()), ()))
def zd3 (fuel : Nat) (x : Unit) : Option (SumY × Unit) := zpf fuel
theorem zpg (fuel : Nat) (x : PsT zf7) : run (zju fuel) 0 fuel zjx (env0 (svPs zf7 x) 0) [] (endF zjy zjv) = zd3 fuel x := by kernel_rfl
def zf8 (fuel : Nat) : TF := ⟨zf7, zjv, false, zd3 fuel⟩
theorem zph (fuel : Nat) : FnSpec Try.prog 46 (zf8 fuel) :=
  fn_spec (T := zju fuel) (c := bodyOf Try.f46) (fn := Try.f46) (TabOK.of (entCons (zpd fuel) entNil) (methNil)) mixed (by kernel_rfl) (by kernel_rfl) zpe (by kernel_rfl) (Nat.le_of_ble_eq_true (by kernel_rfl)) (rv := zjy) (by kernel_rfl) (zpg fuel)
theorem zpi (fuel : Nat) : EntryOK Try.prog 46 (zf8 fuel).te := EntryOK.tf rfl (zph fuel) (isFn (fn := Try.f46) (by kernel_rfl) (by kernel_rfl) (by kernel_rfl))
def zjz (fuel : Nat) : Tab := Tab.of [(46, (zf8 fuel).te)] []
abbrev zf9 : List Pm := [{ cs := [(I6, false)], ag := false }, { cs := [(I6, false)], ag := false }]
abbrev zjA : List Pm := [{ cs := [(I6, false), (Kd.list KE, false), (I6, false), (I6, false), (I6, false)], ag := true }]
def zjB : List Norm := []
noncomputable def zjC : C := irOf Try.prog Try.f20 [] zjB []
theorem zpj : lightC Try.prog [] Try.f20.ntmps zjB [] 0 (bodyOf Try.f20) = some (zjC, 0) := by kernel_rfl
def zjD : List (Nat × Option (Nat × Bool)) := [(4, some (5, true))]
def zpk (fuel : Nat) (x0 : Int) (x1 : Int) : Option (NodY × Unit) :=
 cond (x0 == (0 : Int))
 (Option.bind (zd3 fuel ()) fun y_2 =>
 some (((x1, [(x0, x1, (0 : Int), ((y_2.1.1, ()), (y_2.1.2.1, ()), (y_2.1.2.2.1, y_2.1.2.2.2.1, y_2.1.2.2.2.2.1, ()), (y_2.1.2.2.2.2.2.1, y_2.1.2.2.2.2.2.2.1, ()), ()), ())], (0 : Int), (0 : Int), (-1 : Int), ()), ())))
 (Option.bind (zd3 fuel ()) fun y_2 =>
 some (((x1, [(x0, x1, (0 : Int), ((y_2.1.1, ()), (y_2.1.2.1, ()), (y_2.1.2.2.1, y_2.1.2.2.2.1, y_2.1.2.2.2.2.1, ()), (y_2.1.2.2.2.2.2.1, y_2.1.2.2.2.2.2.2.1, ()), ()), ())], (0 : Int), (5 : Int), (-1 : Int), ()), ())))
def zT (fuel : Nat) (x : ((Int × Unit) × ((Int × Unit) × Unit))) : Option (NodY × Unit) := zpk fuel x.1.1 x.2.1.1
theorem zpl (fuel : Nat) (x : PsT zf9) : run (zjz fuel) 0 fuel zjC (env0 (svPs zf9 x) 0) [] (endF zjD zjA) = zT fuel x := by kernel_rfl
def zga (fuel : Nat) : TF := ⟨zf9, zjA, false, zT fuel⟩
theorem zpm (fuel : Nat) : FnSpec Try.prog 20 (zga fuel) :=
  fn_spec (T := zjz fuel) (c := bodyOf Try.f20) (fn := Try.f20) (TabOK.of (entCons (zpi fuel) entNil) (methNil)) mixed (by kernel_rfl) (by kernel_rfl) zpj (by kernel_rfl) (Nat.le_of_ble_eq_true (by kernel_rfl)) (rv := zjD) (by kernel_rfl) (zpl fuel)
theorem zpn (fuel : Nat) : EntryOK Try.prog 20 (zga fuel).te := EntryOK.tf rfl (zpm fuel) (isFn (fn := Try.f20) (by kernel_rfl) (by kernel_rfl) (by kernel_rfl))
abbrev zU := Option (NetY × ((Bool × Unit) × Unit))
def zci (fuel : Nat) : Tab := Tab.of [(18, (zf3 fuel).te), (19, (zf0 fuel).te), (20, (zga fuel).te)] []
abbrev zd4 : List Pm := [{ cs := [(Kd.list I6, false)], ag := false }]
abbrev zcj : List Pm := [{ cs := [(Kd.list KN, false), (Kd.list Kd.bool, true), (Kd.list KW, false), (Kd.list (Kd.list (Kd.list I6)), false)], ag := true }, { cs := [(Kd.bool, false)], ag := false }]
def zjE : List Norm := [{ live := [5, 0, 2, 4], fix := [] }, { live := [8, 4, 2], fix := [] }]
noncomputable def zck : C := irOf Try.prog Try.f5 [] zjE []
theorem zpo : lightC Try.prog [] Try.f5.ntmps zjE [] 0 (bodyOf Try.f5) = some (zck, 2) := by kernel_rfl
def zcl : List (Nat × Option (Nat × Bool)) := [(2, some (4, true)), (3, none)]
abbrev zaq := (Int) × (List Int) × (List Bool)
def zjF (v : zaq) : Env × Heap := ([(5, SV.int .i64 v.1), (0, SV.es I6 v.2.1), (2, SV.ptr 0 0), (4, SV.ptr 1 0)], [Blk.cells [SV.nils, SV.nils, SV.nils, SV.nils] 0 4, Blk.cells [SV.nils, SV.own 2, SV.nils, SV.nils] 0 4, Blk.arr Kd.bool v.2.2 0])
def zjG (fuel : Nat) (g0 : zaq → zU) (v : zaq) : zU :=
 cond (decide (v.1 < (zz (List.length v.2.1))))
 (tst (decide (0 ≤ v.1)) <|
 tst (decide (v.1 < (zz (List.length v.2.1)))) <|
 tst (decide (0 ≤ w64 (v.1 + (1 : Int)))) <|
 tst (decide (w64 (v.1 + (1 : Int)) < (zz (List.length v.2.1)))) <|
 Option.bind (zch fuel ((List.getD v.2.1 (Int.toNat v.1) 0, ()), ((0 : Int), ()), ((4 : Int), ()), ())) fun y_2 =>
 cond (!y_2.1.1)
 (some ((([], [], [], [], ()), (false, ()), ())))
 (Option.bind (zch fuel ((List.getD v.2.1 (Int.toNat (w64 (v.1 + (1 : Int)))) 0, ()), ((0 : Int), ()), ((4 : Int), ()), ())) fun y_4 =>
 cond (!y_4.1.1)
 (some ((([], [], [], [], ()), (false, ()), ())))
 (cond (List.getD v.2.1 (Int.toNat v.1) 0 == List.getD v.2.1 (Int.toNat (w64 (v.1 + (1 : Int)))) 0)
 (some ((([], [], [], [], ()), (false, ()), ())))
 (Option.bind (zcc fuel ((List.getD v.2.1 (Int.toNat v.1) 0, ()), (List.getD v.2.1 (Int.toNat (w64 (v.1 + (1 : Int)))) 0, ()), ())) fun y_7 =>
 tst (decide (0 ≤ y_7.1.1)) <|
 tst (decide (y_7.1.1 < (zz (List.length v.2.2)))) <|
 tst (decide (Int.toNat y_7.1.1 < List.length v.2.2)) <|
 Option.bind (zcc fuel ((List.getD v.2.1 (Int.toNat (w64 (v.1 + (1 : Int)))) 0, ()), (List.getD v.2.1 (Int.toNat v.1) 0, ()), ())) fun y_8 =>
 tst (decide (0 ≤ y_8.1.1)) <|
 tst (decide (y_8.1.1 < (zz (List.length (List.set v.2.2 (Int.toNat y_7.1.1) true))))) <|
 tst (decide (Int.toNat y_8.1.1 < List.length (List.set v.2.2 (Int.toNat y_7.1.1) true))) <|
 g0 (w64 (v.1 + (2 : Int)), v.2.1, List.set (List.set v.2.2 (Int.toNat y_7.1.1) true) (Int.toNat y_8.1.1) true)))))
 (Option.bind (zT fuel (((0 : Int), ()), ((1 : Int), ()), ())) fun y_2 =>
 Option.bind (zT fuel (((1 : Int), ()), ((1 : Int), ()), ())) fun y_3 =>
 tst (decide (List.length ([] ++ [(y_2.1.1, y_2.1.2.1, y_2.1.2.2.1, y_2.1.2.2.2.1, y_2.1.2.2.2.2.1, ())]) + 1 < LIM)) <|
 Option.bind (zT fuel (((2 : Int), ()), ((1 : Int), ()), ())) fun y_4 =>
 tst (decide (List.length ([] ++ [(y_2.1.1, y_2.1.2.1, y_2.1.2.2.1, y_2.1.2.2.2.1, y_2.1.2.2.2.2.1, ())] ++ [(y_3.1.1, y_3.1.2.1, y_3.1.2.2.1, y_3.1.2.2.2.1, y_3.1.2.2.2.2.1, ())]) + 1 < LIM)) <|
 Option.bind (zT fuel (((3 : Int), ()), ((1 : Int), ()), ())) fun y_5 =>
 tst (decide (List.length ([] ++ [(y_2.1.1, y_2.1.2.1, y_2.1.2.2.1, y_2.1.2.2.2.1, y_2.1.2.2.2.2.1, ())] ++ [(y_3.1.1, y_3.1.2.1, y_3.1.2.2.1, y_3.1.2.2.2.1, y_3.1.2.2.2.2.1, ())] ++ [(y_4.1.1, y_4.1.2.1, y_4.1.2.2.1, y_4.1.2.2.2.1, y_4.1.2.2.2.2.1, ())]) + 1 < LIM)) <|
 Option.bind (zT fuel (((4 : Int), ()), ((1 : Int), ()), ())) fun y_6 =>
 tst (decide (List.length ([] ++ [(y_2.1.1, y_2.1.2.1, y_2.1.2.2.1, y_2.1.2.2.2.1, y_2.1.2.2.2.2.1, ())] ++ [(y_3.1.1, y_3.1.2.1, y_3.1.2.2.1, y_3.1.2.2.2.1, y_3.1.2.2.2.2.1, ())] ++ [(y_4.1.1, y_4.1.2.1, y_4.1.2.2.1, y_4.1.2.2.2.1, y_4.1.2.2.2.2.1, ())] ++ [(y_5.1.1, y_5.1.2.1, y_5.1.2.2.1, y_5.1.2.2.2.1, y_5.1.2.2.2.2.1, ())]) + 1 < LIM)) <|
 some ((([] ++ [(y_2.1.1, y_2.1.2.1, y_2.1.2.2.1, y_2.1.2.2.2.1, y_2.1.2.2.2.2.1, ())] ++ [(y_3.1.1, y_3.1.2.1, y_3.1.2.2.1, y_3.1.2.2.2.1, y_3.1.2.2.2.2.1, ())] ++ [(y_4.1.1, y_4.1.2.1, y_4.1.2.2.1, y_4.1.2.2.2.1, y_4.1.2.2.2.2.1, ())] ++ [(y_5.1.1, y_5.1.2.1, y_5.1.2.2.1, y_5.1.2.2.2.1, y_5.1.2.2.2.2.1, ())] ++ [(y_6.1.1, y_6.1.2.1, y_6.1.2.2.1, y_6.1.2.2.2.1, y_6.1.2.2.2.2.1, ())], v.2.2, [], [[[], []], [[], []], [[], []], [[], []], [[], []]], ()), (true, ()), ())))
def zd5 (fuel : Nat) (g0 : zaq → zU) : zaq → zU := zjG fuel g0
theorem zpp (fuel : Nat) (G) : zck.lp (zci fuel) 0 (fuel + 6) G (endF zcl zcj) 0 zjF = iter (zd5 fuel) (fuel + 6) := C.lp_iter fun g v => by kernel_rfl
def zd6 (fuel : Nat) (X0 : zaq → zU) (x0 : List Int) : zU :=
 cond (Int.tmod ((zz (List.length x0))) (2 : Int) != (0 : Int))
 (some ((([], [], [], [], ()), (false, ()), ())))
 (cond (decide ((zz (List.length x0)) > (40 : Int)))
 (some ((([], [], [], [], ()), (false, ()), ())))
 (X0 ((0 : Int), x0, List.replicate (Int.toNat (25 : Int)) false)))
def zd7 (fuel : Nat) (x : (((List Int) × Unit) × Unit)) : zU := zd6 fuel (iter (zd5 fuel) (fuel + 6)) x.1.1
theorem zpq (fuel : Nat) (x : PsT zd4) : run (zci fuel) 0 (fuel + 6) zck (env0 (svPs zd4 x) 0) [] (endF zcl zcj) = zd7 fuel x :=
  (show run (zci fuel) 0 (fuel + 6) zck (env0 (svPs zd4 x) 0) [] (endF zcl zcj) = zd6 fuel (zck.lp (zci fuel) 0 (fuel + 6) (fun _ _ _ => none) (endF zcl zcj) 0 zjF) x.1.1 by kernel_rfl).trans (by rw [zpp]; rfl)
def zgb (fuel : Nat) : TF := ⟨zd4, zcj, false, zd7 fuel⟩
theorem zpr (fuel : Nat) : FnSpec Try.prog 5 (zgb fuel) :=
  fn_spec (T := zci fuel) (c := bodyOf Try.f5) (fn := Try.f5) (TabOK.of (entCons (zo8 fuel) (entCons (zoZ fuel) (entCons (zpn fuel) entNil))) (methNil)) mixed (by kernel_rfl) (by kernel_rfl) zpo (by kernel_rfl) (Nat.le_of_ble_eq_true (by kernel_rfl)) (rv := zcl) (by kernel_rfl) (zpq fuel)
theorem zps (fuel : Nat) : EntryOK Try.prog 5 (zgb fuel).te := EntryOK.tf rfl (zpr fuel) (isFn (fn := Try.f5) (by kernel_rfl) (by kernel_rfl) (by kernel_rfl))
def zjH (fuel : Nat) : Tab := Tab.of [] []
abbrev zgc : List Pm := [{ cs := [(I6, false)], ag := false }]
abbrev zjI : List Pm := [{ cs := [(Kd.bool, false)], ag := false }]
def zjJ : List Norm := []
noncomputable def zjK : C := irOf Try.prog Try.f21 [] zjJ []
theorem zpt : lightC Try.prog [] Try.f21.ntmps zjJ [] 0 (bodyOf Try.f21) = some (zjK, 0) := by kernel_rfl
def zjL : List (Nat × Option (Nat × Bool)) := [(2, none)]
def zgd (fuel : Nat) (x0 : Int) : Option ((Bool × Unit) × Unit) :=
 cond (decide (x0 ≥ (0 : Int)))
 (some (((decide (x0 < (5 : Int)), ()), ())))
 (some (((false, ()), ())))
def zcm (fuel : Nat) (x : ((Int × Unit) × Unit)) : Option ((Bool × Unit) × Unit) := zgd fuel x.1.1
theorem zpu (fuel : Nat) (x : PsT zgc) : run (zjH fuel) 0 fuel zjK (env0 (svPs zgc x) 0) [] (endF zjL zjI) = zcm fuel x := by kernel_rfl
def zge (fuel : Nat) : TF := ⟨zgc, zjI, true, zcm fuel⟩
theorem zpv (fuel : Nat) : FnSpec Try.prog 21 (zge fuel) :=
  fn_spec (T := zjH fuel) (c := bodyOf Try.f21) (fn := Try.f21) (TabOK.of (entNil) (methNil)) mixed (by kernel_rfl) (by kernel_rfl) zpt (by kernel_rfl) (Nat.le_of_ble_eq_true (by kernel_rfl)) (rv := zjL) (by kernel_rfl) (zpu fuel)
theorem zpw (fuel : Nat) : EntryOK Try.prog 21 (zge fuel).te := EntryOK.tf rfl (zpv fuel) (isFn (fn := Try.f21) (by kernel_rfl) (by kernel_rfl) (by kernel_rfl))
def zjM (fuel : Nat) : Tab := Tab.of [] []
def zjN : List Norm := []
noncomputable def zjO : C := irOf Try.prog Try.f22 [] zjN []
theorem zpx : lightC Try.prog [] Try.f22.ntmps zjN [] 0 (bodyOf Try.f22) = some (zjO, 0) := by kernel_rfl
def zjP : List (Nat × Option (Nat × Bool)) := []
noncomputable def zjQ (fuel : Nat) : IE := inlIE 3 (zjM fuel) (fuel + 6) zjO zjP
theorem zpy (fuel : Nat) : ISound Try.prog 22 (zjQ fuel) :=
  zc5 (T := zjM fuel) (c := bodyOf Try.f22) (fn := Try.f22) (TabOK.of (entNil) (methNil)) mixed (by kernel_rfl) (by kernel_rfl) zpx (by kernel_rfl) (Nat.le_of_ble_eq_true (by kernel_rfl)) (rv := zjP) (by kernel_rfl) (isFn (fn := Try.f22) (by kernel_rfl) (by kernel_rfl) (by kernel_rfl))
def zjR (fuel : Nat) : Tab := Tab.of [] []
def zjS : List Norm := [{ live := [6, 5, 1, 0], fix := [] }]
noncomputable def zjT : C := irOf Try.prog Try.f66 [3] zjS []
theorem zpz : lightC Try.prog [3] Try.f66.ntmps zjS [] 0 (bodyOf Try.f66) = some (zjT, 1) := by kernel_rfl
def zjU : List (Nat × Option (Nat × Bool)) := [(0, some (1, true))]
noncomputable def zjV (fuel : Nat) : IE := inlIE 0 (zjR fuel) (fuel + 6) zjT zjU
theorem zpA (fuel : Nat) : ISound Try.prog 66 (zjV fuel) :=
  zc5 (T := zjR fuel) (c := bodyOf Try.f66) (fn := Try.f66) (TabOK.of (entNil) (methNil)) mixed (by kernel_rfl) (by kernel_rfl) zpz (by kernel_rfl) (Nat.le_of_ble_eq_true (by kernel_rfl)) (rv := zjU) (by kernel_rfl) (isFn (fn := Try.f66) (by kernel_rfl) (by kernel_rfl) (by kernel_rfl))
noncomputable def zjW (fuel : Nat) : Tab := Tab.ofI [] [] [(66, zjV fuel)]
def zjX : List Norm := []
noncomputable def zjY : C := irOf Try.prog Try.f47 [1] zjX []
theorem zpB : lightC Try.prog [1] Try.f47.ntmps zjX [] 0 (bodyOf Try.f47) = some (zjY, 0) := by kernel_rfl
def zjZ : List (Nat × Option (Nat × Bool)) := [(0, some (7, true))]
noncomputable def zj0 (fuel : Nat) : IE := inlIE 0 (zjW fuel) (fuel + 6) zjY zjZ
theorem zpC (fuel : Nat) : ISound Try.prog 47 (zj0 fuel) :=
  zc5 (T := zjW fuel) (c := bodyOf Try.f47) (fn := Try.f47) (TabOK.ofI (entNil) (methNil) (inlCons (zpA fuel) (inlNil))) mixed (by kernel_rfl) (by kernel_rfl) zpB (by kernel_rfl) (Nat.le_of_ble_eq_true (by kernel_rfl)) (rv := zjZ) (by kernel_rfl) (isFn (fn := Try.f47) (by kernel_rfl) (by kernel_rfl) (by kernel_rfl))
end Go.Proofs.Ytmkekjmckdkcnaa.Den
namespace Go.Proofs.Ytmkekjmckdkcnaa.Den
open Go Go.RowKit
def zj1 (fuel : Nat) : Tab := Tab.of [] []
abbrev zgf : List Pm := [{ cs := [(I6, false)], ag := false }]
abbrev zj2 : List Pm := [{ cs := [(I6, false)], ag := false }]
def zj3 : List Norm := []
noncomputable def zj4 : C := irOf Try.prog Try.f48 [] zj3 []
theorem zpD : lightC Try.prog [] Try.f48.ntmps zj3 [] 0 (bodyOf Try.f48) = some (zj4, 0) := by kernel_rfl
def zj5 : List (Nat × Option (Nat × Bool)) := [(2, none)]
def zpE (fuel : Nat) (x0 : Int) : Option ((Int × Unit) × Unit) :=
 cond (x0 == (0 : Int))
 (some ((((0 : Int), ()), ())))
 (some ((((5 : Int), ()), ())))
def zV (fuel : Nat) (x : ((Int × Unit) × Unit)) : Option ((Int × Unit) × Unit) := zpE fuel x.1.1
theorem zpF (fuel : Nat) (x : PsT zgf) : run (zj1 fuel) 0 fuel zj4 (env0 (svPs zgf x) 0) [] (endF zj5 zj2) = zV fuel x := by kernel_rfl
def zgg (fuel : Nat) : TF := ⟨zgf, zj2, true, zV fuel⟩
theorem zpG (fuel : Nat) : FnSpec Try.prog 48 (zgg fuel) :=
  fn_spec (T := zj1 fuel) (c := bodyOf Try.f48) (fn := Try.f48) (TabOK.of (entNil) (methNil)) mixed (by kernel_rfl) (by kernel_rfl) zpD (by kernel_rfl) (Nat.le_of_ble_eq_true (by kernel_rfl)) (rv := zj5) (by kernel_rfl) (zpF fuel)
theorem zpH (fuel : Nat) : EntryOK Try.prog 48 (zgg fuel).te := EntryOK.tf rfl (zpG fuel) (isFn (fn := Try.f48) (by kernel_rfl) (by kernel_rfl) (by kernel_rfl))
noncomputable def zj6 (fuel : Nat) : Tab := Tab.ofI [(48, (zgg fuel).te)] [] [(47, zj0 fuel)]
def zj7 : List Norm := []
noncomputable def zj8 : C := irOf Try.prog Try.f23 [10] zj7 []
theorem zpI : lightC Try.prog [10] Try.f23.ntmps zj7 [] 0 (bodyOf Try.f23) = some (zj8, 0) := by kernel_rfl
def zj9 : List (Nat × Option (Nat × Bool)) := [(6, none)]
noncomputable def zka (fuel : Nat) : IE := inlIE 3 (zj6 fuel) (fuel + 6) zj8 zj9
theorem zpJ (fuel : Nat) : ISound Try.prog 23 (zka fuel) :=
  zc5 (T := zj6 fuel) (c := bodyOf Try.f23) (fn := Try.f23) (TabOK.ofI (entCons (zpH fuel) entNil) (methNil) (inlCons (zpC fuel) (inlNil))) mixed (by kernel_rfl) (by kernel_rfl) zpI (by kernel_rfl) (Nat.le_of_ble_eq_true (by kernel_rfl)) (rv := zj9) (by kernel_rfl) (isFn (fn := Try.f23) (by kernel_rfl) (by kernel_rfl) (by kernel_rfl))
def zkb (fuel : Nat) : Tab := Tab.of [] []
abbrev zgh : List Pm := [{ cs := [(Kd.list I6, false)], ag := false }]
abbrev zkc : List Pm := [{ cs := [(Kd.list I6, true)], ag := false }]
def zkd : List Norm := []
noncomputable def zke : C := irOf Try.prog Try.f67 [] zkd []
theorem zpK : lightC Try.prog [] Try.f67.ntmps zkd [] 0 (bodyOf Try.f67) = some (zke, 0) := by kernel_rfl
def zgi : List (Nat × Option (Nat × Bool)) := [(2, none)]
def zkf (fuel : Nat) (x0 : List Int) : Option (((List Int) × Unit) × Unit) :=
 tst (decide (0 < List.length x0)) <|
 tst (decide (0 + List.length x0 < LIM)) <|
 some ((([] ++ x0, ()), ()))
def zkg (fuel : Nat) (x : (((List Int) × Unit) × Unit)) : Option (((List Int) × Unit) × Unit) := zkf fuel x.1.1
theorem zpL (fuel : Nat) (x : PsT zgh) : run (zkb fuel) 0 fuel zke (env0 (svPs zgh x) 0) [] (endF zgi zkc) = zkg fuel x := by kernel_rfl
def zpM (fuel : Nat) : TF := ⟨zgh, zkc, true, zkg fuel⟩
theorem zpN (fuel : Nat) : FnSpec Try.prog 67 (zpM fuel) :=
  fn_spec (T := zkb fuel) (c := bodyOf Try.f67) (fn := Try.f67) (TabOK.of (entNil) (methNil)) mixed (by kernel_rfl) (by kernel_rfl) zpK (by kernel_rfl) (Nat.le_of_ble_eq_true (by kernel_rfl)) (rv := zgi) (by kernel_rfl) (zpL fuel)
def zkh (fuel : Nat) : Tab := Tab.of [] []
abbrev zgj : List Pm := [{ cs := [(Kd.list KE, false)], ag := false }]
abbrev zki : List Pm := [{ cs := [(Kd.list KE, true)], ag := false }]
def zkj : List Norm := []
noncomputable def zkk : C := irOf Try.prog Try.f68 [] zkj []
theorem zpO : lightC Try.prog [] Try.f68.ntmps zkj [] 0 (bodyOf Try.f68) = some (zkk, 0) := by kernel_rfl
def zgk : List (Nat × Option (Nat × Bool)) := [(2, none)]
def zgl (fuel : Nat) (x0 : List EntY) : Option (((List EntY) × Unit) × Unit) :=
 tst (decide (0 < List.length x0)) <|
 tst (decide (0 + List.length x0 < LIM)) <|
 some ((([] ++ x0, ()), ()))
def zkl (fuel : Nat) (x : (((List EntY) × Unit) × Unit)) : Option (((List EntY) × Unit) × Unit) := zgl fuel x.1.1
theorem zpP (fuel : Nat) (x : PsT zgj) : run (zkh fuel) 0 fuel zkk (env0 (svPs zgj x) 0) [] (endF zgk zki) = zkl fuel x := by kernel_rfl
def zpQ (fuel : Nat) : TF := ⟨zgj, zki, false, zkl fuel⟩
theorem zpR (fuel : Nat) : FnSpec Try.prog 68 (zpQ fuel) :=
  fn_spec (T := zkh fuel) (c := bodyOf Try.f68) (fn := Try.f68) (TabOK.of (entNil) (methNil)) mixed (by kernel_rfl) (by kernel_rfl) zpO (by kernel_rfl) (Nat.le_of_ble_eq_true (by kernel_rfl)) (rv := zgk) (by kernel_rfl) (zpP fuel)
def zkm (fuel : Nat) : Tab := Tab.of [] []
abbrev zgm : List Pm := [{ cs := [(Kd.list KP, false)], ag := false }]
abbrev zkn : List Pm := [{ cs := [(Kd.list KP, true)], ag := false }]
def zko : List Norm := []
noncomputable def zkp : C := irOf Try.prog Try.f69 [] zko []
theorem zpS : lightC Try.prog [] Try.f69.ntmps zko [] 0 (bodyOf Try.f69) = some (zkp, 0) := by kernel_rfl
def zgn : List (Nat × Option (Nat × Bool)) := [(2, none)]
def zkq (fuel : Nat) (x0 : LP) : Option ((LP × Unit) × Unit) :=
 tst (decide (0 < List.length x0)) <|
 tst (decide (0 + List.length x0 < LIM)) <|
 some ((([] ++ x0, ()), ()))
def zkr (fuel : Nat) (x : ((LP × Unit) × Unit)) : Option ((LP × Unit) × Unit) := zkq fuel x.1.1
theorem zpT (fuel : Nat) (x : PsT zgm) : run (zkm fuel) 0 fuel zkp (env0 (svPs zgm x) 0) [] (endF zgn zkn) = zkr fuel x := by kernel_rfl
def zpU (fuel : Nat) : TF := ⟨zgm, zkn, true, zkr fuel⟩
theorem zpV (fuel : Nat) : FnSpec Try.prog 69 (zpU fuel) :=
  fn_spec (T := zkm fuel) (c := bodyOf Try.f69) (fn := Try.f69) (TabOK.of (entNil) (methNil)) mixed (by kernel_rfl) (by kernel_rfl) zpS (by kernel_rfl) (Nat.le_of_ble_eq_true (by kernel_rfl)) (rv := zgn) (by kernel_rfl) (zpT fuel)
def zks (fuel : Nat) : Tab := Tab.of [] []
abbrev zgo : List Pm := [{ cs := [(Kd.list KP, false)], ag := false }]
abbrev zkt : List Pm := [{ cs := [(Kd.list KP, true)], ag := false }]
def zku : List Norm := []
noncomputable def zkv : C := irOf Try.prog Try.f70 [] zku []
theorem zpW : lightC Try.prog [] Try.f70.ntmps zku [] 0 (bodyOf Try.f70) = some (zkv, 0) := by kernel_rfl
def zgp : List (Nat × Option (Nat × Bool)) := [(2, none)]
def zkw (fuel : Nat) (x0 : LP) : Option ((LP × Unit) × Unit) :=
 tst (decide (0 < List.length x0)) <|
 tst (decide (0 + List.length x0 < LIM)) <|
 some ((([] ++ x0, ()), ()))
def zkx (fuel : Nat) (x : ((LP × Unit) × Unit)) : Option ((LP × Unit) × Unit) := zkw fuel x.1.1
theorem zpX (fuel : Nat) (x : PsT zgo) : run (zks fuel) 0 fuel zkv (env0 (svPs zgo x) 0) [] (endF zgp zkt) = zkx fuel x := by kernel_rfl
def zpY (fuel : Nat) : TF := ⟨zgo, zkt, true, zkx fuel⟩
theorem zpZ (fuel : Nat) : FnSpec Try.prog 70 (zpY fuel) :=
  fn_spec (T := zks fuel) (c := bodyOf Try.f70) (fn := Try.f70) (TabOK.of (entNil) (methNil)) mixed (by kernel_rfl) (by kernel_rfl) zpW (by kernel_rfl) (Nat.le_of_ble_eq_true (by kernel_rfl)) (rv := zgp) (by kernel_rfl) (zpX fuel)
def zcn (fuel : Nat) : Tab := Tab.of [(17, (zd2 fuel).te)] []
abbrev zd8 : List Pm := [{ cs := [(Kd.list (Kd.list I6), false)], ag := false }, { cs := [(I6, false)], ag := false }]
abbrev zco : List Pm := [{ cs := [(I6, false)], ag := false }]
def zky : List Norm := [{ live := [5, 0, 1], fix := [] }]
noncomputable def zcp : C := irOf Try.prog Try.f58 [] zky []
theorem zp0 : lightC Try.prog [] Try.f58.ntmps zky [] 0 (bodyOf Try.f58) = some (zcp, 1) := by kernel_rfl
def zcq : List (Nat × Option (Nat × Bool)) := [(4, none)]
abbrev zar := (Int) × (List (List Int)) × (Int)
def zkz (v : zar) : Env × Heap := ([(5, SV.int .i64 v.1), (0, SV.es (Kd.list I6) v.2.1), (1, SV.int .i64 v.2.2)], [])
def zp1 (fuel : Nat) (g0 : zar → Option ((Int × Unit) × Unit)) (v : zar) : Option ((Int × Unit) × Unit) :=
 cond (decide (v.1 < (zz (List.length v.2.1))))
 (tst (decide (0 ≤ v.1)) <|
 tst (decide (v.1 < (zz (List.length v.2.1)))) <|
 Option.bind (zd1 fuel ((List.getD v.2.1 (Int.toNat v.1) [], ()), (v.2.2, ()), ())) fun y_2 =>
 cond (decide (y_2.1.1 < (0 : Int)))
 (some ((((-1 : Int), ()), ())))
 (g0 (w64 (v.1 + (1 : Int)), v.2.1, y_2.1.1)))
 (some (((v.2.2, ()), ())))
def zkA (fuel : Nat) (g0 : zar → Option ((Int × Unit) × Unit)) : zar → Option ((Int × Unit) × Unit) := zp1 fuel g0
theorem zp2 (fuel : Nat) (G) : zcp.lp (zcn fuel) 0 fuel G (endF zcq zco) 0 zkz = iter (zkA fuel) fuel := C.lp_iter fun g v => by kernel_rfl
def zkB (fuel : Nat) (X0 : zar → Option ((Int × Unit) × Unit)) (x0 : List (List Int)) (x1 : Int) : Option ((Int × Unit) × Unit) :=
 X0 ((0 : Int), x0, x1)
def zd9 (fuel : Nat) (x : (((List (List Int)) × Unit) × ((Int × Unit) × Unit))) : Option ((Int × Unit) × Unit) := zkB fuel (iter (zkA fuel) fuel) x.1.1 x.2.1.1
theorem zp3 (fuel : Nat) (x : PsT zd8) : run (zcn fuel) 0 fuel zcp (env0 (svPs zd8 x) 0) [] (endF zcq zco) = zd9 fuel x :=
  (show run (zcn fuel) 0 fuel zcp (env0 (svPs zd8 x) 0) [] (endF zcq zco) = zkB fuel (zcp.lp (zcn fuel) 0 fuel (fun _ _ _ => none) (endF zcq zco) 0 zkz) x.1.1 x.2.1.1 by kernel_rfl).trans (by rw [zp2]; rfl)
def zea (fuel : Nat) : TF := ⟨zd8, zco, true, zd9 fuel⟩
theorem zp4 (fuel : Nat) : FnSpec Try.prog 58 (zea fuel) :=
  fn_spec (T := zcn fuel) (c := bodyOf Try.f58) (fn := Try.f58) (TabOK.of (entCons (zjj fuel) entNil) (methNil)) mixed (by kernel_rfl) (by kernel_rfl) zp0 (by kernel_rfl) (Nat.le_of_ble_eq_true (by kernel_rfl)) (rv := zcq) (by kernel_rfl) (zp3 fuel)
theorem zkC (fuel : Nat) : EntryOK Try.prog 58 (zea fuel).te := EntryOK.tf rfl (zp4 fuel) (isFn (fn := Try.f58) (by kernel_rfl) (by kernel_rfl) (by kernel_rfl))
def zcr (fuel : Nat) : Tab := Tab.of [] []
abbrev zeb : List Pm := [{ cs := [(Kd.list KP, false)], ag := false }, { cs := [(I6, false)], ag := false }]
abbrev zcs : List Pm := [{ cs := [(I6, false)], ag := false }]
def zkD : List Norm := [{ live := [5, 0, 1], fix := [] }]
noncomputable def zct : C := irOf Try.prog Try.f74 [] zkD []
theorem zp5 : lightC Try.prog [] Try.f74.ntmps zkD [] 0 (bodyOf Try.f74) = some (zct, 1) := by kernel_rfl
def zcu : List (Nat × Option (Nat × Bool)) := [(4, none)]
abbrev zas := (Int) × LP × (Int)
def zkE (v : zas) : Env × Heap := ([(5, SV.int .i64 v.1), (0, SV.es KP v.2.1), (1, SV.int .i64 v.2.2)], [])
def zp6 (fuel : Nat) (g0 : zas → Option ((Int × Unit) × Unit)) (v : zas) : Option ((Int × Unit) × Unit) :=
 cond (decide (v.1 < (zz (List.length v.2.1))))
 (tst (decide (0 ≤ v.1)) <|
 tst (decide (v.1 < (zz (List.length v.2.1)))) <|
 cond ((List.getD v.2.1 (Int.toNat v.1) (0, (0, ()))).1 != v.2.2)
 (some ((((-1 : Int), ()), ())))
 (tst (decide (0 ≤ v.1)) <|
 tst (decide (v.1 < (zz (List.length v.2.1)))) <|
 cond ((List.getD v.2.1 (Int.toNat v.1) (0, (0, ()))).2.1 != w64 (v.2.2 + (1 : Int)))
 (some ((((-1 : Int), ()), ())))
 (g0 (w64 (v.1 + (1 : Int)), v.2.1, w64 (w64 (v.2.2 + (1 : Int)) + (1 : Int))))))
 (some (((v.2.2, ()), ())))
def zkF (fuel : Nat) (g0 : zas → Option ((Int × Unit) × Unit)) : zas → Option ((Int × Unit) × Unit) := zp6 fuel g0
theorem zp7 (fuel : Nat) (G) : zct.lp (zcr fuel) 0 fuel G (endF zcu zcs) 0 zkE = iter (zkF fuel) fuel := C.lp_iter fun g v => by kernel_rfl
def zkG (fuel : Nat) (X0 : zas → Option ((Int × Unit) × Unit)) (x0 : LP) (x1 : Int) : Option ((Int × Unit) × Unit) :=
 X0 ((0 : Int), x0, x1)
def zgq (fuel : Nat) (x : ((LP × Unit) × ((Int × Unit) × Unit))) : Option ((Int × Unit) × Unit) := zkG fuel (iter (zkF fuel) fuel) x.1.1 x.2.1.1
theorem zp8 (fuel : Nat) (x : PsT zeb) : run (zcr fuel) 0 fuel zct (env0 (svPs zeb x) 0) [] (endF zcu zcs) = zgq fuel x :=
  (show run (zcr fuel) 0 fuel zct (env0 (svPs zeb x) 0) [] (endF zcu zcs) = zkG fuel (zct.lp (zcr fuel) 0 fuel (fun _ _ _ => none) (endF zcu zcs) 0 zkE) x.1.1 x.2.1.1 by kernel_rfl).trans (by rw [zp7]; rfl)
def zgr (fuel : Nat) : TF := ⟨zeb, zcs, true, zgq fuel⟩
theorem zp9 (fuel : Nat) : FnSpec Try.prog 74 (zgr fuel) :=
  fn_spec (T := zcr fuel) (c := bodyOf Try.f74) (fn := Try.f74) (TabOK.of (entNil) (methNil)) mixed (by kernel_rfl) (by kernel_rfl) zp5 (by kernel_rfl) (Nat.le_of_ble_eq_true (by kernel_rfl)) (rv := zcu) (by kernel_rfl) (zp8 fuel)
theorem zqa (fuel : Nat) : EntryOK Try.prog 74 (zgr fuel).te := EntryOK.tf rfl (zp9 fuel) (isFn (fn := Try.f74) (by kernel_rfl) (by kernel_rfl) (by kernel_rfl))
def zcv (fuel : Nat) : Tab := Tab.of [] []
abbrev zec : List Pm := [{ cs := [(Kd.list KP, false)], ag := false }, { cs := [(I6, false)], ag := false }]
abbrev zcw : List Pm := [{ cs := [(I6, false)], ag := false }]
def zkH : List Norm := [{ live := [5, 0, 1], fix := [] }]
noncomputable def zcx : C := irOf Try.prog Try.f75 [] zkH []
theorem zqb : lightC Try.prog [] Try.f75.ntmps zkH [] 0 (bodyOf Try.f75) = some (zcx, 1) := by kernel_rfl
def zcy : List (Nat × Option (Nat × Bool)) := [(4, none)]
abbrev zat := (Int) × LP × (Int)
def zkI (v : zat) : Env × Heap := ([(5, SV.int .i64 v.1), (0, SV.es KP v.2.1), (1, SV.int .i64 v.2.2)], [])
def zqc (fuel : Nat) (g0 : zat → Option ((Int × Unit) × Unit)) (v : zat) : Option ((Int × Unit) × Unit) :=
 cond (decide (v.1 < (zz (List.length v.2.1))))
 (tst (decide (0 ≤ v.1)) <|
 tst (decide (v.1 < (zz (List.length v.2.1)))) <|
 cond ((List.getD v.2.1 (Int.toNat v.1) (0, (0, ()))).1 != v.2.2)
 (some ((((-1 : Int), ()), ())))
 (tst (decide (0 ≤ v.1)) <|
 tst (decide (v.1 < (zz (List.length v.2.1)))) <|
 cond ((List.getD v.2.1 (Int.toNat v.1) (0, (0, ()))).2.1 != w64 (v.2.2 + (1 : Int)))
 (some ((((-1 : Int), ()), ())))
 (g0 (w64 (v.1 + (1 : Int)), v.2.1, w64 (w64 (v.2.2 + (1 : Int)) + (1 : Int))))))
 (some (((v.2.2, ()), ())))
def zkJ (fuel : Nat) (g0 : zat → Option ((Int × Unit) × Unit)) : zat → Option ((Int × Unit) × Unit) := zqc fuel g0
theorem zqd (fuel : Nat) (G) : zcx.lp (zcv fuel) 0 fuel G (endF zcy zcw) 0 zkI = iter (zkJ fuel) fuel := C.lp_iter fun g v => by kernel_rfl
def zkK (fuel : Nat) (X0 : zat → Option ((Int × Unit) × Unit)) (x0 : LP) (x1 : Int) : Option ((Int × Unit) × Unit) :=
 X0 ((0 : Int), x0, x1)
def zgs (fuel : Nat) (x : ((LP × Unit) × ((Int × Unit) × Unit))) : Option ((Int × Unit) × Unit) := zkK fuel (iter (zkJ fuel) fuel) x.1.1 x.2.1.1
theorem zqe (fuel : Nat) (x : PsT zec) : run (zcv fuel) 0 fuel zcx (env0 (svPs zec x) 0) [] (endF zcy zcw) = zgs fuel x :=
  (show run (zcv fuel) 0 fuel zcx (env0 (svPs zec x) 0) [] (endF zcy zcw) = zkK fuel (zcx.lp (zcv fuel) 0 fuel (fun _ _ _ => none) (endF zcy zcw) 0 zkI) x.1.1 x.2.1.1 by kernel_rfl).trans (by rw [zqd]; rfl)
def zgt (fuel : Nat) : TF := ⟨zec, zcw, true, zgs fuel⟩
theorem zqf (fuel : Nat) : FnSpec Try.prog 75 (zgt fuel) :=
  fn_spec (T := zcv fuel) (c := bodyOf Try.f75) (fn := Try.f75) (TabOK.of (entNil) (methNil)) mixed (by kernel_rfl) (by kernel_rfl) zqb (by kernel_rfl) (Nat.le_of_ble_eq_true (by kernel_rfl)) (rv := zcy) (by kernel_rfl) (zqe fuel)
theorem zqg (fuel : Nat) : EntryOK Try.prog 75 (zgt fuel).te := EntryOK.tf rfl (zqf fuel) (isFn (fn := Try.f75) (by kernel_rfl) (by kernel_rfl) (by kernel_rfl))
def zcz (fuel : Nat) : Tab := Tab.of [(17, (zd2 fuel).te), (58, (zea fuel).te), (74, (zgr fuel).te), (75, (zgt fuel).te)] []
abbrev zed : List Pm := [{ cs := [(Kd.list KE, false)], ag := false }, { cs := [(I6, false)], ag := false }]
abbrev zcA : List Pm := [{ cs := [(I6, false)], ag := false }]
def zkL : List Norm := [{ live := [5, 0, 1], fix := [] }]
noncomputable def zcB : C := irOf Try.prog Try.f57 [] zkL []
theorem zqh : lightC Try.prog [] Try.f57.ntmps zkL [] 0 (bodyOf Try.f57) = some (zcB, 1) := by kernel_rfl
def zcC : List (Nat × Option (Nat × Bool)) := [(4, none)]
abbrev zau := (Int) × (List EntY) × (Int)
def zkM (v : zau) : Env × Heap := ([(5, SV.int .i64 v.1), (0, SV.es KE v.2.1), (1, SV.int .i64 v.2.2)], [])
def zqi (fuel : Nat) (g0 : zau → Option ((Int × Unit) × Unit)) (v : zau) : Option ((Int × Unit) × Unit) :=
 cond (decide (v.1 < (zz (List.length v.2.1))))
 (tst (decide (0 ≤ v.1)) <|
 tst (decide (v.1 < (zz (List.length v.2.1)))) <|
 cond ((List.getD v.2.1 (Int.toNat v.1) dE).1 != v.2.2)
 (some ((((-1 : Int), ()), ())))
 (tst (decide (0 ≤ v.1)) <|
 tst (decide (v.1 < (zz (List.length v.2.1)))) <|
 cond ((List.getD v.2.1 (Int.toNat v.1) dE).2.1 != w64 (v.2.2 + (1 : Int)))
 (some ((((-1 : Int), ()), ())))
 (tst (decide (0 ≤ v.1)) <|
 tst (decide (v.1 < (zz (List.length v.2.1)))) <|
 cond ((List.getD v.2.1 (Int.toNat v.1) dE).2.2.1 != w64 (w64 (v.2.2 + (1 : Int)) + (1 : Int)))
 (some ((((-1 : Int), ()), ())))
 (tst (decide (0 ≤ v.1)) <|
 tst (decide (v.1 < (zz (List.length v.2.1)))) <|
 Option.bind (zd9 fuel (((List.getD v.2.1 (Int.toNat v.1) dE).2.2.2.1.1.1, ()), (w64 (w64 (w64 (v.2.2 + (1 : Int)) + (1 : Int)) + (1 : Int)), ()), ())) fun y_5 =>
 cond (decide (y_5.1.1 < (0 : Int)))
 (some ((((-1 : Int), ()), ())))
 (tst (decide (0 ≤ v.1)) <|
 tst (decide (v.1 < (zz (List.length v.2.1)))) <|
 Option.bind (zd1 fuel (((List.getD v.2.1 (Int.toNat v.1) dE).2.2.2.1.2.1.1, ()), (y_5.1.1, ()), ())) fun y_7 =>
 cond (decide (y_7.1.1 < (0 : Int)))
 (some ((((-1 : Int), ()), ())))
 (tst (decide (0 ≤ v.1)) <|
 tst (decide (v.1 < (zz (List.length v.2.1)))) <|
 Option.bind (zgq fuel (((List.getD v.2.1 (Int.toNat v.1) dE).2.2.2.1.2.2.1.1, ()), (y_7.1.1, ()), ())) fun y_9 =>
 cond (decide (y_9.1.1 < (0 : Int)))
 (some ((((-1 : Int), ()), ())))
 (tst (decide (0 ≤ v.1)) <|
 tst (decide (v.1 < (zz (List.length v.2.1)))) <|
 cond ((List.getD v.2.1 (Int.toNat v.1) dE).2.2.2.1.2.2.1.2.1 != y_9.1.1)
 (some ((((-1 : Int), ()), ())))
 (tst (decide (0 ≤ v.1)) <|
 tst (decide (v.1 < (zz (List.length v.2.1)))) <|
 cond ((List.getD v.2.1 (Int.toNat v.1) dE).2.2.2.1.2.2.1.2.2.1 != w64 (y_9.1.1 + (1 : Int)))
 (some ((((-1 : Int), ()), ())))
 (tst (decide (0 ≤ v.1)) <|
 tst (decide (v.1 < (zz (List.length v.2.1)))) <|
 Option.bind (zgs fuel (((List.getD v.2.1 (Int.toNat v.1) dE).2.2.2.1.2.2.2.1.1, ()), (w64 (w64 (y_9.1.1 + (1 : Int)) + (1 : Int)), ()), ())) fun y_13 =>
 cond (decide (y_13.1.1 < (0 : Int)))
 (some ((((-1 : Int), ()), ())))
 (tst (decide (0 ≤ v.1)) <|
 tst (decide (v.1 < (zz (List.length v.2.1)))) <|
 cond ((List.getD v.2.1 (Int.toNat v.1) dE).2.2.2.1.2.2.2.1.2.1 != y_13.1.1)
 (some ((((-1 : Int), ()), ())))
 (g0 (w64 (v.1 + (1 : Int)), v.2.1, w64 (y_13.1.1 + (1 : Int))))))))))))))
 (some (((v.2.2, ()), ())))
def zkN (fuel : Nat) (g0 : zau → Option ((Int × Unit) × Unit)) : zau → Option ((Int × Unit) × Unit) := zqi fuel g0
theorem zqj (fuel : Nat) (G) : zcB.lp (zcz fuel) 0 fuel G (endF zcC zcA) 0 zkM = iter (zkN fuel) fuel := C.lp_iter fun g v => by kernel_rfl
def zkO (fuel : Nat) (X0 : zau → Option ((Int × Unit) × Unit)) (x0 : List EntY) (x1 : Int) : Option ((Int × Unit) × Unit) :=
 X0 ((0 : Int), x0, x1)
def zee (fuel : Nat) (x : (((List EntY) × Unit) × ((Int × Unit) × Unit))) : Option ((Int × Unit) × Unit) := zkO fuel (iter (zkN fuel) fuel) x.1.1 x.2.1.1
theorem zqk (fuel : Nat) (x : PsT zed) : run (zcz fuel) 0 fuel zcB (env0 (svPs zed x) 0) [] (endF zcC zcA) = zee fuel x :=
  (show run (zcz fuel) 0 fuel zcB (env0 (svPs zed x) 0) [] (endF zcC zcA) = zkO fuel (zcB.lp (zcz fuel) 0 fuel (fun _ _ _ => none) (endF zcC zcA) 0 zkM) x.1.1 x.2.1.1 by kernel_rfl).trans (by rw [zqj]; rfl)
def zef (fuel : Nat) : TF := ⟨zed, zcA, true, zee fuel⟩
theorem zql (fuel : Nat) : FnSpec Try.prog 57 (zef fuel) :=
  fn_spec (T := zcz fuel) (c := bodyOf Try.f57) (fn := Try.f57) (TabOK.of (entCons (zjj fuel) (entCons (zkC fuel) (entCons (zqa fuel) (entCons (zqg fuel) entNil)))) (methNil)) mixed (by kernel_rfl) (by kernel_rfl) zqh (by kernel_rfl) (Nat.le_of_ble_eq_true (by kernel_rfl)) (rv := zcC) (by kernel_rfl) (zqk fuel)
theorem zkP (fuel : Nat) : EntryOK Try.prog 57 (zef fuel).te := EntryOK.tf rfl (zql fuel) (isFn (fn := Try.f57) (by kernel_rfl) (by kernel_rfl) (by kernel_rfl))
def zcD (fuel : Nat) : Tab := Tab.of [(57, (zef fuel).te)] []
abbrev zeg : List Pm := [{ cs := [(Kd.list KN, false)], ag := false }, { cs := [(I6, false)], ag := false }]
abbrev zcE : List Pm := [{ cs := [(I6, false)], ag := false }]
def zkQ : List Norm := [{ live := [5, 0, 1], fix := [] }]
noncomputable def zcF : C := irOf Try.prog Try.f33 [] zkQ []
theorem zqm : lightC Try.prog [] Try.f33.ntmps zkQ [] 0 (bodyOf Try.f33) = some (zcF, 1) := by kernel_rfl
def zcG : List (Nat × Option (Nat × Bool)) := [(4, none)]
abbrev zav := (Int) × (List NodY) × (Int)
def zkR (v : zav) : Env × Heap := ([(5, SV.int .i64 v.1), (0, SV.es KN v.2.1), (1, SV.int .i64 v.2.2)], [])
def zqn (fuel : Nat) (g0 : zav → Option ((Int × Unit) × Unit)) (v : zav) : Option ((Int × Unit) × Unit) :=
 cond (decide (v.1 < (zz (List.length v.2.1))))
 (tst (decide (0 ≤ v.1)) <|
 tst (decide (v.1 < (zz (List.length v.2.1)))) <|
 cond ((List.getD v.2.1 (Int.toNat v.1) dN).1 != v.2.2)
 (some ((((-1 : Int), ()), ())))
 (tst (decide (0 ≤ v.1)) <|
 tst (decide (v.1 < (zz (List.length v.2.1)))) <|
 Option.bind (zee fuel (((List.getD v.2.1 (Int.toNat v.1) dN).2.1, ()), (w64 (v.2.2 + (1 : Int)), ()), ())) fun y_3 =>
 cond (decide (y_3.1.1 < (0 : Int)))
 (some ((((-1 : Int), ()), ())))
 (tst (decide (0 ≤ v.1)) <|
 tst (decide (v.1 < (zz (List.length v.2.1)))) <|
 cond ((List.getD v.2.1 (Int.toNat v.1) dN).2.2.1 != y_3.1.1)
 (some ((((-1 : Int), ()), ())))
 (tst (decide (0 ≤ v.1)) <|
 tst (decide (v.1 < (zz (List.length v.2.1)))) <|
 cond ((List.getD v.2.1 (Int.toNat v.1) dN).2.2.2.1 != w64 (y_3.1.1 + (1 : Int)))
 (some ((((-1 : Int), ()), ())))
 (tst (decide (0 ≤ v.1)) <|
 tst (decide (v.1 < (zz (List.length v.2.1)))) <|
 cond ((List.getD v.2.1 (Int.toNat v.1) dN).2.2.2.2.1 != w64 (w64 (y_3.1.1 + (1 : Int)) + (1 : Int)))
 (some ((((-1 : Int), ()), ())))
 (g0 (w64 (v.1 + (1 : Int)), v.2.1, w64 (w64 (w64 (y_3.1.1 + (1 : Int)) + (1 : Int)) + (1 : Int)))))))))
 (some (((v.2.2, ()), ())))
def zkS (fuel : Nat) (g0 : zav → Option ((Int × Unit) × Unit)) : zav → Option ((Int × Unit) × Unit) := zqn fuel g0
theorem zqo (fuel : Nat) (G) : zcF.lp (zcD fuel) 0 fuel G (endF zcG zcE) 0 zkR = iter (zkS fuel) fuel := C.lp_iter fun g v => by kernel_rfl
def zkT (fuel : Nat) (X0 : zav → Option ((Int × Unit) × Unit)) (x0 : List NodY) (x1 : Int) : Option ((Int × Unit) × Unit) :=
 X0 ((0 : Int), x0, x1)
def zgu (fuel : Nat) (x : (((List NodY) × Unit) × ((Int × Unit) × Unit))) : Option ((Int × Unit) × Unit) := zkT fuel (iter (zkS fuel) fuel) x.1.1 x.2.1.1
theorem zqp (fuel : Nat) (x : PsT zeg) : run (zcD fuel) 0 fuel zcF (env0 (svPs zeg x) 0) [] (endF zcG zcE) = zgu fuel x :=
  (show run (zcD fuel) 0 fuel zcF (env0 (svPs zeg x) 0) [] (endF zcG zcE) = zkT fuel (zcF.lp (zcD fuel) 0 fuel (fun _ _ _ => none) (endF zcG zcE) 0 zkR) x.1.1 x.2.1.1 by kernel_rfl).trans (by rw [zqo]; rfl)
def zgv (fuel : Nat) : TF := ⟨zeg, zcE, true, zgu fuel⟩
theorem zqq (fuel : Nat) : FnSpec Try.prog 33 (zgv fuel) :=
  fn_spec (T := zcD fuel) (c := bodyOf Try.f33) (fn := Try.f33) (TabOK.of (entCons (zkP fuel) entNil) (methNil)) mixed (by kernel_rfl) (by kernel_rfl) zqm (by kernel_rfl) (Nat.le_of_ble_eq_true (by kernel_rfl)) (rv := zcG) (by kernel_rfl) (zqp fuel)
theorem zqr (fuel : Nat) : EntryOK Try.prog 33 (zgv fuel).te := EntryOK.tf rfl (zqq fuel) (isFn (fn := Try.f33) (by kernel_rfl) (by kernel_rfl) (by kernel_rfl))
def zcH (fuel : Nat) : Tab := Tab.of [] []
abbrev zeh : List Pm := [{ cs := [(Kd.list Kd.bool, false)], ag := false }, { cs := [(I6, false)], ag := false }]
abbrev zcI : List Pm := [{ cs := [(I6, false)], ag := false }]
def zkU : List Norm := [{ live := [5, 0, 1], fix := [] }]
noncomputable def zcJ : C := irOf Try.prog Try.f34 [] zkU []
theorem zqs : lightC Try.prog [] Try.f34.ntmps zkU [] 0 (bodyOf Try.f34) = some (zcJ, 1) := by kernel_rfl
def zcK : List (Nat × Option (Nat × Bool)) := [(4, none)]
abbrev zaw := (Int) × (List Bool) × (Int)
def zkV (v : zaw) : Env × Heap := ([(5, SV.int .i64 v.1), (0, SV.es Kd.bool v.2.1), (1, SV.int .i64 v.2.2)], [])
def zqt (fuel : Nat) (g0 : zaw → Option ((Int × Unit) × Unit)) (v : zaw) : Option ((Int × Unit) × Unit) :=
 cond (decide (v.1 < (zz (List.length v.2.1))))
 (tst (decide (0 ≤ v.1)) <|
 tst (decide (v.1 < (zz (List.length v.2.1)))) <|
 cond (!List.getD v.2.1 (Int.toNat v.1) false == (Int.tmod v.2.2 (3 : Int) == (0 : Int)))
 (some ((((-1 : Int), ()), ())))
 (g0 (w64 (v.1 + (1 : Int)), v.2.1, w64 (v.2.2 + (1 : Int)))))
 (some (((v.2.2, ()), ())))
def zkW (fuel : Nat) (g0 : zaw → Option ((Int × Unit) × Unit)) : zaw → Option ((Int × Unit) × Unit) := zqt fuel g0
theorem zqu (fuel : Nat) (G) : zcJ.lp (zcH fuel) 0 fuel G (endF zcK zcI) 0 zkV = iter (zkW fuel) fuel := C.lp_iter fun g v => by kernel_rfl
def zkX (fuel : Nat) (X0 : zaw → Option ((Int × Unit) × Unit)) (x0 : List Bool) (x1 : Int) : Option ((Int × Unit) × Unit) :=
 X0 ((0 : Int), x0, x1)
def zgw (fuel : Nat) (x : (((List Bool) × Unit) × ((Int × Unit) × Unit))) : Option ((Int × Unit) × Unit) := zkX fuel (iter (zkW fuel) fuel) x.1.1 x.2.1.1
theorem zqv (fuel : Nat) (x : PsT zeh) : run (zcH fuel) 0 fuel zcJ (env0 (svPs zeh x) 0) [] (endF zcK zcI) = zgw fuel x :=
  (show run (zcH fuel) 0 fuel zcJ (env0 (svPs zeh x) 0) [] (endF zcK zcI) = zkX fuel (zcJ.lp (zcH fuel) 0 fuel (fun _ _ _ => none) (endF zcK zcI) 0 zkV) x.1.1 x.2.1.1 by kernel_rfl).trans (by rw [zqu]; rfl)
def zgx (fuel : Nat) : TF := ⟨zeh, zcI, true, zgw fuel⟩
theorem zqw (fuel : Nat) : FnSpec Try.prog 34 (zgx fuel) :=
  fn_spec (T := zcH fuel) (c := bodyOf Try.f34) (fn := Try.f34) (TabOK.of (entNil) (methNil)) mixed (by kernel_rfl) (by kernel_rfl) zqs (by kernel_rfl) (Nat.le_of_ble_eq_true (by kernel_rfl)) (rv := zcK) (by kernel_rfl) (zqv fuel)
theorem zqx (fuel : Nat) : EntryOK Try.prog 34 (zgx fuel).te := EntryOK.tf rfl (zqw fuel) (isFn (fn := Try.f34) (by kernel_rfl) (by kernel_rfl) (by kernel_rfl))
def zcL (fuel : Nat) : Tab := Tab.of [(57, (zef fuel).te)] []
abbrev zei : List Pm := [{ cs := [(Kd.list KW, false)], ag := false }, { cs := [(I6, false)], ag := false }]
abbrev zcM : List Pm := [{ cs := [(I6, false)], ag := false }]
def zkY : List Norm := [{ live := [5, 0, 1], fix := [] }]
noncomputable def zcN : C := irOf Try.prog Try.f35 [] zkY []
theorem zqy : lightC Try.prog [] Try.f35.ntmps zkY [] 0 (bodyOf Try.f35) = some (zcN, 1) := by kernel_rfl
def zcO : List (Nat × Option (Nat × Bool)) := [(4, none)]
abbrev zax := (Int) × (List WorY) × (Int)
def zkZ (v : zax) : Env × Heap := ([(5, SV.int .i64 v.1), (0, SV.es KW v.2.1), (1, SV.int .i64 v.2.2)], [])
def zqz (fuel : Nat) (g0 : zax → Option ((Int × Unit) × Unit)) (v : zax) : Option ((Int × Unit) × Unit) :=
 cond (decide (v.1 < (zz (List.length v.2.1))))
 (tst (decide (0 ≤ v.1)) <|
 tst (decide (v.1 < (zz (List.length v.2.1)))) <|
 cond ((List.getD v.2.1 (Int.toNat v.1) dW).1 != v.2.2)
 (some ((((-1 : Int), ()), ())))
 (tst (decide (0 ≤ v.1)) <|
 tst (decide (v.1 < (zz (List.length v.2.1)))) <|
 cond ((List.getD v.2.1 (Int.toNat v.1) dW).2.1 != w64 (v.2.2 + (1 : Int)))
 (some ((((-1 : Int), ()), ())))
 (tst (decide (0 ≤ v.1)) <|
 tst (decide (v.1 < (zz (List.length v.2.1)))) <|
 cond ((List.getD v.2.1 (Int.toNat v.1) dW).2.2.1 != w64 (w64 (v.2.2 + (1 : Int)) + (1 : Int)))
 (some ((((-1 : Int), ()), ())))
 (tst (decide (0 ≤ v.1)) <|
 tst (decide (v.1 < (zz (List.length v.2.1)))) <|
 cond ((List.getD v.2.1 (Int.toNat v.1) dW).2.2.2.1 != w64 (w64 (w64 (v.2.2 + (1 : Int)) + (1 : Int)) + (1 : Int)))
 (some ((((-1 : Int), ()), ())))
 (tst (decide (0 ≤ v.1)) <|
 tst (decide (v.1 < (zz (List.length v.2.1)))) <|
 cond ((List.getD v.2.1 (Int.toNat v.1) dW).2.2.2.2.1 != w64 (w64 (w64 (w64 (v.2.2 + (1 : Int)) + (1 : Int)) + (1 : Int)) + (1 : Int)))
 (some ((((-1 : Int), ()), ())))
 (tst (decide (0 ≤ v.1)) <|
 tst (decide (v.1 < (zz (List.length v.2.1)))) <|
 Option.bind (zee fuel (((List.getD v.2.1 (Int.toNat v.1) dW).2.2.2.2.2.1, ()), (w64 (w64 (w64 (w64 (w64 (v.2.2 + (1 : Int)) + (1 : Int)) + (1 : Int)) + (1 : Int)) + (1 : Int)), ()), ())) fun y_7 =>
 cond (decide (y_7.1.1 < (0 : Int)))
 (some ((((-1 : Int), ()), ())))
 (g0 (w64 (v.1 + (1 : Int)), v.2.1, y_7.1.1))))))))
 (some (((v.2.2, ()), ())))
def zk0 (fuel : Nat) (g0 : zax → Option ((Int × Unit) × Unit)) : zax → Option ((Int × Unit) × Unit) := zqz fuel g0
theorem zqA (fuel : Nat) (G) : zcN.lp (zcL fuel) 0 fuel G (endF zcO zcM) 0 zkZ = iter (zk0 fuel) fuel := C.lp_iter fun g v => by kernel_rfl
def zk1 (fuel : Nat) (X0 : zax → Option ((Int × Unit) × Unit)) (x0 : List WorY) (x1 : Int) : Option ((Int × Unit) × Unit) :=
 X0 ((0 : Int), x0, x1)
def zgy (fuel : Nat) (x : (((List WorY) × Unit) × ((Int × Unit) × Unit))) : Option ((Int × Unit) × Unit) := zk1 fuel (iter (zk0 fuel) fuel) x.1.1 x.2.1.1
theorem zqB (fuel : Nat) (x : PsT zei) : run (zcL fuel) 0 fuel zcN (env0 (svPs zei x) 0) [] (endF zcO zcM) = zgy fuel x :=
  (show run (zcL fuel) 0 fuel zcN (env0 (svPs zei x) 0) [] (endF zcO zcM) = zk1 fuel (zcN.lp (zcL fuel) 0 fuel (fun _ _ _ => none) (endF zcO zcM) 0 zkZ) x.1.1 x.2.1.1 by kernel_rfl).trans (by rw [zqA]; rfl)
def zgz (fuel : Nat) : TF := ⟨zei, zcM, true, zgy fuel⟩
theorem zqC (fuel : Nat) : FnSpec Try.prog 35 (zgz fuel) :=
  fn_spec (T := zcL fuel) (c := bodyOf Try.f35) (fn := Try.f35) (TabOK.of (entCons (zkP fuel) entNil) (methNil)) mixed (by kernel_rfl) (by kernel_rfl) zqy (by kernel_rfl) (Nat.le_of_ble_eq_true (by kernel_rfl)) (rv := zcO) (by kernel_rfl) (zqB fuel)
theorem zqD (fuel : Nat) : EntryOK Try.prog 35 (zgz fuel).te := EntryOK.tf rfl (zqC fuel) (isFn (fn := Try.f35) (by kernel_rfl) (by kernel_rfl) (by kernel_rfl))
def zcP (fuel : Nat) : Tab := Tab.of [(58, (zea fuel).te)] []
abbrev zej : List Pm := [{ cs := [(Kd.list (Kd.list (Kd.list I6)), false)], ag := false }, { cs := [(I6, false)], ag := false }]
abbrev zcQ : List Pm := [{ cs := [(I6, false)], ag := false }]
def zk2 : List Norm := [{ live := [5, 0, 1], fix := [] }]
noncomputable def zcR : C := irOf Try.prog Try.f36 [] zk2 []
theorem zqE : lightC Try.prog [] Try.f36.ntmps zk2 [] 0 (bodyOf Try.f36) = some (zcR, 1) := by kernel_rfl
def zcS : List (Nat × Option (Nat × Bool)) := [(4, none)]
abbrev zay := (Int) × (List (List (List Int))) × (Int)
def zk3 (v : zay) : Env × Heap := ([(5, SV.int .i64 v.1), (0, SV.es (Kd.list (Kd.list I6)) v.2.1), (1, SV.int .i64 v.2.2)], [])
def zqF (fuel : Nat) (g0 : zay → Option ((Int × Unit) × Unit)) (v : zay) : Option ((Int × Unit) × Unit) :=
 cond (decide (v.1 < (zz (List.length v.2.1))))
 (tst (decide (0 ≤ v.1)) <|
 tst (decide (v.1 < (zz (List.length v.2.1)))) <|
 Option.bind (zd9 fuel ((List.getD v.2.1 (Int.toNat v.1) [], ()), (v.2.2, ()), ())) fun y_2 =>
 cond (decide (y_2.1.1 < (0 : Int)))
 (some ((((-1 : Int), ()), ())))
 (g0 (w64 (v.1 + (1 : Int)), v.2.1, y_2.1.1)))
 (some (((v.2.2, ()), ())))
def zk4 (fuel : Nat) (g0 : zay → Option ((Int × Unit) × Unit)) : zay → Option ((Int × Unit) × Unit) := zqF fuel g0
theorem zqG (fuel : Nat) (G) : zcR.lp (zcP fuel) 0 fuel G (endF zcS zcQ) 0 zk3 = iter (zk4 fuel) fuel := C.lp_iter fun g v => by kernel_rfl
def zk5 (fuel : Nat) (X0 : zay → Option ((Int × Unit) × Unit)) (x0 : List (List (List Int))) (x1 : Int) : Option ((Int × Unit) × Unit) :=
 X0 ((0 : Int), x0, x1)
def zgA (fuel : Nat) (x : (((List (List (List Int))) × Unit) × ((Int × Unit) × Unit))) : Option ((Int × Unit) × Unit) := zk5 fuel (iter (zk4 fuel) fuel) x.1.1 x.2.1.1
theorem zqH (fuel : Nat) (x : PsT zej) : run (zcP fuel) 0 fuel zcR (env0 (svPs zej x) 0) [] (endF zcS zcQ) = zgA fuel x :=
  (show run (zcP fuel) 0 fuel zcR (env0 (svPs zej x) 0) [] (endF zcS zcQ) = zk5 fuel (zcR.lp (zcP fuel) 0 fuel (fun _ _ _ => none) (endF zcS zcQ) 0 zk3) x.1.1 x.2.1.1 by kernel_rfl).trans (by rw [zqG]; rfl)
def zgB (fuel : Nat) : TF := ⟨zej, zcQ, true, zgA fuel⟩
theorem zqI (fuel : Nat) : FnSpec Try.prog 36 (zgB fuel) :=
  fn_spec (T := zcP fuel) (c := bodyOf Try.f36) (fn := Try.f36) (TabOK.of (entCons (zkC fuel) entNil) (methNil)) mixed (by kernel_rfl) (by kernel_rfl) zqE (by kernel_rfl) (Nat.le_of_ble_eq_true (by kernel_rfl)) (rv := zcS) (by kernel_rfl) (zqH fuel)
theorem zqJ (fuel : Nat) : EntryOK Try.prog 36 (zgB fuel).te := EntryOK.tf rfl (zqI fuel) (isFn (fn := Try.f36) (by kernel_rfl) (by kernel_rfl) (by kernel_rfl))
def zk6 (fuel : Nat) : Tab := Tab.of [(33, (zgv fuel).te), (34, (zgx fuel).te), (35, (zgz fuel).te), (36, (zgB fuel).te)] []
abbrev zgC : List Pm := [{ cs := [(Kd.list KN, false), (Kd.list Kd.bool, false), (Kd.list KW, false), (Kd.list (Kd.list (Kd.list I6)), false)], ag := true }, { cs := [(I6, false)], ag := false }]
abbrev zk7 : List Pm := [{ cs := [(I6, false)], ag := false }]
def zk8 : List Norm := []
noncomputable def zk9 : C := irOf Try.prog Try.f12 [] zk8 []
theorem zqK : lightC Try.prog [] Try.f12.ntmps zk8 [] 0 (bodyOf Try.f12) = some (zk9, 0) := by kernel_rfl
def zla : List (Nat × Option (Nat × Bool)) := [(4, none)]
def zqL (fuel : Nat) (x0 : List NodY) (x1 : List Bool) (x2 : List WorY) (x3 : List (List (List Int))) (x4 : Int) : Option ((Int × Unit) × Unit) :=
 Option.bind (zgu fuel ((x0, ()), (x4, ()), ())) fun y_1 =>
 cond (decide (y_1.1.1 < (0 : Int)))
 (some ((((-1 : Int), ()), ())))
 (Option.bind (zgw fuel ((x1, ()), (y_1.1.1, ()), ())) fun y_3 =>
 cond (decide (y_3.1.1 < (0 : Int)))
 (some ((((-1 : Int), ()), ())))
 (Option.bind (zgy fuel ((x2, ()), (y_3.1.1, ()), ())) fun y_5 =>
 cond (decide (y_5.1.1 < (0 : Int)))
 (some ((((-1 : Int), ()), ())))
 (Option.bind (zgA fuel ((x3, ()), (y_5.1.1, ()), ())) fun y_7 =>
 cond (decide (y_7.1.1 < (0 : Int)))
 (some ((((-1 : Int), ()), ())))
 (some (((y_7.1.1, ()), ()))))))
def zW (fuel : Nat) (x : (NetY × ((Int × Unit) × Unit))) : Option ((Int × Unit) × Unit) := zqL fuel x.1.1 x.1.2.1 x.1.2.2.1 x.1.2.2.2.1 x.2.1.1
theorem zqM (fuel : Nat) (x : PsT zgC) : run (zk6 fuel) 0 fuel zk9 (env0 (svPs zgC x) 0) [] (endF zla zk7) = zW fuel x := by kernel_rfl
def zgD (fuel : Nat) : TF := ⟨zgC, zk7, true, zW fuel⟩
theorem zqN (fuel : Nat) : FnSpec Try.prog 12 (zgD fuel) :=
  fn_spec (T := zk6 fuel) (c := bodyOf Try.f12) (fn := Try.f12) (TabOK.of (entCons (zqr fuel) (entCons (zqx fuel) (entCons (zqD fuel) (entCons (zqJ fuel) entNil)))) (methNil)) mixed (by kernel_rfl) (by kernel_rfl) zqK (by kernel_rfl) (Nat.le_of_ble_eq_true (by kernel_rfl)) (rv := zla) (by kernel_rfl) (zqM fuel)
theorem zqO (fuel : Nat) : EntryOK Try.prog 12 (zgD fuel).te := EntryOK.tf rfl (zqN fuel) (isFn (fn := Try.f12) (by kernel_rfl) (by kernel_rfl) (by kernel_rfl))
end Go.Proofs.Ytmkekjmckdkcnaa.Den
namespace Go.Proofs.Ytmkekjmckdkcnaa.Den
open Go Go.RowKit
structure TRB where
  ps : Sh
  K : Kd
  ag : Bool
  fn : ps.T → Option (K.T × Bool)
def TRB.te (tr : TRB) : TE where
  X := tr.ps.T
  Y := tr.K.T × Bool
  mono := true
  view args H := viewS H tr.ps args
  fn := tr.fn
  put _ y _ H := some (.tup [valOf tr.ag (expl tr.K y.1 H.length).1, .bool y.2], H ++ (expl tr.K y.1 H.length).2)
def FnSpecB (P : Program) (f : FuncId) (tr : TRB) : Prop :=
  ∀ (w : World) (res : Nat → Prop) (vs : List Value) (x : tr.ps.T) (y : tr.K.T × Bool), (∀ b, res b → b < w.heap.size) → ShRel w (fun b => b < w.heap.size ∧ ¬ res b) tr.ps x vs → tr.fn x = some y →
    Calls P f vs.toArray w fun e w' => ∃ us tk, e = .returned (.tuple #[valU tr.ag us, .bool y.2]) ∧ w'.os = w.os ∧ w'.tape = w.tape ∧ w'.output = w.output ∧ w.heap.size ≤ w'.heap.size ∧ (∀ b, b < w.heap.size → w'.heap[b]? = w.heap[b]?) ∧
      tk.Nodup ∧ (∀ b ∈ tk, w.heap.size ≤ b ∧ b < w'.heap.size) ∧ TreeC w' tr.K y.1 us tk ∧ (tr.ag = false → tr.K.sz = 1)
def endB (rv : List (Nat × Option (Nat × Bool))) (K : Kd) (ag : Bool) (ex : Ex) (τ : Env) (H : Heap) : Option (K.T × Bool) :=
  match ex with
  | .exit _ => none
  | _ => match evalRes τ H rv with
    | some [v, .bool b] => match cellsOf ag v with
      | some cs => match readT true H K cs with
        | some (y, ids) => cond (nodupB ids) (some (y, b)) none
        | none => none
      | none => none
    | _ => none
section
variable {P : Program} {w w' : World} {ρ ρ' : Map} {H H' : Heap}
theorem zsz {P : Program} {f : FuncId} {tr : TRB} (h : FnSpecB P f tr) : TESound P f tr.te := by
  intro ρ H w args vs (x : tr.ps.T) (y : tr.K.T × Bool) v H' hH hv hun hview hfn hput
  have hput' : v = .tup [valOf tr.ag (expl tr.K y.1 H.length).1, .bool y.2] ∧ H' = H ++ (expl tr.K y.1 H.length).2 := by
    simp only [TRB.te, Option.some.injEq, Prod.mk.injEq] at hput
    exact ⟨hput.1.symm, hput.2.symm⟩
  obtain ⟨rfl, rfl⟩ := hput'
  let res : Nat → Prop := fun b => ρ.res0 b ∧ ρ.vl b = none
  have hres : ∀ b, res b → b < w.heap.size := fun b hb => hH.resl b (.inl hb.1)
  have hps : ShRel w (fun b => b < w.heap.size ∧ ¬ res b) tr.ps x vs := by
    refine ShRel.of_view (ρ := ρ) (fun {K s x u} h1 h2 => ?_) hview hv
    exact zm hH (B := fun b => b < w.heap.size ∧ ¬ res b) (fun b hb => ⟨hb.1, fun h3 => hb.2.1 (.inl h3.1)⟩) (fun _ b t hv2 => ⟨hH.vlt hv2, fun h3 => by have h4 := h3.2; rw [hv2] at h4; cases h4⟩)
      (fun γ b o n sz _ hg => ⟨hH.lt _ _ _ _ _ hg, fun h3 => hH.resf _ _ _ _ _ hg (.inl h3.1)⟩) h1 (VRels.single h2)
  refine Calls.mono (h w res vs x y hres hps hfn) fun e w' he => ?_
  obtain ⟨us, tk, rfl, hos, htape, hout, hsize, hkept, hnd, htk, htree, hag⟩ := he
  obtain ⟨ps, hF, rfl⟩ := htree.toF
  obtain ⟨ms, hml, himg, hent⟩ := hF.ent hnd H.length
  have hnew0 : ∀ b ∈ imgB ms, w.heap.size ≤ b ∧ b < w'.heap.size := fun b hb => by
    rw [himg] at hb
    obtain ⟨p, hp, rfl⟩ := List.mem_map.1 hb
    exact htk _ (zd.2 ⟨p, hp, .inl rfl⟩)
  have hnewv : ∀ p ∈ ps, ∀ b ∈ p.2, w.heap.size ≤ b ∧ b < w'.heap.size := fun p hp b hb => htk _ (zd.2 ⟨p, hp, .inr hb⟩)
  have hindd : (imgB ms).Nodup := by
    rw [himg]
    have hs : List.Sublist (ps.map Prod.fst) (flatF ps) := by
      clear hF hent himg hnew0 hnewv hnd htk htree
      induction ps with
      | nil => exact List.Sublist.slnil
      | cons p ps ih =>
        show List.Sublist (p.1 :: ps.map Prod.fst) ((p.1 :: p.2) ++ flatF ps)
        rw [List.cons_append]
        exact (ih.trans (List.sublist_append_right _ _)).cons_cons _
    exact hs.nodup hnd
  have hapart : ∀ p ∈ ps, ∀ b ∈ p.2, b ∉ imgB ms := by
    intro p hp b hb hbi
    rw [himg] at hbi
    obtain ⟨q, hq, rfl⟩ := List.mem_map.1 hbi
    clear hF hent himg hnew0 hnewv htk htree hindd hbi
    induction ps with
    | nil => cases hp
    | cons r ps ih =>
      have hnd' : (flatF ([r] ++ ps)).Nodup := hnd
      rw [zr] at hnd'
      obtain ⟨n1, n2, n3⟩ := List.nodup_append.1 hnd'
      rcases List.mem_cons.1 hp with rfl | hp2 <;> rcases List.mem_cons.1 hq with rfl | hq2
      · simp [flatF] at n1; exact n1.1 hb
      · exact n3 _ (zd.2 ⟨p, by simp, .inr hb⟩) _ (zd.2 ⟨q, hq2, .inl rfl⟩) rfl
      · exact n3 _ (zd.2 ⟨q, by simp, .inl rfl⟩) _ (zd.2 ⟨p, hp2, .inr hb⟩) rfl
      · exact ih n2 hp2 hq2
  let ρ' : Map := ⟨fun γ => if γ < H.length then ρ γ else match ms[γ - H.length]? with | some m => m | none => ρ γ, ρ.res0, fun b' => match vlS ps b' with | some t => some t | none => ρ.vl b'⟩
  have hlt : ∀ {γ}, γ < H.length → ρ' γ = ρ γ := fun {γ} h => by show (if γ < H.length then ρ γ else _) = _; rw [if_pos h]
  have hge : ∀ {γ m}, H.length ≤ γ → ms[γ - H.length]? = some m → ρ' γ = m := fun {γ m} h h2 => by show (if γ < H.length then ρ γ else match ms[γ - H.length]? with | some m => m | none => ρ γ) = _; rw [if_neg (by omega), h2]
  have hgt : ∀ {γ}, H.length ≤ γ → ms[γ - H.length]? = none → ρ' γ = ρ γ := fun {γ} h h2 => by show (if γ < H.length then ρ γ else match ms[γ - H.length]? with | some m => m | none => ρ γ) = _; rw [if_neg (by omega), h2]
  have hvo : ∀ {b'}, b' < w.heap.size → ρ'.vl b' = ρ.vl b' := fun {b'} hb' => by
    show (match vlS ps b' with | some t => some t | none => ρ.vl b') = _
    rw [zhl fun p hp hb => by have := (hnewv p hp b' hb).1; omega]
  have hvn : ∀ p ∈ ps, ∀ b ∈ p.2, ρ'.vl b = some p.1 := fun p hp b hb => by
    show (match vlS ps b with | some t => some t | none => ρ.vl b) = _
    rw [zc6 hnd hp hb]
  have hvc : ∀ {b'}, ρ'.vl b' ≠ none → (∃ p ∈ ps, b' ∈ p.2) ∨ ρ.vl b' ≠ none := fun {b'} hb' => by
    cases hq : vlS ps b' with
    | some t => obtain ⟨p, hp, h1, _⟩ := vlS_mem hq; exact .inl ⟨p, hp, h1⟩
    | none =>
      refine .inr fun h => hb' ?_
      show (match vlS ps b' with | some t => some t | none => ρ.vl b') = none
      rw [hq]; exact h
  have hsb : ∀ {β b o n sz}, ρ β = .at b o n sz → b < w.heap.size := fun h => hH.lt _ _ _ _ _ h
  have hag1 : Agree ρ' H.length ms := fun i m hm => hge (by omega) (by rw [Nat.add_sub_cancel_left]; exact hm)
  have hubn : ∀ γ, H.length ≤ γ → γ < H.length + ms.length → ρ γ = .unborn := fun γ h1 h2 => hun γ h1 (by rw [List.length_append, ← hml]; exact h2)
  have cs3 : ∀ {γ b o n sz}, ρ' γ = .at b o n sz → (γ < H.length ∧ ρ γ = .at b o n sz) ∨ (H.length ≤ γ ∧ ms[γ - H.length]? = some (.at b o n sz)) ∨ (H.length + ms.length ≤ γ ∧ ρ γ = .at b o n sz) := by
    intro γ b o n sz h
    rcases Nat.lt_or_ge γ H.length with h1 | h1
    · rw [hlt h1] at h; exact .inl ⟨h1, h⟩
    · cases hm : ms[γ - H.length]? with
      | some m => rw [hge h1 hm] at h; subst h; exact .inr (.inl ⟨h1, rfl⟩)
      | none =>
        rw [hgt h1 hm] at h
        have := List.getElem?_eq_none_iff.1 hm
        exact .inr (.inr ⟨by omega, h⟩)
  have old : ∀ {γ b o n sz}, ρ' γ = .at b o n sz → ρ γ = .at b o n sz ∨ (H.length ≤ γ ∧ ms[γ - H.length]? = some (.at b o n sz)) := fun h => by
    rcases cs3 h with ⟨_, h⟩ | h | ⟨_, h⟩
    · exact .inl h
    · exact .inr h
    · exact .inl h
  obtain ⟨hvr, hch⟩ := hent ρ' hag1 hvn
  have hstep : Step ρ w ρ' w' := {
    os := hos, tape := htape, output := hout, size := hsize
    kept := fun b hb _ _ => hkept b hb
    shape := fun b C t fr hb => ⟨C, by rw [hkept b (Array.getElem?_eq_some_iff.1 hb).1]; exact hb, rfl⟩
    img := fun γ b1 o1 n1 sz1 hg => by
      rcases old hg with h | ⟨_, h⟩
      · exact .inl ⟨γ, o1, n1, sz1, h⟩
      · exact .inr (hnew0 _ (zg h)).1
    ref := fun γ hg => .inl (by
      rcases Nat.lt_or_ge γ H.length with h1 | h1
      · exact hlt h1
      · rcases Nat.lt_or_ge γ (H.length + ms.length) with h2 | h2
        · exact absurd (hubn γ h1 h2) hg
        · exact hgt h1 (List.getElem?_eq_none (by omega)))
    res := rfl
    vl := fun b' hb' => hvo hb'
    vln := fun b t hb => by
      have hb : (match vlS ps b with | some t => some t | none => ρ.vl b) = some t := hb
      split at hb
      · rename_i t' hq
        obtain ⟨p, hp, h1, h2⟩ := vlS_mem hq
        simp only [Option.some.injEq] at hb
        subst hb; subst h2
        exact .inr ⟨(hnewv p hp b h1).1, (htk _ (zd.2 ⟨p, hp, .inl rfl⟩)).1⟩
      · exact .inl hb }
  have hl' : (H ++ (expl tr.K y.1 H.length).2).length = H.length + ms.length := by rw [List.length_append, hml]
  refine ⟨_, ρ', rfl, hstep, ?_, by
    simp only [VRel, VRels]
    exact ⟨_, rfl, _, _, rfl, zhm hvr fun hag' => by rw [hF.length]; exact hag hag', _, _, rfl, rfl, rfl⟩, by simp, ?_, ?_⟩
  · constructor
    · intro γ hl hd
      rcases Nat.lt_or_ge γ H.length with h1 | h1
      · rw [hlt h1] at hd
        rw [List.getElem?_append_left h1]; exact hH.dead γ h1 hd
      · have hm := List.getElem?_eq_getElem (l := ms) (i := γ - H.length) (by omega)
        rw [hge h1 hm] at hd
        rcases hch _ _ _ (List.getElem?_eq_getElem (by rw [← hml]; omega)) hm with ⟨h2, _⟩ | ⟨_, _, _, _, h2, _⟩ <;> rw [h2] at hd <;> cases hd
    · intro γ hl hd
      rcases Nat.lt_or_ge γ H.length with h1 | h1
      · rw [hlt h1] at hd
        rw [List.getElem?_append_left h1]; exact hH.none_ γ h1 hd
      · have hm := List.getElem?_eq_getElem (l := ms) (i := γ - H.length) (by omega)
        rw [hge h1 hm] at hd
        have hx := List.getElem?_eq_getElem (l := (expl tr.K y.1 H.length).2) (i := γ - H.length) (by rw [← hml]; omega)
        rw [List.getElem?_append_right h1, hx]
        rcases hch _ _ _ hx hm with ⟨_, ⟨e, h2⟩ | ⟨e, h2⟩⟩ | ⟨_, _, _, _, h2, _⟩
        · exact .inl ⟨e, 0, by rw [h2]⟩
        · exact .inr (.inr ⟨e, by rw [h2]⟩)
        · rw [h2] at hd; cases hd
    · intro γ hl b1 o1 n1 sz1 hd
      rcases Nat.lt_or_ge γ H.length with h1 | h1
      · rw [hlt h1] at hd
        obtain ⟨z, h3, h4⟩ := hH.at_ γ h1 _ _ _ _ hd
        exact ⟨z, by rw [List.getElem?_append_left h1]; exact h3, h4.keep hstep (hkept b1 (hsb hd)) fun b' hb' => ⟨hH.vlt hb', hkept b' (hH.vlt hb')⟩⟩
      · have hm := List.getElem?_eq_getElem (l := ms) (i := γ - H.length) (by omega)
        rw [hge h1 hm] at hd
        have hx := List.getElem?_eq_getElem (l := (expl tr.K y.1 H.length).2) (i := γ - H.length) (by rw [← hml]; omega)
        refine ⟨_, by rw [List.getElem?_append_right h1]; exact hx, ?_⟩
        rcases hch _ _ _ hx hm with ⟨h2, _⟩ | ⟨b, o, n, sz, h2, h3⟩
        · rw [h2] at hd; cases hd
        · rw [h2] at hd
          injection hd with e1 e2 e3 e4
          subst e1; subst e2; subst e3; subst e4
          exact h3
    · intro γ δ b1 o1 n1 sz1 o2 n2 sz2 h1 h2
      rcases old h1 with h1 | ⟨g1, h1⟩ <;> rcases old h2 with h2 | ⟨g2, h2⟩
      · exact hH.inj _ _ _ _ _ _ _ _ _ h1 h2
      · have := hsb h1; have := (hnew0 _ (zg h2)).1; omega
      · have := hsb h2; have := (hnew0 _ (zg h1)).1; omega
      · have := zeL hindd h1 h2; omega
    · intro γ b1 o1 n1 sz1 h1
      rcases old h1 with h1 | ⟨_, h1⟩
      · have := hsb h1; omega
      · exact (hnew0 _ (zg h1)).2
    · rintro b' (h1 | h1)
      · have := hH.resl b' (.inl h1); omega
      · rcases hvc h1 with ⟨p, hp, h2⟩ | h2
        · exact (hnewv p hp b' h2).2
        · have := hH.resl b' (.inr h2); omega
    · rintro γ b1 o1 n1 sz1 h1 h2
      rcases old h1 with h1 | ⟨_, h1⟩
      · have hlt' := hsb h1
        rcases h2 with h2 | h2
        · exact hH.resf _ _ _ _ _ h1 (.inl h2)
        · rw [hvo hlt'] at h2; exact hH.resf _ _ _ _ _ h1 (.inr h2)
      · have hn := hnew0 _ (zg h1)
        rcases h2 with h2 | h2
        · have := hH.resl b1 (.inl h2); omega
        · rcases hvc h2 with ⟨p, hp, h3⟩ | h3
          · exact hapart p hp b1 h3 (zg h1)
          · have := hH.resl b1 (.inr h3); omega
  · intro γ hg hl
    rw [hl'] at hl
    rw [hgt (by omega) (List.getElem?_eq_none (by omega))]; exact hg
  · intro _
    refine ⟨⟨_, rfl⟩, fun γ hl => ?_, hkept⟩
    rw [hl'] at hl
    rcases hl with hl | hl
    · exact hlt hl
    · exact hgt (by omega) (List.getElem?_eq_none (by omega))
theorem zsA {T : Tab} {f : FuncId} {fn : Func} {c : Code} {tr : TRB} {frz : List Nat} {ann : List Norm} {cuts : List (Nat × Norm)} {ci : C} {j : Nat} {rv : List (Nat × Option (Nat × Bool))} (hT : TabOK P T) (hmix : P.follows .mixedOrders = true)
    (hf : P.funcs[f]? = some fn) (hb : fn.body = some c) (hl : lightC P frz fn.ntmps ann cuts 0 c = some (ci, j)) (ho : okC T c ci = true) (hn : tr.ps.len ≤ fn.ntmps) (hrv : lightRes P fn.results.toList = some rv)
    (hrun : ∀ x y, tr.fn x = some y → ∃ fuel, run T 0 fuel ci (env0 (svS tr.ps x) 0) [] (endB rv tr.K tr.ag) = some y) : FnSpecB P f tr := by
  intro w res vs x y hres hps hy
  refine calls_of_wp hf hb ?_
  let ρ0 : Map := ⟨fun _ => .unborn, res, fun _ => none⟩
  have hv : VRels ρ0 w (svS tr.ps x) vs := svS_rel (fun b hb => ⟨hb.1, fun h => hb.2 (res_new.1 h), fun _ _ _ _ h => by cases h⟩) hps
  have hvl := hv.length
  rw [svS_len] at hvl
  have hat : At P fn.ntmps ρ0 [] w (env0 (svS tr.ps x) 0) { tmps := vs.toArray ++ Array.replicate (fn.ntmps - vs.toArray.size) undef, defers := [] } := by
    refine ⟨⟨by simp; omega, rfl, fun n => ?_⟩, ?_, fun _ _ => rfl⟩
    · rw [zI]
      simp only [Nat.zero_le, if_true, Nat.sub_zero]
      split
      · rename_i s hs
        obtain ⟨u, h1, h2⟩ := hv.get n s hs
        have : (vs.toArray ++ Array.replicate (fn.ntmps - vs.toArray.size) undef).getD n undef = u := by
          rw [Array.getD_eq_getD_getElem?, Array.getElem?_append_left (by have := (List.getElem?_eq_some_iff.1 h1).1; simpa using this)]
          simp [h1]
        rw [this]; exact h2
      · simp [VRel]
    · exact ⟨fun β h => by simp at h, fun β h => by simp at h, fun β h => by simp at h, fun _ _ _ _ _ _ _ _ _ h => by (cases h), fun _ _ _ _ _ h => by (cases h), fun b hb => hres b (res_new.1 hb), fun _ _ _ _ _ h => by (cases h)⟩
  obtain ⟨fuel, hrun'⟩ := hrun x y hy
  refine zy hT hmix c hl ho hat hrun' fun ex τ' H' ρ' a' w' h1 h2 h3 => ?_
  have hend : ∃ v cs ids, evalRes τ' H' rv = some [v, .bool y.2] ∧ cellsOf tr.ag v = some cs ∧ readT true H' tr.K cs = some (y.1, ids) ∧ ids.Nodup ∧ (ex = .normal ∨ ex = .ret) := by
    unfold endB at h3
    split at h3
    · simp at h3
    · rename_i hex
      have hex' : ex = .normal ∨ ex = .ret := by
        cases ex with
        | normal => exact .inl rfl
        | ret => exact .inr rfl
        | exit id => exact absurd rfl (hex id)
      split at h3
      · rename_i v bb h4
        split at h3
        · rename_i cs h5
          split at h3
          · rename_i y2 ids h6
            obtain ⟨h7, h8⟩ := (zc h3).resolve_right (by simp)
            simp only [Option.some.injEq] at h8
            subst h8
            exact ⟨v, cs, ids, h4, h5, h6, zc9 h7, hex'⟩
          · simp at h3
        · simp at h3
      · simp at h3
  obtain ⟨v, cs, ids, h4, h5, h6, hnd, hex⟩ := hend
  obtain ⟨vs2, h8, h9⟩ := zE h1.t h1.h hrv h4
  obtain ⟨u, h10, h11⟩ : ∃ u, vs2.toList = [u, .bool y.2] ∧ VRel ρ' w' v u := by
    simp only [VRels, VRel] at h9
    obtain ⟨u, us1, h10, h11, u2, us2, rfl, rfl, rfl⟩ := h9
    exact ⟨u, h10, h11⟩
  have hus : vs2 = #[u, .bool y.2] := Array.toList_inj.1 (by simpa using h10)
  subst hus
  obtain ⟨us, rfl, h12, h13⟩ := zml h5 h11
  obtain ⟨ps, g1, g2, g3, _⟩ := zK h1.h h6 h12 hnd
  have hpost : a'.defers = [] ∧ ∃ v', (results fn a'.tmps).run P w' = .ok v' w' ∧ (fun e w' => ∃ us tk, e = Ending.returned (.tuple #[valU tr.ag us, .bool y.2]) ∧ w'.os = w.os ∧ w'.tape = w.tape ∧ w'.output = w.output ∧ w.heap.size ≤ w'.heap.size ∧ (∀ b, b < w.heap.size → w'.heap[b]? = w.heap[b]?) ∧
      tk.Nodup ∧ (∀ b ∈ tk, w.heap.size ≤ b ∧ b < w'.heap.size) ∧ TreeC w' tr.K y.1 us tk ∧ (tr.ag = false → tr.K.sz = 1)) (Ending.returned v') w' := by
    refine ⟨h1.t.2.1, resU #[valU tr.ag us, .bool y.2], h8, us, flatF ps, by simp [resU], h2.os, h2.tape, h2.output, h2.size, fun b hb => h2.kept b hb (fun _ _ _ _ h => by (cases h)) rfl, g2, fun b hb => ?_, g1.toC, fun hag => by rw [← g1.length]; exact h13 hag⟩
    obtain ⟨γ, _, b0, o, n, sz, k1, rfl | k2⟩ := g3 b hb
    · refine ⟨?_, h1.h.lt _ _ _ _ _ k1⟩
      rcases h2.img _ _ _ _ _ k1 with ⟨_, _, _, _, h⟩ | h
      · cases h
      · exact h
    · refine ⟨?_, h1.h.vlt k2⟩
      rcases h2.vln b b0 k2 with h | h
      · cases h
      · exact h.1
  rcases hex with rfl | rfl
  · exact hpost
  · exact hpost
end
theorem EntryOK.trb {P : Program} {f : Nat} {tr : TRB} (h : FnSpecB P f tr) (hf : ∃ fn, P.funcs[f]? = some fn ∧ fn.name ≠ "runtime.NumGoroutine" ∧ fn.body.isSome = true) : EntryOK P f tr.te where
  snd := zsz h
  fn := hf
  ext _ x y args H v H' hp := ⟨_, (congrArg Prod.snd (Option.some.inj hp)).symm⟩
  tch x y args H v H' _ hp := ext_tch (te := tr.te) (x := x) (y := y) (v := v) ⟨_, (congrArg Prod.snd (Option.some.inj hp)).symm⟩
end Go.Proofs.Ytmkekjmckdkcnaa.Den
namespace Go.Proofs.Ytmkekjmckdkcnaa.Den
open Go Go.RowKit
def C.calm (T : Tab) : C → Bool
  | .skip => true
  | .reg d gs => !d && gs.all fun gi => gi.i.mono T
  | .seq a b => a.calm T && b.calm T
  | .ret => true
  | _ => false
def strB : Code → Bool
  | .skip => true
  | .ret => true
  | .region _ _ _ => true
  | .seq a b => strB a && strB b
  | _ => false
def Same (w w' : World) : Prop := ∀ b, b < w.heap.size → w'.heap[b]? = w.heap[b]?
theorem Same.trans {w w1 w2 : World} (h : Same w w1) (hs : w.heap.size ≤ w1.heap.size) (k : Same w1 w2) : Same w w2 := fun b hb => (k b (Nat.lt_of_lt_of_le hb hs)).trans (h b hb)
section
variable {P : Program} {T : Tab} {N n0 fuel : Nat} {frz : List Nat} {ann : List Norm} {cuts : List (Nat × Norm)}
theorem zmD {ops : Array Oper} (hT : TabOK P T) {Q : Exit → Act → World → Prop} : ∀ {l : List Oper} {gs : List GI} {τ : Env} {H : Heap} {ρ : Map} {a : Act} {w : World} {R : Type} {k : Env → Heap → Option R} {r : R},
    gs.length = l.length → (∀ (j : Nat) (o : Oper) (gi : GI), l[j]? = some o → gs[j]? = some gi → LOp P N ops o gi) → (gs.all fun gi => gi.i.mono T) = true → At P N ρ H w τ a → runR T gs τ H k = some r →
    (∀ τ' H' ρ' a' w', At P N ρ' H' w' τ' a' → Step ρ w ρ' w' → Same w w' → k τ' H' = some r → Q .normal a' w') → wpList P ops Q l a w
  | [], [], τ, H, ρ, a, w, R, k, r, _, _, _, hat, he, hQ => by
    simp only [runR] at he
    exact hQ τ H ρ a w hat (Step.refl _ _) (fun _ _ => rfl) he
  | [], _ :: _, _, _, _, _, _, _, _, _, h, _, _, _, _, _ => by simp at h
  | _ :: _, [], _, _, _, _, _, _, _, _, h, _, _, _, _, _ => by simp at h
  | o :: l, gi :: gs, τ, H, ρ, a, w, R, k, r, hlen, hls, hm, hat, he, hQ => by
    rw [zeB, Option.bind_eq_some_iff] at he
    obtain ⟨⟨τ1, H1⟩, h1, h2⟩ := he
    simp only [List.all_cons, Bool.and_eq_true] at hm
    have hl := hls 0 o gi rfl rfl
    unfold wpList
    have := zaI (m := true) (Q := Q) (K := wpList P ops Q l) hT hl (fun _ => hm.1) hat.t.1 hat.t.2.1 (fun s _ => hat.t.2.2 s) hat.h (fun β hβ _ => hat.u β hβ) (fun h => by cases h) h1
      (fun v u w' ρ' hg hn => zmD hT (by simpa using hlen) (fun j o gi h3 h4 => hls (j + 1) o gi h3 h4) hm.2 (hat.step hl hg hn) h2
        (fun τ' H' ρ'' a' w'' hat' hst hsm hk => hQ τ' H' ρ'' a' w'' hat' (hg.step.trans hst) (Same.trans (hg.mono rfl).2.2 hg.step.size hsm) hk))
    split
    · rename_i hw; rw [if_pos hw] at this; exact .inl this
    · rename_i hw; rw [if_neg hw] at this; exact this
theorem zsB (hT : TabOK P T) : ∀ (c : Code) {i : Nat} {ci : C} {j : Nat}, lightC P frz N ann cuts i c = some (ci, j) → okC T c ci = true → ci.calm T = true → strB c = true →
    ∀ {R : Type} {τ : Env} {H : Heap} {ρ : Map} {a : Act} {w : World} {k : Ex → Env → Heap → Option R} {r : R}, At P N ρ H w τ a → run T n0 fuel ci τ H k = some r →
    ∀ {Q : Exit → Act → World → Prop}, (∀ ex τ' H' ρ' a' w', At P N ρ' H' w' τ' a' → Step ρ w ρ' w' → Same w w' → k ex τ' H' = some r → Q ex.toExit a' w') → c.wp P Q a w := by
  intro c
  induction c with
  | skip =>
    intro i ci j hl ho hc hsb R τ H ρ a w k r hat he Q hQ
    simp only [lightC, Option.some.injEq, Prod.mk.injEq] at hl
    obtain ⟨rfl, _⟩ := hl
    simp only [run] at he
    exact wp_skip (hQ .normal τ H ρ a w hat (Step.refl _ _) (fun _ _ => rfl) he)
  | ret =>
    intro i ci j hl ho hc hsb R τ H ρ a w k r hat he Q hQ
    simp only [lightC, Option.some.injEq, Prod.mk.injEq] at hl
    obtain ⟨rfl, _⟩ := hl
    simp only [run] at he
    exact wp_ret (hQ .ret τ H ρ a w hat (Step.refl _ _) (fun _ _ => rfl) he)
  | region id ops d =>
    intro i ci j hl ho hc hsb R τ H ρ a w k r hat he Q hQ
    simp only [lightC] at hl
    split at hl
    · rename_i gs h1 _
      split at hl
      · split at hl
        · simp only [Option.some.injEq, Prod.mk.injEq] at hl
          obtain ⟨rfl, _⟩ := hl
          simp only [C.calm, Bool.and_eq_true, Bool.not_eq_true'] at hc
          obtain ⟨rfl, hm⟩ := hc
          simp only [run] at he
          obtain ⟨g1, g2⟩ := zeF h1
          exact wp_region_list (zmD hT g1 g2 hm hat he fun τ' H' ρ' a' w' h3 h4 h5 h6 => hQ .normal τ' H' ρ' a' w' h3 h4 h5 h6)
        · simp only [Option.some.injEq, Prod.mk.injEq] at hl
          obtain ⟨rfl, _⟩ := hl
          simp [C.calm] at hc
      · simp only [Option.some.injEq, Prod.mk.injEq] at hl
        obtain ⟨rfl, _⟩ := hl
        simp [C.calm] at hc
    · simp only [Option.some.injEq, Prod.mk.injEq] at hl
      obtain ⟨rfl, _⟩ := hl
      simp [run] at he
  | seq x y ihx ihy =>
    intro i ci j hl ho hc hsb R τ H ρ a w k r hat he Q hQ
    simp only [lightC] at hl
    split at hl
    · rename_i cx jx hx
      split at hl
      · rename_i cy jy hy
        simp only [Option.some.injEq, Prod.mk.injEq] at hl
        obtain ⟨rfl, _⟩ := hl
        simp only [okC, Bool.and_eq_true] at ho
        simp only [C.calm, Bool.and_eq_true] at hc
        simp only [strB, Bool.and_eq_true] at hsb
        simp only [run] at he
        refine wp_seq (ihx hx ho.1 hc.1 hsb.1 hat he fun ex τ' H' ρ' a' w' h1 h2 hs h3 => ?_)
        cases ex with
        | normal => exact ihy hy ho.2 hc.2 hsb.2 h1 h3 fun ex τ2 H2 ρ2 a2 w2 h4 h5 h6 h7 => hQ ex τ2 H2 ρ2 a2 w2 h4 (h2.trans h5) (hs.trans h2.size h6) h7
        | exit id => exact hQ (.exit id) τ' H' ρ' a' w' h1 h2 hs h3
        | ret => exact hQ .ret τ' H' ρ' a' w' h1 h2 hs h3
      · simp at hl
    · simp at hl
  | _ =>
    intro i ci j hl ho hc hsb R τ H ρ a w k r hat he Q hQ
    simp [strB] at hsb
def lookTE : TE where
  X := List (Int × Int × Int) × Int × Int
  Y := Bool
  mono := true
  view args H := match args with
    | [.ptr β 0, .int .i64 a, .int .i64 b] => match H[β]? with
      | some (.cells cs _ z) => match (cs[5]? : Option SV) with
        | some (.mapp γ) => match H[γ]? with
          | some (.mapi es) => if z = 8 ∧ cs.length = 8 then some (es, a, b) else none
          | _ => none
        | _ => none
      | _ => none
    | _ => none
  fn x := some (mhas x.1 x.2.1 x.2.2)
  put _ y _ H := some (.bool y, H)
def lookH (es : List (Int × Int × Int)) : Heap := [.cells [.junk, .junk, .junk, .junk, .junk, .mapp 1, .junk, .junk] 0 8, .mapi es]
def endLk (rv : List (Nat × Option (Nat × Bool))) (ex : Ex) (τ : Env) (H : Heap) : Option Bool :=
  match ex with
  | .exit _ => none
  | _ => match evalRes τ H rv with
    | some [.bool b] => some b
    | _ => none
theorem zsC {f : FuncId} {fn : Func} {c : Code} {ci : C} {j : Nat} {rv : List (Nat × Option (Nat × Bool))} (hT : TabOK P T) (hf : P.funcs[f]? = some fn) (hb : fn.body = some c) (hl : lightC P frz fn.ntmps ann cuts 0 c = some (ci, j)) (ho : okC T c ci = true) (hcm : ci.calm T = true) (hsb : strB c = true) (hn : 3 ≤ fn.ntmps) (hrv : lightRes P fn.results.toList = some rv)
    (hrun : ∀ es a b, run T 2 fuel ci [(0, .ptr 0 0), (1, .int .i64 a), (2, .int .i64 b)] (lookH es) (endLk rv) = some (mhas es a b)) : TESound P f lookTE := by
  intro ρ H w args vs x y v H' hH hv hun hview hfn hput
  change List (Int × Int × Int) × Int × Int at x
  change Bool at y
  obtain ⟨β, a, b, cs, t, γ, es, rfl, h1, h2, h3, hcs, rfl⟩ : ∃ β a b cs t γ es, args = [.ptr β 0, .int .i64 a, .int .i64 b] ∧ H[β]? = some (.cells cs t 8) ∧ cs[5]? = some (.mapp γ) ∧ H[γ]? = some (.mapi es) ∧ cs.length = 8 ∧ x = (es, a, b) := by
    unfold lookTE at hview
    dsimp only at hview
    split at hview
    · rename_i β a b
      split at hview
      · rename_i cs t z h1
        split at hview
        · rename_i γ h2
          split at hview
          · rename_i es h3
            split at hview
            · rename_i h4
              obtain ⟨rfl, h5⟩ := h4
              simp only [Option.some.injEq] at hview
              exact ⟨β, a, b, cs, t, γ, es, rfl, h1, h2, h3, h5, hview.symm⟩
            · cases hview
          · cases hview
        · cases hview
      · cases hview
    · cases hview
  have hy : y = mhas es a b := by
    have : some (mhas es a b) = some y := hfn
    exact (Option.some.inj this).symm
  have hput' : v = .bool y ∧ H = H' := by
    have : some (SV.bool y, H) = some (v, H') := hput
    simp only [Option.some.injEq, Prod.mk.injEq] at this
    exact ⟨this.1.symm, this.2⟩
  obtain ⟨rfl, rfl⟩ := hput'
  simp only [VRels] at hv
  obtain ⟨v0, _, rfl, hv0, v1, _, rfl, hv1, v2, _, rfl, hv2, rfl⟩ := hv
  simp only [VRel] at hv1 hv2
  subst hv1; subst hv2
  obtain ⟨q, o, n, sz, hr, hv0⟩ := ptr_rel hH h1 (by simp) hv0
  rw [Nat.add_zero] at hv0
  subst hv0
  obtain ⟨C, tC, hC, hz, hl8, hsz8, hvr, hat⟩ := zn hH h1 hr
  obtain ⟨u5, g1, g2⟩ := hvr.get 5 _ h2
  obtain ⟨r, or_, nr, sr, A, cl, hrr, hn0, hs0, rfl, hA, hrel⟩ := mapp_of hH h3 g2
  have hC5 : C[o + 5]? = some (.map (some r)) := by
    rw [List.getElem?_take] at g1
    split at g1
    · rw [List.getElem?_drop, Array.getElem?_toList] at g1; exact g1
    · cases g1
  have hqr : q ≠ r := by rintro rfl; rw [hC] at hA; cases hA
  have hql : q < w.heap.size := hH.lt _ _ _ _ _ hr
  have hrl : r < w.heap.size := hH.lt _ _ _ _ _ hrr
  refine calls_of_wp hf hb ?_
  let ρ0 : Map := ⟨fun β => if β = 0 then .at q o 1 8 else if β = 1 then .at r 0 0 0 else .unborn, fun b => b < w.heap.size ∧ b ≠ q ∧ b ≠ r, fun _ => none⟩
  have e0 : ρ0 0 = .at q o 1 8 := rfl
  have e1 : ρ0 1 = .at r 0 0 0 := rfl
  have hi0 : ∀ {β b' o' n' sz'}, ρ0 β = .at b' o' n' sz' → (β = 0 ∧ b' = q) ∨ (β = 1 ∧ b' = r) := by
    intro β b' o' n' sz' h
    simp only [ρ0] at h
    split at h
    · rename_i e; injection h with h1; exact .inl ⟨e, h1.symm⟩
    · split at h
      · rename_i e; injection h with h1; exact .inr ⟨e, h1.symm⟩
      · cases h
  have hvs : VRels ρ0 w [.ptr 0 0, .int .i64 a, .int .i64 b] [.pointer (some ⟨q, o, none⟩), .int .i64 a, .int .i64 b] := by
    simp only [VRels]
    exact ⟨_, _, rfl, by simp [VRel, e0], _, _, rfl, by simp [VRel], _, _, rfl, by simp [VRel], rfl⟩
  have hat0 : At P fn.ntmps ρ0 (lookH es) w [(0, .ptr 0 0), (1, .int .i64 a), (2, .int .i64 b)] { tmps := #[.pointer (some ⟨q, o, none⟩), .int .i64 a, .int .i64 b] ++ Array.replicate (fn.ntmps - 3) undef, defers := [] } := by
    refine ⟨⟨by simp; omega, rfl, fun n => ?_⟩, ?_, fun β hβ => ?_⟩
    · have e : ([(0, SV.ptr 0 0), (1, .int .i64 a), (2, .int .i64 b)] : Env) = env0 [.ptr 0 0, .int .i64 a, .int .i64 b] 0 := rfl
      rw [e, zI]
      simp only [Nat.zero_le, if_true, Nat.sub_zero]
      split
      · rename_i s hs
        obtain ⟨u, h1, h2⟩ := hvs.get n s hs
        have : (#[Value.pointer (some ⟨q, o, none⟩), .int .i64 a, .int .i64 b] ++ Array.replicate (fn.ntmps - 3) undef).getD n undef = u := by
          rw [Array.getD_eq_getD_getElem?, Array.getElem?_append_left (by have := (List.getElem?_eq_some_iff.1 h1).1; simpa using this), List.getElem?_toArray, h1]
          rfl
        rw [this]; exact h2
      · simp [VRel]
    · refine ⟨fun β hl h => ?_, fun β hl h => ?_, fun β hl b' o' n' sz' h => ?_, fun β γ b' o1 n1 s1 o2 n2 s2 h1 h2 => ?_, fun β b' o' n' sz' h => ?_, fun b hb => (res_new.1 hb).1, fun β b' o' n' sz' h hr => ?_⟩
      · simp only [ρ0] at h; split at h
        · cases h
        · split at h <;> cases h
      · simp only [ρ0] at h; split at h
        · cases h
        · split at h <;> cases h
      · rcases hi0 h with ⟨rfl, rfl⟩ | ⟨rfl, rfl⟩
        · rw [e0] at h
          injection h with h1 h2 h3 h4
          subst h2; subst h3; subst h4
          refine ⟨_, rfl, ?_⟩
          simp only [BRel]
          refine ⟨trivial, rfl, C, tC, hC, by omega, fun j s hs => ?_⟩
          have hj : j < 8 := by have := (List.getElem?_eq_some_iff.1 hs).1; simpa using this
          have hcj : ∃ u, C[o + j]? = some u := ⟨_, Array.getElem?_eq_getElem (by omega)⟩
          obtain ⟨u, hu⟩ := hcj
          refine ⟨u, hu, ?_⟩
          rcases show j = 5 ∨ (j ≠ 5 ∧ s = .junk) by
            rcases show j = 0 ∨ j = 1 ∨ j = 2 ∨ j = 3 ∨ j = 4 ∨ j = 5 ∨ j = 6 ∨ j = 7 by omega with rfl | rfl | rfl | rfl | rfl | rfl | rfl | rfl <;> simp at hs <;> simp [hs] with rfl | ⟨_, rfl⟩
          · simp at hs; subst hs
            rw [hC5] at hu; cases hu
            simp only [VRel, e1]
          · simp [VRel]
        · rw [e1] at h
          injection h with h1 h2 h3 h4
          subst h2; subst h3; subst h4
          refine ⟨_, rfl, ?_⟩
          simp only [BRel]
          exact ⟨trivial, trivial, A, cl, hA, hrel⟩
      · rcases hi0 h1 with ⟨rfl, g1⟩ | ⟨rfl, g1⟩ <;> rcases hi0 h2 with ⟨rfl, g2⟩ | ⟨rfl, g2⟩
        · rfl
        · exact absurd (g1.symm.trans g2) hqr
        · exact absurd (g2.symm.trans g1) hqr
        · rfl
      · rcases hi0 h with ⟨_, h⟩ | ⟨_, h⟩ <;> rw [h] <;> assumption
      · have := res_new.1 hr
        rcases hi0 h with ⟨_, h⟩ | ⟨_, h⟩
        · exact this.2.1 h
        · exact this.2.2 h
    · simp [lookH] at hβ
      simp only [ρ0]; rw [if_neg (by omega), if_neg (by omega)]
  have hrun' := hrun es a b
  refine zsB hT c hl ho hcm hsb hat0 hrun' fun ex τ' H' ρ' a' w' k1 k2 ksm k3 => ?_
  have hend : evalRes τ' H' rv = some [.bool y] ∧ (ex = .normal ∨ ex = .ret) := by
    unfold endLk at k3
    split at k3
    · cases k3
    · rename_i hex
      split at k3
      · rename_i bb h4
        simp only [Option.some.injEq] at k3
        subst k3
        rw [hy]
        refine ⟨h4, ?_⟩
        cases ex with
        | normal => exact .inl rfl
        | ret => exact .inr rfl
        | exit id => exact absurd rfl (hex id)
      · cases k3
  obtain ⟨h4, hex⟩ := hend
  obtain ⟨us, h8, h9⟩ := zE k1.t k1.h hrv h4
  have h9' : us = #[.bool y] := by
    simp only [VRels, VRel] at h9
    obtain ⟨u, us', h9, rfl, rfl⟩ := h9
    exact Array.toList_inj.1 (by simpa using h9)
  subst h9'
  have hstep : Step ρ w ρ w' := {
    os := k2.os, tape := k2.tape, output := k2.output, size := k2.size
    kept := fun b hb _ _ => ksm b hb
    shape := fun b C t fr hb => ⟨C, by rw [ksm b (Array.getElem?_eq_some_iff.1 hb).1]; exact hb, rfl⟩
    img := fun β b o n sz hb => .inl ⟨β, o, n, sz, hb⟩
    ref := fun _ _ => .inl rfl
    res := rfl
    vl := fun _ _ => rfl }
  have hgood : Good true ρ H w (.bool y) H (.bool y) w' ρ := {
    step := hstep
    hrel := {
      dead := hH.dead, none_ := hH.none_
      at_ := fun β hl b o n sz hb => by
        obtain ⟨x, h1, h2⟩ := hH.at_ β hl _ _ _ _ hb
        exact ⟨x, h1, h2.keep hstep (ksm b (hH.lt _ _ _ _ _ hb)) fun b' hb' => ⟨hH.vlt hb', ksm b' (hH.vlt hb')⟩⟩
      inj := hH.inj
      lt := fun β b o n sz hb => by have := hH.lt _ _ _ _ _ hb; have := k2.size; omega
      resl := fun b hb => by have := hH.resl b hb; have := k2.size; omega
      resf := hH.resf }
    vrel := by simp [VRel]
    len := Nat.le_refl _
    unb := fun _ h _ => h
    mono := fun _ => ⟨⟨[], by simp⟩, fun _ _ => rfl, ksm⟩ }
  have hpost : a'.defers = [] ∧ ∃ v, (results fn a'.tmps).run P w' = .ok v w' ∧ (fun e w' => ∃ u ρ', e = Ending.returned u ∧ Good true ρ H w (.bool y) H u w' ρ') (Ending.returned v) w' :=
    ⟨k1.t.2.1, resU #[.bool y], h8, .bool y, ρ, by simp [resU], hgood⟩
  rcases hex with rfl | rfl
  · exact hpost
  · exact hpost
theorem EntryOK.look {f : Nat} (h : TESound P f lookTE) (hf : ∃ fn, P.funcs[f]? = some fn ∧ fn.name ≠ "runtime.NumGoroutine" ∧ fn.body.isSome = true) : EntryOK P f lookTE where
  snd := h
  fn := hf
  ext _ x y args H v H' hp := ⟨[], by have : some (SV.bool y, H) = some (v, H') := hp; simp at this; simp [this.2]⟩
  tch x y args H v H' _ hp := by
    have : some (SV.bool y, H) = some (v, H') := hp
    simp at this
    obtain ⟨_, rfl⟩ := this
    exact ⟨Nat.le_refl _, fun _ _ _ => rfl⟩
end
end Go.Proofs.Ytmkekjmckdkcnaa.Den
namespace Go.Proofs.Ytmkekjmckdkcnaa.Den
open Go Go.RowKit
section
variable {P : Program} {w w' : World} {ρ ρ' : Map} {H H' : Heap}
theorem zsD {f : FuncId} {fn : Func} {c : Code} {tf : TF} {rv : List (Nat × Option (Nat × Bool))}
    (hf : P.funcs[f]? = some fn) (hb : fn.body = some c) (hn : tf.ps.length ≤ fn.ntmps) (hrv : lightRes P fn.results.toList = some rv)
    (hw : ∀ x y w ρ0 a, tf.fn x = some y → At P fn.ntmps ρ0 [] w (env0 (svPs tf.ps x) 0) a → ∀ {Q : Exit → Act → World → Prop}, (∀ ex τ' H' ρ' a' w', At P fn.ntmps ρ' H' w' τ' a' → StepN 0 ρ0 w ρ' w' → endF rv tf.rs ex τ' H' = some y → Q ex.toExit a' w') → c.wp P Q a w) : FnSpec P f tf := by
  intro w res vs x y hres hps hy
  refine calls_of_wp hf hb ?_
  let ρ0 : Map := ⟨fun _ => .unborn, res, fun _ => none⟩
  have hv : VRels ρ0 w (svPs tf.ps x) vs := zhb (fun b hb => ⟨hb.1, fun h => hb.2 (res_new.1 h), fun _ _ _ _ h => by cases h⟩) hps
  have hpl : ∀ {ps : List Pm} {x : PsT ps}, (svPs ps x).length = ps.length := by
    intro ps
    induction ps with
    | nil => intro x; rfl
    | cons p r ih => intro x; simp [svPs, ih]
  have hvl := hv.length
  rw [hpl] at hvl
  have hat : At P fn.ntmps ρ0 [] w (env0 (svPs tf.ps x) 0) { tmps := vs.toArray ++ Array.replicate (fn.ntmps - vs.toArray.size) undef, defers := [] } := by
    refine ⟨⟨by simp; omega, rfl, fun n => ?_⟩, ?_, fun _ _ => rfl⟩
    · rw [zI]
      simp only [Nat.zero_le, if_true, Nat.sub_zero]
      split
      · rename_i s hs
        obtain ⟨u, h1, h2⟩ := hv.get n s hs
        have : (vs.toArray ++ Array.replicate (fn.ntmps - vs.toArray.size) undef).getD n undef = u := by
          rw [Array.getD_eq_getD_getElem?, Array.getElem?_append_left (by have := (List.getElem?_eq_some_iff.1 h1).1; simpa using this)]
          simp [h1]
        rw [this]; exact h2
      · simp [VRel]
    · exact ⟨fun β h => by simp at h, fun β h => by simp at h, fun β h => by simp at h, fun _ _ _ _ _ _ _ _ _ h => by (cases h), fun _ _ _ _ _ h => by (cases h), fun b hb => hres b (res_new.1 hb), fun _ _ _ _ _ h => by (cases h)⟩
  refine hw x y w ρ0 _ hy hat fun ex τ' H' ρ' a' w' h1 h2 h3 => ?_
  have key : (evalRes τ' H' rv).bind (fun ss => outPs tf.rs ss H') = some y → a'.defers = [] ∧ ∃ v, (results fn a'.tmps).run P w' = .ok v w' ∧ (fun e w' => ∃ us tk, e = Ending.returned (resU us) ∧ w'.os = w.os ∧ w'.tape = w.tape ∧ w'.output = w.output ∧ w.heap.size ≤ w'.heap.size ∧ (∀ b, b < w.heap.size → w'.heap[b]? = w.heap[b]?) ∧
      tk.Nodup ∧ (∀ b ∈ tk, w.heap.size ≤ b ∧ b < w'.heap.size) ∧ PsOut w' (fun b => b < w'.heap.size ∧ ¬ res b ∧ b ∉ tk) tf.rs y us.toList tk) (Ending.returned v) w' := by
    intro h4
    rw [Option.bind_eq_some_iff] at h4
    obtain ⟨ss, h5, h6⟩ := h4
    unfold outPs at h6
    split at h6
    · rename_i ls H2 h7
      obtain ⟨us, h8, h9⟩ := zE h1.t h1.h hrv h5
      obtain ⟨ρ2, tk, g, h10⟩ := zhd h1.h h1.u h9 h7
      have hout := zhe (B := fun b => Free ρ2 w' b ∨ (∃ β o n sz, ρ2 β = .at b o n sz) ∨ ρ2.vl b ≠ none) (fun b hb => .inl hb) (fun {K s x u} h11 h12 =>
        zm g.h (fun b hb => .inl hb) (fun _ b t hv => .inr (.inr (by rw [hv]; simp))) (fun γ b o n sz _ hg => .inr (.inl ⟨γ, o, n, sz, hg⟩)) h11 (VRels.single h12)) h6 h10
      have hr0 : ∀ b, res b → ρ'.res b := fun b hb => .inl (by rw [h2.res]; exact hb)
      have hvn : ∀ b, ρ2.vl b ≠ none → ρ'.res b ∧ ¬ res b := fun b hb => by
        rw [g.vl] at hb
        exact ⟨.inr hb, fun hr => hb (h2.vl b (hres b hr))⟩
      refine ⟨h1.t.2.1, resU us, h8, us, tk, rfl, h2.os, h2.tape, h2.output, h2.size, fun b hb => h2.kept b hb (fun _ _ _ _ h => by (cases h)) rfl, g.nd, fun b hb => ?_, ?_⟩
      · obtain ⟨_, β, o, n, sz, hg⟩ := g.tks b hb
        refine ⟨?_, h1.h.lt _ _ _ _ _ hg⟩
        rcases h2.img β b o n sz hg with ⟨_, _, _, _, h⟩ | h
        · cases h
        · exact h
      · refine PsOut.mono (.inl fun b hb => ?_) hout
        have old : b < w'.heap.size → ¬ ρ2.res b → b < w'.heap.size ∧ ¬ res b ∧ b ∉ tk := fun h h' => ⟨h, fun h => h' (g.res b (hr0 b h)), fun h => h' (g.tks b h).1⟩
        rcases hb with hb | ⟨β, o, n, sz, hb⟩ | hb
        · exact old hb.1 hb.2.1
        · exact old (g.h.lt _ _ _ _ _ hb) (g.h.resf _ _ _ _ _ hb)
        · refine ⟨g.h.resl b (.inr hb), (hvn b hb).2, fun h => ?_⟩
          obtain ⟨_, β, o, n, sz, h12⟩ := g.tks b h
          exact h1.h.resf _ _ _ _ _ h12 (hvn b hb).1
    · simp at h6
  cases ex with
  | exit id => simp [endF] at h3
  | normal =>
    refine key ?_
    simp only [endF] at h3
    split at h3
    · rename_i ss h4; rw [h4]; exact h3
    · simp at h3
  | ret =>
    refine key ?_
    simp only [endF] at h3
    split at h3
    · rename_i ss h4; rw [h4]; exact h3
    · simp at h3
def cl0 : Code → Code
  | .seq a _ => a
  | c => c
def clA : Code → Code
  | .seq _ (.seq (.seq _ (.cond _ a _)) _) => a
  | c => c
def clB : Code → Code
  | .seq _ (.seq _ b) => b
  | c => c
def clO (k : Nat) : Code → Oper
  | .seq _ (.seq (.seq (.region _ ops _) _) _) => ops.getD k default
  | _ => default
def retK (rv : List (Nat × Option (Nat × Bool))) (rs : List Pm) (ex : Ex) (τ : Env) (H : Heap) : Option (PsT rs) :=
  match ex with
  | .ret => endF rv rs .ret τ H
  | _ => none
theorem zsE {N : Nat} {τ : Env} {a : Act} {o1 o2 : Oper} {t e : TypeId} {E : Kd} {i : Nat} (hl : lightOps P [] N #[o1, o2] [o1, o2] = some [⟨some 3, none, .mv (.t 0)⟩, ⟨some 4, none, .nilt false (.t 3)⟩])
    (hop2 : o2.op = .binOp .eql t (.tmp 3) (.const (.slice none 0 0)) t) (hu : P.underlying t = some (.slice e)) {T : Tab} (hT : TabOK P T) (hat : At P N ρ H w τ a) (h0 : Tm.get τ 0 = .es E []) {Q : Exit → Act → World → Prop}
    (hQ : ∀ b ρ' w' a', At P N ρ' H w' (putD (putD τ (some 3) (.es E [])) (some 4) (.bool b)) a' → Step ρ w ρ' w' → Q .normal a' w') : (Code.region i #[o1, o2] false).wp P Q a w := by
  obtain ⟨-, hls⟩ := zeF hl
  have l1 := hls 0 o1 _ rfl rfl
  have l2 := hls 1 o2 _ rfl rfl
  refine wp_region_list ?_
  show wpList P #[o1, o2] Q [o1, o2] a w
  unfold wpList
  have s1 : stepG T ⟨some 3, none, .mv (.t 0)⟩ τ H = some (putD τ (some 3) (.es E []), H) := by
    simp [stepG, runG, runI, S.ev, h0]
  have := zaI (m := true) (Q := Q) (K := wpList P #[o1, o2] Q [o2]) hT l1 (fun _ => rfl) hat.t.1 hat.t.2.1 (fun s _ => hat.t.2.2 s) hat.h (fun β hβ _ => hat.u β hβ) (fun h => by cases h) s1
    (fun v u w1 ρ1 hg hn => ?_)
  · split
    · rename_i hw; rw [if_pos hw] at this; exact .inl this
    · rename_i hw; rw [if_neg hw] at this; exact this
  · have hat1 := hat.step (τ' := putD τ (some 3) (.es E [])) l1 hg hn
    have v3 : VRel ρ1 w1 (.es E []) ((a.put o1.dst u).eval (.tmp 3)) := by
      have := hat1.t.2.2 3
      rw [z4, if_pos rfl] at this
      exact this
    obtain ⟨ad, c, e3⟩ : ∃ ad c, (a.put o1.dst u).eval (.tmp 3) = .slice ad 0 c := by
      simp only [VRel, CRel] at v3
      obtain ⟨ad, c, h, -⟩ := v3
      exact ⟨ad, c, by simpa using h⟩
    have hg2 : ∀ w : World, (eqGuard .eql t (.tmp 3) (.const (.slice none 0 0)) (.slice ad 0 c) (.slice none 0 0)).run P w = .ok () w := by
      intro w; unfold eqGuard; split <;> rfl
    have heq : (Op.equal t (.slice ad 0 c) (.slice none 0 0)).run P w1 = .ok ad.isNone w1 := by
      show (Op.equalIn (9999 + 1) t (.slice ad 0 c) (.slice none 0 0)).run P w1 = _
      unfold Op.equalIn
      cases ad <;> simp [run_underlying hu]
    have e4 : (a.put o1.dst u).eval (.const (.slice none 0 0)) = .slice none 0 0 := rfl
    have hok : OpOK P o2 (a.put o1.dst u) false ρ1 H w1 (.bool ad.isNone) H :=
      OpOK.same hat1.h (u := .bool ad.isNone) (by simp [execOp, hop2, e3, e4, hg2, binOp, heq]) (by simp [VRel])
    unfold wpList
    have hwd : Region.wanted o2 (yielded #[o1, o2] (a.put o1.dst u).tmps) = true := by
      unfold Region.wanted
      rcases l2.g with ⟨h, _⟩ | ⟨_, _, _, _, _, _, _, h⟩
      · rw [h]
      · cases h
    rw [if_pos hwd]
    refine .inl (hok _ _ fun u2 w2 ρ2 hg3 => ?_)
    unfold wpList
    refine hQ ad.isNone ρ2 w2 _ (hat1.step l2 hg3 fun n => ?_) (hg.step.trans hg3.step)
    rw [z4]
def sliceT (P : Program) (t : TypeId) : Bool := match P.underlying t with
  | some (.slice _) => true
  | _ => false
noncomputable def irC (P : Program) (N : Nat) (c : Code) : C := match lightC P [] N [] [] 0 c with
  | some (x, _) => x
  | none => .skip
def cloneF {α : Type} (F : List α → Option ((List α × Unit) × Unit)) : List α → Option ((List α × Unit) × Unit)
  | [] => some (([], ()), ())
  | z :: zs => F (z :: zs)
theorem zeQ {f : FuncId} {fn : Func} {c c0 cA cB : Code} {o1 o2 : Oper} {t : TypeId} {E : Kd} {own fl : Bool} {i : Nat} {F : List E.T → Option ((List E.T × Unit) × Unit)} {ci0 ciA ciB : C} {rv : List (Nat × Option (Nat × Bool))} (hmix : P.follows .mixedOrders = true)
    (h1 : FnSpec P f ⟨[⟨[(.list E, false)], false⟩], [⟨[(.list E, own)], false⟩], fl, fun x => F x.1.1⟩) (hf : P.funcs[f]? = some fn) (hb : fn.body = some c) (hn : 1 ≤ fn.ntmps) (hrv : lightRes P fn.results.toList = some rv)
    (hc : c = .seq c0 (.seq (.seq (.region i #[o1, o2] false) (.cond (.tmp 4) cA .skip)) cB)) (hl : lightOps P [] fn.ntmps #[o1, o2] [o1, o2] = some [⟨some 3, none, .mv (.t 0)⟩, ⟨some 4, none, .nilt false (.t 3)⟩])
    (hop2 : o2.op = .binOp .eql t (.tmp 3) (.const (.slice none 0 0)) t) (hu' : sliceT P t = true)
    (l0 : lightC P [] fn.ntmps [] [] 0 c0 = some (ci0, 0)) (lA : lightC P [] fn.ntmps [] [] 0 cA = some (ciA, 0)) (lB : lightC P [] fn.ntmps [] [] 0 cB = some (ciB, 0))
    (k0 : okC (Tab.of [] []) c0 ci0 = true) (kA : okC (Tab.of [] []) cA ciA = true) (kB : okC (Tab.of [] []) cB ciB = true)
    (r0 : run (Tab.of [] []) 0 0 ci0 [(0, .es E [])] [] (fun ex τ H => match ex with | .normal => some (τ, H) | _ => none) = some ([(2, .nils), (0, .es E [])], []))
    (rA : run (Tab.of [] []) 0 0 ciA (putD (putD [(2, .nils), (0, .es E [])] (some 3) (.es E [])) (some 4) (.bool true)) [] (retK rv [⟨[(.list E, own)], false⟩]) = some (([], ()), ()))
    (rB : run (Tab.of [] []) 0 0 ciB (putD (putD [(2, .nils), (0, .es E [])] (some 3) (.es E [])) (some 4) (.bool false)) [] (endF rv [⟨[(.list E, own)], false⟩]) = some (([], ()), ())) :
    FnSpec P f ⟨[⟨[(.list E, false)], false⟩], [⟨[(.list E, own)], false⟩], fl, fun x => cloneF F x.1.1⟩ := by
  obtain ⟨e, hu⟩ : ∃ e, P.underlying t = some (.slice e) := by
    unfold sliceT at hu'
    split at hu'
    · rename_i e h; exact ⟨e, h⟩
    · cases hu'
  have hT : TabOK P (Tab.of [] []) := TabOK.of entNil methNil
  intro w res vs x y hres hps hy
  obtain ⟨⟨xs, ⟨⟩⟩, ⟨⟩⟩ := x
  cases xs with
  | cons z zs => exact h1 w res vs ((z :: zs, ()), ()) y hres hps hy
  | nil =>
    have h2 : FnSpec P f ⟨[⟨[(.list E, false)], false⟩], [⟨[(.list E, own)], false⟩], fl, fun x => match x.1.1 with | [] => some (([], ()), ()) | z :: zs => none⟩ := by
      refine zsD hf hb hn hrv ?_
      intro x y w ρ0 a hy hat Q hQ
      obtain ⟨⟨xs, ⟨⟩⟩, ⟨⟩⟩ := x
      cases xs with
      | cons z zs => cases hy
      | nil =>
        have hy : some (([], ()), ()) = some y := hy
        simp only [Option.some.injEq] at hy
        subst hy
        have hat : At P fn.ntmps ρ0 [] w [(0, .es E [])] a := hat
        subst hc
        refine wp_seq (zy hT hmix c0 l0 k0 hat r0 fun ex τ1 H1 ρ1 a1 w1 h1 s1 e1 => ?_)
        cases ex with
        | exit id => cases e1
        | ret => cases e1
        | normal =>
          simp only [Option.some.injEq, Prod.mk.injEq] at e1
          obtain ⟨rfl, rfl⟩ := e1
          refine wp_seq (wp_seq (zsE hl hop2 hu hT h1 rfl fun b ρ2 w2 a2 h2 s2 => ?_))
          have hb4 : a2.eval (.tmp 4) = .bool b := by
            have := h2.t.2.2 4
            rw [z4, if_pos rfl] at this
            exact this
          refine wp_cond hb4 ?_
          cases b with
          | true =>
            rw [if_pos rfl]
            refine zy hT hmix cA lA kA h2 rA fun ex τ3 H3 ρ3 a3 w3 h3 s3 e3 => ?_
            cases ex with
            | ret => exact hQ .ret τ3 H3 ρ3 a3 w3 h3 (s1.trans (s2.toN.trans s3)) e3
            | exit id => cases e3
            | normal => cases e3
          | false =>
            rw [if_neg (by decide)]
            refine wp_skip ?_
            refine zy hT hmix cB lB kB h2 rB fun ex τ3 H3 ρ3 a3 w3 h3 s3 e3 => ?_
            exact hQ ex τ3 H3 ρ3 a3 w3 h3 (s1.trans (s2.toN.trans s3)) e3
    exact h2 w res vs (([], ()), ()) y hres hps hy
theorem HRel.explode {E : Kd} {xs : List E.T} {t : Nat} (hH : HRel ρ (H ++ [.arr E xs t]) w) : HRel ρ (H ++ [.cells (xs.flatMap (enc E)) t E.sz]) w := by
  have hl : (H ++ [Blk.arr E xs t]).length = (H ++ [Blk.cells (xs.flatMap (enc E)) t E.sz]).length := by simp
  have cs : ∀ {β : Nat} {x : Blk}, (H ++ [Blk.arr E xs t])[β]? = some x → (H ++ [Blk.cells (xs.flatMap (enc E)) t E.sz])[β]? = some x ∨ (β = H.length ∧ x = .arr E xs t ∧ (H ++ [Blk.cells (xs.flatMap (enc E)) t E.sz])[β]? = some (.cells (xs.flatMap (enc E)) t E.sz)) := by
    intro β x h
    rcases Nat.lt_or_ge β H.length with h1 | h1
    · left
      rw [List.getElem?_append_left h1] at h ⊢
      exact h
    · rw [List.getElem?_append_right h1] at h
      have h2 : β - H.length = 0 := by have := (List.getElem?_eq_some_iff.1 h).1; simp at this; omega
      rw [h2] at h
      simp at h
      refine .inr ⟨by omega, h.symm, ?_⟩
      rw [List.getElem?_append_right h1, h2]
      rfl
  have hlen : ∀ (ys : List E.T), (ys.flatMap (enc E)).length = ys.length * E.sz := by
    intro ys
    induction ys with
    | nil => simp
    | cons y ys ih => simp only [List.flatMap_cons, List.length_append, zY, ih, List.length_cons, Nat.add_mul]; omega
  refine ⟨fun β hβ h => ?_, fun β hβ h => ?_, fun β hβ b o n sz h => ?_, hH.inj, hH.lt, hH.resl, hH.resf⟩
  · rcases cs (hH.dead β (by rw [hl]; exact hβ) h) with h1 | ⟨_, h1, _⟩
    · exact h1
    · cases h1
  · rcases hH.none_ β (by rw [hl]; exact hβ) h with ⟨K, t2, h1⟩ | ⟨t2, z, h1⟩ | ⟨e, h1⟩
    · rcases cs h1 with h2 | ⟨h2, h3, h4⟩
      · exact .inl ⟨K, t2, h2⟩
      · cases h3
        exact .inr (.inl ⟨t, _, h4⟩)
    · rcases cs h1 with h2 | ⟨h2, h3, h4⟩
      · exact .inr (.inl ⟨t2, z, h2⟩)
      · cases h3
    · rcases cs h1 with h2 | ⟨h2, h3, h4⟩
      · exact .inr (.inr ⟨e, h2⟩)
      · cases h3
  · obtain ⟨x, h1, h2⟩ := hH.at_ β (by rw [hl]; exact hβ) b o n sz h
    rcases cs h1 with h3 | ⟨h3, rfl, h4⟩
    · exact ⟨x, h3, h2⟩
    · refine ⟨_, h4, ?_⟩
      simp only [BRel] at h2 ⊢
      obtain ⟨g1, g2, C, tC, g3, g4, g5⟩ := h2
      refine ⟨g2, by rw [hlen, g1, g2], C, tC, g3, g4, fun j s hs => ?_⟩
      have key : ∀ (ys : List E.T) (p : Nat), (∀ (i : Nat) (x : E.T), ys[i]? = some x → ∃ es, CRel w (Free ρ w) E x es ∧ ∀ (j : Nat) (u : Value), es[j]? = some u → C[p + i * E.sz + j]? = some u) →
          ∀ j s, (ys.flatMap (enc E))[j]? = some s → ∃ u, C[p + j]? = some u ∧ VRel ρ w s u := by
        intro ys
        induction ys with
        | nil => intro p _ j s h; simp at h
        | cons y ys ih =>
          intro p hp j s h
          rw [List.flatMap_cons] at h
          rcases Nat.lt_or_ge j E.sz with hj | hj
          · rw [List.getElem?_append_left (by rw [zY]; exact hj)] at h
            obtain ⟨es, k1, k2⟩ := hp 0 y rfl
            obtain ⟨u, k3, k4⟩ := (enc_rel k1).get j s h
            exact ⟨u, by simpa using k2 j u k3, k4⟩
          · rw [List.getElem?_append_right (by rw [zY]; exact hj), zY] at h
            obtain ⟨u, k1, k2⟩ := ih (p + E.sz) (fun i x hx => by
              obtain ⟨es, k1, k2⟩ := hp (i + 1) x hx
              refine ⟨es, k1, fun j u hu => ?_⟩
              have := k2 j u hu
              rw [Nat.add_mul, Nat.one_mul] at this
              rw [show p + E.sz + i * E.sz + j = p + (i * E.sz + E.sz) + j by omega]
              exact this) _ _ h
            exact ⟨u, by rw [show p + j = p + E.sz + (j - E.sz) by omega]; exact k1, k2⟩
      exact key xs o g5 j s hs
def TF.cellsTE (E : Kd) (ps : List Pm) (flat : Bool) (fn : PsT ps → Option (PsT [⟨[(.list E, true)], false⟩])) : TE where
  X := PsT ps
  Y := PsT [⟨[(.list E, true)], false⟩]
  mono := true
  view := (TF.te ⟨ps, [⟨[(.list E, true)], false⟩], flat, fn⟩).view
  fn := fn
  put _ y _ H := some (.own H.length, H ++ [.cells (y.1.1.flatMap (enc E)) 0 E.sz])
theorem zsF {P : Program} {f : FuncId} {E : Kd} {ps : List Pm} {flat : Bool} {fn : PsT ps → Option (PsT [⟨[(.list E, true)], false⟩])} (h : TESound P f (TF.te ⟨ps, [⟨[(.list E, true)], false⟩], flat, fn⟩)) : TESound P f (TF.cellsTE E ps flat fn) := by
  intro ρ H w args vs x y v H' hH hv hun hview hfn hput
  have hput' : v = .own H.length ∧ H' = H ++ [.cells (y.1.1.flatMap (enc E)) 0 E.sz] := by
    have : some (SV.own H.length, H ++ [.cells (y.1.1.flatMap (enc E)) 0 E.sz]) = some (v, H') := hput
    simp only [Option.some.injEq, Prod.mk.injEq] at this
    exact ⟨this.1.symm, this.2.symm⟩
  obtain ⟨rfl, rfl⟩ := hput'
  refine Calls.mono (h ρ H w args vs x y (.own H.length) (H ++ [.arr E y.1.1 0]) hH hv (fun β h1 h2 => hun β h1 (by simpa using h2)) hview hfn rfl) fun e w' he => ?_
  obtain ⟨u, ρ', h1, hg⟩ := he
  refine ⟨u, ρ', h1, hg.step, hg.hrel.explode, hg.vrel, by simp, fun β h2 h3 => hg.unb β h2 (by simpa using h3), fun h2 => ?_⟩
  obtain ⟨k1, k2, k3⟩ := hg.mono h2
  exact ⟨⟨_, rfl⟩, fun β h => k2 β (by simpa using h), k3⟩
theorem EntryOK.cells {P : Program} {f : Nat} {E : Kd} {ps : List Pm} {flat : Bool} {fn : PsT ps → Option (PsT [⟨[(.list E, true)], false⟩])} (h : EntryOK P f (TF.te ⟨ps, [⟨[(.list E, true)], false⟩], flat, fn⟩)) : EntryOK P f (TF.cellsTE E ps flat fn) where
  snd := zsF h.snd
  fn := h.fn
  ext _ x y args H v H' hp := ⟨_, by have : some (SV.own H.length, H ++ [.cells (y.1.1.flatMap (enc E)) 0 E.sz]) = some (v, H') := hp; simp only [Option.some.injEq, Prod.mk.injEq] at this; exact this.2.symm⟩
  tch x y args H v H' _ hp := by
    have : some (SV.own H.length, H ++ [.cells (y.1.1.flatMap (enc E)) 0 E.sz]) = some (v, H') := hp
    simp only [Option.some.injEq, Prod.mk.injEq] at this
    obtain ⟨_, rfl⟩ := this
    exact ⟨by simp, fun γ hγ _ => List.getElem?_append_left hγ⟩
end
end Go.Proofs.Ytmkekjmckdkcnaa.Den
namespace Go.Proofs.Ytmkekjmckdkcnaa.Den
open Go Go.RowKit
theorem iteS {α : Type} {p : Prop} [Decidable p] {a b : α} (h : (if p then some a else none) = some b) : p ∧ a = b := by
  split at h
  · rename_i hp; exact ⟨hp, Option.some.inj h⟩
  · cases h
structure TEB where
  te : TE
def zlb (fuel : Nat) : TEB := ⟨lookTE⟩
noncomputable def zlc : C := irOf Try.prog Try.f51 [] [] []
theorem zqP : lightC Try.prog [] Try.f51.ntmps [] [] 0 (bodyOf Try.f51) = some (zlc, 0) := by kernel_rfl
theorem zqQ (es : List (Int × Int × Int)) (a b : Int) : run (Tab.of [] []) 2 0 zlc [(0, .ptr 0 0), (1, .int .i64 a), (2, .int .i64 b)] (lookH es) (endLk [(6, none)]) = some (mhas es a b) := by kernel_rfl
theorem zqR (fuel : Nat) : EntryOK Try.prog 51 (zlb fuel).te :=
  EntryOK.look (zsC (T := Tab.of [] []) (c := bodyOf Try.f51) (fn := Try.f51) (TabOK.of entNil methNil) (by kernel_rfl) (by kernel_rfl) zqP (by kernel_rfl) (by kernel_rfl) (by kernel_rfl) (Nat.le_of_ble_eq_true (by kernel_rfl)) (rv := [(6, none)]) (by kernel_rfl) zqQ)
    (isFn (fn := Try.f51) (by kernel_rfl) (by kernel_rfl) (by kernel_rfl))
def zek (fuel : Nat) : TF := ⟨[⟨[(.list I6, false)], false⟩], [⟨[(.list I6, true)], false⟩], true, fun x => cloneF (zkf fuel) x.1.1⟩
theorem zqS (fuel : Nat) : FnSpec Try.prog 67 (zek fuel) :=
  zeQ (fn := Try.f67) (c := bodyOf Try.f67) (c0 := cl0 (bodyOf Try.f67)) (cA := clA (bodyOf Try.f67)) (cB := clB (bodyOf Try.f67)) (o1 := clO 0 (bodyOf Try.f67)) (o2 := clO 1 (bodyOf Try.f67)) (t := 22) (i := 1) (rv := zgi) (ci0 := (irC Try.prog Try.f67.ntmps (cl0 (bodyOf Try.f67)))) (ciA := (irC Try.prog Try.f67.ntmps (clA (bodyOf Try.f67)))) (ciB := (irC Try.prog Try.f67.ntmps (clB (bodyOf Try.f67))))
    mixed (zpN fuel) (by kernel_rfl) (by kernel_rfl) (Nat.le_of_ble_eq_true (by kernel_rfl)) (by kernel_rfl) (by kernel_rfl) (by kernel_rfl) (by kernel_rfl) (by kernel_rfl)
    (by kernel_rfl) (by kernel_rfl) (by kernel_rfl) (by kernel_rfl) (by kernel_rfl) (by kernel_rfl) (by kernel_rfl) (by kernel_rfl) (by kernel_rfl)
theorem zld (fuel : Nat) : EntryOK Try.prog 67 (zek fuel).te := EntryOK.tf rfl (zqS fuel) (isFn (fn := Try.f67) (by kernel_rfl) (by kernel_rfl) (by kernel_rfl))
def zle (fuel : Nat) : TF := ⟨[⟨[(.list KE, false)], false⟩], [⟨[(.list KE, true)], false⟩], false, fun x => cloneF (zgl fuel) x.1.1⟩
theorem zqT (fuel : Nat) : FnSpec Try.prog 68 (zle fuel) :=
  zeQ (fn := Try.f68) (c := bodyOf Try.f68) (c0 := cl0 (bodyOf Try.f68)) (cA := clA (bodyOf Try.f68)) (cB := clB (bodyOf Try.f68)) (o1 := clO 0 (bodyOf Try.f68)) (o2 := clO 1 (bodyOf Try.f68)) (t := 47) (i := 1) (rv := zgk) (ci0 := (irC Try.prog Try.f68.ntmps (cl0 (bodyOf Try.f68)))) (ciA := (irC Try.prog Try.f68.ntmps (clA (bodyOf Try.f68)))) (ciB := (irC Try.prog Try.f68.ntmps (clB (bodyOf Try.f68))))
    mixed (zpR fuel) (by kernel_rfl) (by kernel_rfl) (Nat.le_of_ble_eq_true (by kernel_rfl)) (by kernel_rfl) (by kernel_rfl) (by kernel_rfl) (by kernel_rfl) (by kernel_rfl)
    (by kernel_rfl) (by kernel_rfl) (by kernel_rfl) (by kernel_rfl) (by kernel_rfl) (by kernel_rfl) (by kernel_rfl) (by kernel_rfl) (by kernel_rfl)
theorem zqU (fuel : Nat) : EntryOK Try.prog 68 (zle fuel).te := EntryOK.tf rfl (zqT fuel) (isFn (fn := Try.f68) (by kernel_rfl) (by kernel_rfl) (by kernel_rfl))
def zgE (fuel : Nat) : TF := ⟨[⟨[(.list KP, false)], false⟩], [⟨[(.list KP, true)], false⟩], true, fun x => cloneF (zkq fuel) x.1.1⟩
theorem zqV (fuel : Nat) : FnSpec Try.prog 69 (zgE fuel) :=
  zeQ (fn := Try.f69) (c := bodyOf Try.f69) (c0 := cl0 (bodyOf Try.f69)) (cA := clA (bodyOf Try.f69)) (cB := clB (bodyOf Try.f69)) (o1 := clO 0 (bodyOf Try.f69)) (o2 := clO 1 (bodyOf Try.f69)) (t := 82) (i := 1) (rv := zgn) (ci0 := (irC Try.prog Try.f69.ntmps (cl0 (bodyOf Try.f69)))) (ciA := (irC Try.prog Try.f69.ntmps (clA (bodyOf Try.f69)))) (ciB := (irC Try.prog Try.f69.ntmps (clB (bodyOf Try.f69))))
    mixed (zpV fuel) (by kernel_rfl) (by kernel_rfl) (Nat.le_of_ble_eq_true (by kernel_rfl)) (by kernel_rfl) (by kernel_rfl) (by kernel_rfl) (by kernel_rfl) (by kernel_rfl)
    (by kernel_rfl) (by kernel_rfl) (by kernel_rfl) (by kernel_rfl) (by kernel_rfl) (by kernel_rfl) (by kernel_rfl) (by kernel_rfl) (by kernel_rfl)
theorem zqW (fuel : Nat) : EntryOK Try.prog 69 (zgE fuel).te := EntryOK.tf rfl (zqV fuel) (isFn (fn := Try.f69) (by kernel_rfl) (by kernel_rfl) (by kernel_rfl))
def zgF (fuel : Nat) : TF := ⟨[⟨[(.list KP, false)], false⟩], [⟨[(.list KP, true)], false⟩], true, fun x => cloneF (zkw fuel) x.1.1⟩
theorem zqX (fuel : Nat) : FnSpec Try.prog 70 (zgF fuel) :=
  zeQ (fn := Try.f70) (c := bodyOf Try.f70) (c0 := cl0 (bodyOf Try.f70)) (cA := clA (bodyOf Try.f70)) (cB := clB (bodyOf Try.f70)) (o1 := clO 0 (bodyOf Try.f70)) (o2 := clO 1 (bodyOf Try.f70)) (t := 85) (i := 1) (rv := zgp) (ci0 := (irC Try.prog Try.f70.ntmps (cl0 (bodyOf Try.f70)))) (ciA := (irC Try.prog Try.f70.ntmps (clA (bodyOf Try.f70)))) (ciB := (irC Try.prog Try.f70.ntmps (clB (bodyOf Try.f70))))
    mixed (zpZ fuel) (by kernel_rfl) (by kernel_rfl) (Nat.le_of_ble_eq_true (by kernel_rfl)) (by kernel_rfl) (by kernel_rfl) (by kernel_rfl) (by kernel_rfl) (by kernel_rfl)
    (by kernel_rfl) (by kernel_rfl) (by kernel_rfl) (by kernel_rfl) (by kernel_rfl) (by kernel_rfl) (by kernel_rfl) (by kernel_rfl) (by kernel_rfl)
theorem zqY (fuel : Nat) : EntryOK Try.prog 70 (zgF fuel).te := EntryOK.tf rfl (zqX fuel) (isFn (fn := Try.f70) (by kernel_rfl) (by kernel_rfl) (by kernel_rfl))
def zlf (fuel : Nat) : Tab := Tab.of [(67, (zek fuel).te)] []
abbrev zlg : Sh := .cell (.list (.list (.list I6))) 0 .nil
def past0 : List (List (List Int)) := [[[], []], [[], []], [[], []], [[], []], [[], []]]
def zlh (fuel : Nat) (x : List (List (List Int)) × Unit) : Option (List (List (List Int))) := if x.1 = past0 then some past0 else none
def zli : List Norm := [{ live := [13, 12, 11, 3], fix := [] }, { live := [26, 25, 24, 3, 4, 13, 12, 11], fix := [] }]
noncomputable def zlj : C := irOf Try.prog Try.f49 [10, 22] zli []
theorem zqZ : lightC Try.prog [10, 22] Try.f49.ntmps zli [] 0 (bodyOf Try.f49) = some (zlj, 2) := by kernel_rfl
theorem zq0 (fuel : Nat) : run (zlf fuel) 0 8 zlj (env0 (svS zlg (past0, ())) 0) [] (endR [(2, none)] (.list (.list (.list I6))) false) = some past0 := by kernel_rfl
def zgG (fuel : Nat) : TR := ⟨zlg, .list (.list (.list I6)), false, zlh fuel⟩
theorem zq1 (fuel : Nat) : FnSpecR Try.prog 49 (zgG fuel) :=
  zmm (T := zlf fuel) (c := bodyOf Try.f49) (fn := Try.f49) (TabOK.of (entCons (zld fuel) entNil) methNil) mixed (by kernel_rfl) (by kernel_rfl) zqZ (by kernel_rfl) (Nat.le_of_ble_eq_true (by kernel_rfl)) (rv := [(2, none)]) (by kernel_rfl) (fun x y h => by
    obtain ⟨x, ⟨⟩⟩ := x
    obtain ⟨e, h2⟩ := iteS (p := x = past0) h
    subst e
    subst h2
    exact ⟨8, zq0 fuel⟩)
theorem zq2 (fuel : Nat) : EntryOK Try.prog 49 (zgG fuel).te := EntryOK.tr (zq1 fuel) (isFn (fn := Try.f49) (by kernel_rfl) (by kernel_rfl) (by kernel_rfl))
abbrev zq3 (fuel : Nat) : TE := TF.cellsTE KE [⟨[(.list KE, false)], false⟩] false (fun x => cloneF (zgl fuel) x.1.1)
def zlk (fuel : Nat) : Tab := Tab.of [(67, (zek fuel).te), (68, zq3 fuel), (69, (zgE fuel).te), (70, (zgF fuel).te)] []
abbrev zll : Sh := .cell (.list KE) 0 .nil
def sum0 : Kd.T KS := (([[0, 0, 0, 0, 0, 0, 0, 0], [0, 0, 0, 0, 0, 0, 0, 0], [0, 0, 0, 0, 0, 0, 0, 0]], ()), ([], ()), ([], 0, 0, ()), ([], 0, ()), ())
def ent0 (a : Int) : EntY := (a, 1, 0, sum0, ())
def decK : (K : Kd) → DecidableEq K.T
  | .int _ => inferInstanceAs (DecidableEq Int)
  | .bool => inferInstanceAs (DecidableEq Bool)
  | .unit => inferInstanceAs (DecidableEq Unit)
  | .pair a b => @instDecidableEqProd _ _ (decK a) (decK b)
  | .list e => @instDecidableEqList _ (decK e)
def zaz (fuel : Nat) (x : List EntY × Unit) : Option (List EntY) := haveI := decK (.list KE) x.1 [ent0 (x.1.headD dE).1]; if x.1 = [ent0 (x.1.headD dE).1] then some x.1 else none
def zlm : List Norm := [{ live := [13, 12, 3], fix := [] }, { live := [33, 32, 31, 6, 5, 13, 12, 3], fix := [] }]
noncomputable def zln : C := irOf Try.prog Try.f50 [26] zlm []
theorem zq4 : lightC Try.prog [26] Try.f50.ntmps zlm [] 0 (bodyOf Try.f50) = some (zln, 2) := by kernel_rfl
theorem zq5 (fuel : Nat) (a : Int) : run (zlk fuel) 0 8 zln (env0 (svS zll ([ent0 a], ())) 0) [] (endR [(2, none)] (.list KE) false) = some [ent0 a] := by kernel_rfl
def zgH (fuel : Nat) : TR := ⟨zll, .list KE, false, zaz fuel⟩
theorem zq6 (fuel : Nat) : FnSpecR Try.prog 50 (zgH fuel) :=
  zmm (T := zlk fuel) (c := bodyOf Try.f50) (fn := Try.f50) (TabOK.of (entCons (zld fuel) (entCons (EntryOK.cells (zqU fuel)) (entCons (zqW fuel) (entCons (zqY fuel) entNil)))) methNil) mixed (by kernel_rfl) (by kernel_rfl) zq4 (by kernel_rfl) (Nat.le_of_ble_eq_true (by kernel_rfl)) (rv := [(2, none)]) (by kernel_rfl) (fun x y h => by
    obtain ⟨x, ⟨⟩⟩ := x
    obtain ⟨e, h2⟩ := @iteS _ (x = [ent0 (x.headD dE).1]) (decK (.list KE) x _) _ _ h
    generalize (x.headD dE).1 = a at e
    subst e
    subst h2
    exact ⟨8, zq5 fuel a⟩)
theorem zq7 (fuel : Nat) : EntryOK Try.prog 50 (zgH fuel).te := EntryOK.tr (zq6 fuel) (isFn (fn := Try.f50) (by kernel_rfl) (by kernel_rfl) (by kernel_rfl))
end Go.Proofs.Ytmkekjmckdkcnaa.Den
namespace Go.Proofs.Ytmkekjmckdkcnaa.Den
open Go Go.RowKit
def zlo (fuel : Nat) : Tab := Tab.of [(49, (zgG fuel).te), (50, (zgH fuel).te), (51, (zlb fuel).te)] []
def zlp : List Norm := [{ live := [28, 27, 3, 0, 2], fix := [] }, { live := [50, 3, 0, 2], fix := [] }, { live := [53, 3, 6, 0, 50, 2], fix := [] }, { live := [74, 73, 72, 3, 2], fix := [] }]
noncomputable def zlq : C := irOf Try.prog Try.f24 [10, 17] zlp []
theorem zq8 : lightC Try.prog [10, 17] Try.f24.ntmps zlp [] 0 (bodyOf Try.f24) = some (zlq, 4) := by kernel_rfl
def zlr : List (Nat × Option (Nat × Bool)) := [(2, some (4, true))]
noncomputable def zls (fuel : Nat) : IE := inlIE 1 (zlo fuel) (fuel + 6) zlq zlr
theorem zq9 (fuel : Nat) : ISound Try.prog 24 (zls fuel) :=
  zc5 (T := zlo fuel) (c := bodyOf Try.f24) (fn := Try.f24) (TabOK.of (entCons (zq2 fuel) (entCons (zq7 fuel) (entCons (zqR fuel) entNil))) (methNil)) mixed (by kernel_rfl) (by kernel_rfl) zq8 (by kernel_rfl) (Nat.le_of_ble_eq_true (by kernel_rfl)) (rv := zlr) (by kernel_rfl) (isFn (fn := Try.f24) (by kernel_rfl) (by kernel_rfl) (by kernel_rfl))
abbrev zX := Option (NetY × Bool)
noncomputable def zcT (fuel : Nat) : Tab := Tab.ofI [(21, (zge fuel).te)] [] [(22, zjQ fuel), (23, zka fuel), (24, zls fuel)]
abbrev zel : Sh := (.cell (Kd.list I6) 0 .nil)
def zlt : List Norm := [{ live := [5, 0, 2, 4], fix := [] }, { live := [56, 4, 2], fix := [] }]
noncomputable def zcU : C := irOf Try.prog Try.f7 [20, 55, 62, 71, 75] zlt []
theorem zra : lightC Try.prog [20, 55, 62, 71, 75] Try.f7.ntmps zlt [] 0 (bodyOf Try.f7) = some (zcU, 2) := by kernel_rfl
def zcV : List (Nat × Option (Nat × Bool)) := [(2, some (4, true)), (3, none)]
abbrev zaA := (Int) × (List Int) × (List (Int × Int × Int))
def zlu (v : zaA) : Env × Heap := ([(5, SV.int .i64 v.1), (0, SV.es I6 v.2.1), (2, SV.ptr 0 0), (4, SV.ptr 1 0)], [Blk.cells [SV.nils, SV.nils, SV.nils, SV.nils] 0 4, Blk.cells [SV.nilp, SV.nilp, SV.nilp, SV.nilp, SV.nilp, SV.mapp 2, SV.nils, SV.own 3] 0 8, Blk.mapi v.2.2, Blk.cells [SV.nils, SV.nils, SV.nils, SV.nils, SV.nils] 0 1])
def zlv (fuel : Nat) (g0 : zaA → zX) (v : zaA) : zX :=
 cond (decide (v.1 < (zz (List.length v.2.1))))
 (tst (decide (0 ≤ v.1)) <|
 tst (decide (v.1 < (zz (List.length v.2.1)))) <|
 tst (decide (0 ≤ w64 (v.1 + (1 : Int)))) <|
 tst (decide (w64 (v.1 + (1 : Int)) < (zz (List.length v.2.1)))) <|
 Option.bind (zcm fuel ((List.getD v.2.1 (Int.toNat v.1) 0, ()), ())) fun y_2 =>
 cond (!y_2.1.1)
 (some ((([], [], [], [], ()), false)))
 (Option.bind (zcm fuel ((List.getD v.2.1 (Int.toNat (w64 (v.1 + (1 : Int)))) 0, ()), ())) fun y_4 =>
 cond (!y_4.1.1)
 (some ((([], [], [], [], ()), false)))
 (cond (List.getD v.2.1 (Int.toNat v.1) 0 == List.getD v.2.1 (Int.toNat (w64 (v.1 + (1 : Int)))) 0)
 (some ((([], [], [], [], ()), false)))
 (g0 (w64 (v.1 + (2 : Int)), v.2.1, mset (mset v.2.2 (List.getD v.2.1 (Int.toNat v.1) 0) (List.getD v.2.1 (Int.toNat (w64 (v.1 + (1 : Int)))) 0) (1 : Int)) (List.getD v.2.1 (Int.toNat (w64 (v.1 + (1 : Int)))) 0) (List.getD v.2.1 (Int.toNat v.1) 0) (1 : Int))))))
 (Option.bind (zV fuel (((0 : Int), ()), ())) fun y_2 =>
 Option.bind (zV fuel (((1 : Int), ()), ())) fun y_3 =>
 Option.bind (zV fuel (((2 : Int), ()), ())) fun y_4 =>
 Option.bind (zV fuel (((3 : Int), ()), ())) fun y_5 =>
 Option.bind (zV fuel (((4 : Int), ()), ())) fun y_6 =>
 Option.bind (zlh fuel ([[[], []], [[], []], [[], []], [[], []], [[], []]], ())) fun y_7 =>
 Option.bind (zaz fuel ([((0 : Int), (1 : Int), (0 : Int), (([List.replicate (Int.toNat (8 : Int)) 0, List.replicate (Int.toNat (8 : Int)) 0, List.replicate (Int.toNat (8 : Int)) 0], ()), ([], ()), ([], (0 : Int), (0 : Int), ()), ([], (0 : Int), ()), ()), ())], ())) fun y_8 =>
 Option.bind (zaz fuel ([((1 : Int), (1 : Int), (0 : Int), (([List.replicate (Int.toNat (8 : Int)) 0, List.replicate (Int.toNat (8 : Int)) 0, List.replicate (Int.toNat (8 : Int)) 0], ()), ([], ()), ([], (0 : Int), (0 : Int), ()), ([], (0 : Int), ()), ()), ())], ())) fun y_9 =>
 Option.bind (zaz fuel ([((2 : Int), (1 : Int), (0 : Int), (([List.replicate (Int.toNat (8 : Int)) 0, List.replicate (Int.toNat (8 : Int)) 0, List.replicate (Int.toNat (8 : Int)) 0], ()), ([], ()), ([], (0 : Int), (0 : Int), ()), ([], (0 : Int), ()), ()), ())], ())) fun y_10 =>
 Option.bind (zaz fuel ([((3 : Int), (1 : Int), (0 : Int), (([List.replicate (Int.toNat (8 : Int)) 0, List.replicate (Int.toNat (8 : Int)) 0, List.replicate (Int.toNat (8 : Int)) 0], ()), ([], ()), ([], (0 : Int), (0 : Int), ()), ([], (0 : Int), ()), ()), ())], ())) fun y_11 =>
 Option.bind (zaz fuel ([((4 : Int), (1 : Int), (0 : Int), (([List.replicate (Int.toNat (8 : Int)) 0, List.replicate (Int.toNat (8 : Int)) 0, List.replicate (Int.toNat (8 : Int)) 0], ()), ([], ()), ([], (0 : Int), (0 : Int), ()), ([], (0 : Int), ()), ()), ())], ())) fun y_12 =>
 Option.bind (some (mhas v.2.2 (0 : Int) (0 : Int))) fun y_13 =>
 let z34_89 := List.set (List.replicate (Int.toNat (25 : Int)) false) (Int.toNat (w64 (w64 ((0 : Int) * (5 : Int)) + (0 : Int)))) y_13;
 Option.bind (some (mhas v.2.2 (0 : Int) (1 : Int))) fun y_14 =>
 tst (decide (w64 (w64 ((0 : Int) * (5 : Int)) + (1 : Int)) < (zz (List.length z34_89)))) <|
 tst (decide (Int.toNat (w64 (w64 ((0 : Int) * (5 : Int)) + (1 : Int))) < List.length z34_89)) <|
 let z35_89 := List.set z34_89 (Int.toNat (w64 (w64 ((0 : Int) * (5 : Int)) + (1 : Int)))) y_14;
 Option.bind (some (mhas v.2.2 (0 : Int) (2 : Int))) fun y_15 =>
 tst (decide (w64 (w64 ((0 : Int) * (5 : Int)) + (2 : Int)) < (zz (List.length z35_89)))) <|
 tst (decide (Int.toNat (w64 (w64 ((0 : Int) * (5 : Int)) + (2 : Int))) < List.length z35_89)) <|
 let z36_89 := List.set z35_89 (Int.toNat (w64 (w64 ((0 : Int) * (5 : Int)) + (2 : Int)))) y_15;
 Option.bind (some (mhas v.2.2 (0 : Int) (3 : Int))) fun y_16 =>
 tst (decide (w64 (w64 ((0 : Int) * (5 : Int)) + (3 : Int)) < (zz (List.length z36_89)))) <|
 tst (decide (Int.toNat (w64 (w64 ((0 : Int) * (5 : Int)) + (3 : Int))) < List.length z36_89)) <|
 let z37_89 := List.set z36_89 (Int.toNat (w64 (w64 ((0 : Int) * (5 : Int)) + (3 : Int)))) y_16;
 Option.bind (some (mhas v.2.2 (0 : Int) (4 : Int))) fun y_17 =>
 tst (decide (w64 (w64 ((0 : Int) * (5 : Int)) + (4 : Int)) < (zz (List.length z37_89)))) <|
 tst (decide (Int.toNat (w64 (w64 ((0 : Int) * (5 : Int)) + (4 : Int))) < List.length z37_89)) <|
 let z38_89 := List.set z37_89 (Int.toNat (w64 (w64 ((0 : Int) * (5 : Int)) + (4 : Int)))) y_17;
 Option.bind (some (mhas v.2.2 (1 : Int) (0 : Int))) fun y_18 =>
 tst (decide (w64 (w64 ((1 : Int) * (5 : Int)) + (0 : Int)) < (zz (List.length z38_89)))) <|
 tst (decide (Int.toNat (w64 (w64 ((1 : Int) * (5 : Int)) + (0 : Int))) < List.length z38_89)) <|
 let z41_89 := List.set z38_89 (Int.toNat (w64 (w64 ((1 : Int) * (5 : Int)) + (0 : Int)))) y_18;
 Option.bind (some (mhas v.2.2 (1 : Int) (1 : Int))) fun y_19 =>
 tst (decide (w64 (w64 ((1 : Int) * (5 : Int)) + (1 : Int)) < (zz (List.length z41_89)))) <|
 tst (decide (Int.toNat (w64 (w64 ((1 : Int) * (5 : Int)) + (1 : Int))) < List.length z41_89)) <|
 let z42_89 := List.set z41_89 (Int.toNat (w64 (w64 ((1 : Int) * (5 : Int)) + (1 : Int)))) y_19;
 Option.bind (some (mhas v.2.2 (1 : Int) (2 : Int))) fun y_20 =>
 tst (decide (w64 (w64 ((1 : Int) * (5 : Int)) + (2 : Int)) < (zz (List.length z42_89)))) <|
 tst (decide (Int.toNat (w64 (w64 ((1 : Int) * (5 : Int)) + (2 : Int))) < List.length z42_89)) <|
 let z43_89 := List.set z42_89 (Int.toNat (w64 (w64 ((1 : Int) * (5 : Int)) + (2 : Int)))) y_20;
 Option.bind (some (mhas v.2.2 (1 : Int) (3 : Int))) fun y_21 =>
 tst (decide (w64 (w64 ((1 : Int) * (5 : Int)) + (3 : Int)) < (zz (List.length z43_89)))) <|
 tst (decide (Int.toNat (w64 (w64 ((1 : Int) * (5 : Int)) + (3 : Int))) < List.length z43_89)) <|
 let z44_89 := List.set z43_89 (Int.toNat (w64 (w64 ((1 : Int) * (5 : Int)) + (3 : Int)))) y_21;
 Option.bind (some (mhas v.2.2 (1 : Int) (4 : Int))) fun y_22 =>
 tst (decide (w64 (w64 ((1 : Int) * (5 : Int)) + (4 : Int)) < (zz (List.length z44_89)))) <|
 tst (decide (Int.toNat (w64 (w64 ((1 : Int) * (5 : Int)) + (4 : Int))) < List.length z44_89)) <|
 let z45_89 := List.set z44_89 (Int.toNat (w64 (w64 ((1 : Int) * (5 : Int)) + (4 : Int)))) y_22;
 Option.bind (some (mhas v.2.2 (2 : Int) (0 : Int))) fun y_23 =>
 tst (decide (w64 (w64 ((2 : Int) * (5 : Int)) + (0 : Int)) < (zz (List.length z45_89)))) <|
 tst (decide (Int.toNat (w64 (w64 ((2 : Int) * (5 : Int)) + (0 : Int))) < List.length z45_89)) <|
 let z48_89 := List.set z45_89 (Int.toNat (w64 (w64 ((2 : Int) * (5 : Int)) + (0 : Int)))) y_23;
 Option.bind (some (mhas v.2.2 (2 : Int) (1 : Int))) fun y_24 =>
 tst (decide (w64 (w64 ((2 : Int) * (5 : Int)) + (1 : Int)) < (zz (List.length z48_89)))) <|
 tst (decide (Int.toNat (w64 (w64 ((2 : Int) * (5 : Int)) + (1 : Int))) < List.length z48_89)) <|
 let z49_89 := List.set z48_89 (Int.toNat (w64 (w64 ((2 : Int) * (5 : Int)) + (1 : Int)))) y_24;
 Option.bind (some (mhas v.2.2 (2 : Int) (2 : Int))) fun y_25 =>
 tst (decide (w64 (w64 ((2 : Int) * (5 : Int)) + (2 : Int)) < (zz (List.length z49_89)))) <|
 tst (decide (Int.toNat (w64 (w64 ((2 : Int) * (5 : Int)) + (2 : Int))) < List.length z49_89)) <|
 let z50_89 := List.set z49_89 (Int.toNat (w64 (w64 ((2 : Int) * (5 : Int)) + (2 : Int)))) y_25;
 Option.bind (some (mhas v.2.2 (2 : Int) (3 : Int))) fun y_26 =>
 tst (decide (w64 (w64 ((2 : Int) * (5 : Int)) + (3 : Int)) < (zz (List.length z50_89)))) <|
 tst (decide (Int.toNat (w64 (w64 ((2 : Int) * (5 : Int)) + (3 : Int))) < List.length z50_89)) <|
 let z51_89 := List.set z50_89 (Int.toNat (w64 (w64 ((2 : Int) * (5 : Int)) + (3 : Int)))) y_26;
 Option.bind (some (mhas v.2.2 (2 : Int) (4 : Int))) fun y_27 =>
 tst (decide (w64 (w64 ((2 : Int) * (5 : Int)) + (4 : Int)) < (zz (List.length z51_89)))) <|
 tst (decide (Int.toNat (w64 (w64 ((2 : Int) * (5 : Int)) + (4 : Int))) < List.length z51_89)) <|
 let z52_89 := List.set z51_89 (Int.toNat (w64 (w64 ((2 : Int) * (5 : Int)) + (4 : Int)))) y_27;
 Option.bind (some (mhas v.2.2 (3 : Int) (0 : Int))) fun y_28 =>
 tst (decide (w64 (w64 ((3 : Int) * (5 : Int)) + (0 : Int)) < (zz (List.length z52_89)))) <|
 tst (decide (Int.toNat (w64 (w64 ((3 : Int) * (5 : Int)) + (0 : Int))) < List.length z52_89)) <|
 let z55_89 := List.set z52_89 (Int.toNat (w64 (w64 ((3 : Int) * (5 : Int)) + (0 : Int)))) y_28;
 Option.bind (some (mhas v.2.2 (3 : Int) (1 : Int))) fun y_29 =>
 tst (decide (w64 (w64 ((3 : Int) * (5 : Int)) + (1 : Int)) < (zz (List.length z55_89)))) <|
 tst (decide (Int.toNat (w64 (w64 ((3 : Int) * (5 : Int)) + (1 : Int))) < List.length z55_89)) <|
 let z56_89 := List.set z55_89 (Int.toNat (w64 (w64 ((3 : Int) * (5 : Int)) + (1 : Int)))) y_29;
 Option.bind (some (mhas v.2.2 (3 : Int) (2 : Int))) fun y_30 =>
 tst (decide (w64 (w64 ((3 : Int) * (5 : Int)) + (2 : Int)) < (zz (List.length z56_89)))) <|
 tst (decide (Int.toNat (w64 (w64 ((3 : Int) * (5 : Int)) + (2 : Int))) < List.length z56_89)) <|
 let z57_89 := List.set z56_89 (Int.toNat (w64 (w64 ((3 : Int) * (5 : Int)) + (2 : Int)))) y_30;
 Option.bind (some (mhas v.2.2 (3 : Int) (3 : Int))) fun y_31 =>
 tst (decide (w64 (w64 ((3 : Int) * (5 : Int)) + (3 : Int)) < (zz (List.length z57_89)))) <|
 tst (decide (Int.toNat (w64 (w64 ((3 : Int) * (5 : Int)) + (3 : Int))) < List.length z57_89)) <|
 let z58_89 := List.set z57_89 (Int.toNat (w64 (w64 ((3 : Int) * (5 : Int)) + (3 : Int)))) y_31;
 Option.bind (some (mhas v.2.2 (3 : Int) (4 : Int))) fun y_32 =>
 tst (decide (w64 (w64 ((3 : Int) * (5 : Int)) + (4 : Int)) < (zz (List.length z58_89)))) <|
 tst (decide (Int.toNat (w64 (w64 ((3 : Int) * (5 : Int)) + (4 : Int))) < List.length z58_89)) <|
 let z59_89 := List.set z58_89 (Int.toNat (w64 (w64 ((3 : Int) * (5 : Int)) + (4 : Int)))) y_32;
 Option.bind (some (mhas v.2.2 (4 : Int) (0 : Int))) fun y_33 =>
 tst (decide (w64 (w64 ((4 : Int) * (5 : Int)) + (0 : Int)) < (zz (List.length z59_89)))) <|
 tst (decide (Int.toNat (w64 (w64 ((4 : Int) * (5 : Int)) + (0 : Int))) < List.length z59_89)) <|
 let z62_89 := List.set z59_89 (Int.toNat (w64 (w64 ((4 : Int) * (5 : Int)) + (0 : Int)))) y_33;
 Option.bind (some (mhas v.2.2 (4 : Int) (1 : Int))) fun y_34 =>
 tst (decide (w64 (w64 ((4 : Int) * (5 : Int)) + (1 : Int)) < (zz (List.length z62_89)))) <|
 tst (decide (Int.toNat (w64 (w64 ((4 : Int) * (5 : Int)) + (1 : Int))) < List.length z62_89)) <|
 let z63_89 := List.set z62_89 (Int.toNat (w64 (w64 ((4 : Int) * (5 : Int)) + (1 : Int)))) y_34;
 Option.bind (some (mhas v.2.2 (4 : Int) (2 : Int))) fun y_35 =>
 tst (decide (w64 (w64 ((4 : Int) * (5 : Int)) + (2 : Int)) < (zz (List.length z63_89)))) <|
 tst (decide (Int.toNat (w64 (w64 ((4 : Int) * (5 : Int)) + (2 : Int))) < List.length z63_89)) <|
 let z64_89 := List.set z63_89 (Int.toNat (w64 (w64 ((4 : Int) * (5 : Int)) + (2 : Int)))) y_35;
 Option.bind (some (mhas v.2.2 (4 : Int) (3 : Int))) fun y_36 =>
 tst (decide (w64 (w64 ((4 : Int) * (5 : Int)) + (3 : Int)) < (zz (List.length z64_89)))) <|
 tst (decide (Int.toNat (w64 (w64 ((4 : Int) * (5 : Int)) + (3 : Int))) < List.length z64_89)) <|
 let z65_89 := List.set z64_89 (Int.toNat (w64 (w64 ((4 : Int) * (5 : Int)) + (3 : Int)))) y_36;
 Option.bind (some (mhas v.2.2 (4 : Int) (4 : Int))) fun y_37 =>
 tst (decide (w64 (w64 ((4 : Int) * (5 : Int)) + (4 : Int)) < (zz (List.length z65_89)))) <|
 tst (decide (Int.toNat (w64 (w64 ((4 : Int) * (5 : Int)) + (4 : Int))) < List.length z65_89)) <|
 let z66_89 := List.set z65_89 (Int.toNat (w64 (w64 ((4 : Int) * (5 : Int)) + (4 : Int)))) y_37;
 some ((([((1 : Int), y_8, (0 : Int), y_2.1.1, (-1 : Int), ()), ((1 : Int), y_9, (0 : Int), y_3.1.1, (-1 : Int), ()), ((1 : Int), y_10, (0 : Int), y_4.1.1, (-1 : Int), ()), ((1 : Int), y_11, (0 : Int), y_5.1.1, (-1 : Int), ()), ((1 : Int), y_12, (0 : Int), y_6.1.1, (-1 : Int), ())], z66_89, [], y_7, ()), true)))
def zem (fuel : Nat) (g0 : zaA → zX) : zaA → zX := zlv fuel g0
theorem zrb (fuel : Nat) (G) : zcU.lp (zcT fuel) 0 (fuel + 6) G (endB zcV KNET true) 0 zlu = iter (zem fuel) (fuel + 6) := C.lp_iter fun g v => by kernel_rfl
def zen (fuel : Nat) (X0 : zaA → zX) (x0 : List Int) : zX :=
 cond (decide ((zz (List.length x0)) > (40 : Int)))
 (some ((([], [], [], [], ()), false)))
 (cond (Int.tmod ((zz (List.length x0))) (2 : Int) != (0 : Int))
 (some ((([], [], [], [], ()), false)))
 (X0 ((0 : Int), x0, [])))
def zcW (fuel : Nat) (x : ((List Int) × Unit)) : zX := zen fuel (iter (zem fuel) (fuel + 6)) x.1
theorem zrc (fuel : Nat) (x : Sh.T zel) : run (zcT fuel) 0 (fuel + 6) zcU (env0 (svS zel x) 0) [] (endB zcV KNET true) = zcW fuel x :=
  (show run (zcT fuel) 0 (fuel + 6) zcU (env0 (svS zel x) 0) [] (endB zcV KNET true) = zen fuel (zcU.lp (zcT fuel) 0 (fuel + 6) (fun _ _ _ => none) (endB zcV KNET true) 0 zlu) x.1 by kernel_rfl).trans (by rw [zrb]; rfl)
def zgI (fuel : Nat) : TRB := ⟨zel, KNET, true, zcW fuel⟩
theorem zrd (fuel : Nat) : FnSpecB Try.prog 7 (zgI fuel) :=
  zsA (T := zcT fuel) (c := bodyOf Try.f7) (fn := Try.f7) (TabOK.ofI (entCons (zpw fuel) entNil) (methNil) (inlCons (zpy fuel) (inlCons (zpJ fuel) (inlCons (zq9 fuel) (inlNil))))) mixed (by kernel_rfl) (by kernel_rfl) zra (by kernel_rfl) (Nat.le_of_ble_eq_true (by kernel_rfl)) (rv := zcV) (by kernel_rfl) (fun x y h => ⟨(fuel + 6), (zrc fuel x).trans h⟩)
theorem zre (fuel : Nat) : EntryOK Try.prog 7 (zgI fuel).te := EntryOK.trb (zrd fuel) (isFn (fn := Try.f7) (by kernel_rfl) (by kernel_rfl) (by kernel_rfl))
end Go.Proofs.Ytmkekjmckdkcnaa.Den
namespace Go.Proofs.Ytmkekjmckdkcnaa.Den
open Go Go.RowKit
def zlw (fuel : Nat) : Tab := Tab.of [(5, (zgb fuel).te), (6, (zeS fuel).te), (7, (zgI fuel).te), (8, (zfX fuel).te), (9, (zbt fuel).te), (10, (za0 fuel).te), (11, (zfj fuel).te), (12, (zgD fuel).te)] []
abbrev zeo : List Pm := [{ cs := [(Kd.list I6, false)], ag := false }]
abbrev zlx : List Pm := [{ cs := [(Kd.bool, false)], ag := false }]
def zly : List Norm := []
noncomputable def zlz : C := irOf Try.prog Try.f3 [19] zly []
theorem zrf : lightC Try.prog [19] Try.f3.ntmps zly [] 0 (bodyOf Try.f3) = some (zlz, 0) := by kernel_rfl
def zlA : List (Nat × Option (Nat × Bool)) := [(2, none)]
def zgJ (fuel : Nat) (x0 : List Int) : Option ((Bool × Unit) × Unit) :=
 cond (decide ((zz (List.length x0)) > (1048576 : Int)))
 (some (((true, ()), ())))
 (Option.bind (zM fuel ((x0, ()), ())) fun y_2 =>
 Option.bind (zd7 fuel ((y_2.1.1, ()), ())) fun y_3 =>
 Option.bind (zM fuel ((x0, ()), ())) fun y_4 =>
 Option.bind (zcW fuel (y_4.1.1, ())) fun y_5 =>
 Option.bind (zao fuel ((y_5.1.1, y_5.1.2.1, y_5.1.2.2.1, y_5.1.2.2.2.1, ()), (y_3.1.1, y_3.1.2.1, y_3.1.2.2.1, y_3.1.2.2.2.1, ()), ())) fun y_6 =>
 cond (!y_6.1.1)
 (some (((false, ()), ())))
 (cond (!y_5.2 == y_3.2.1.1)
 (some (((false, ()), ())))
 (Option.bind (zM fuel ((x0, ()), ())) fun y_9 =>
 Option.bind (zS fuel ((y_4.1.1, ()), (y_9.1.1, ()), ())) fun y_10 =>
 cond (!y_10.1.1)
 (some (((false, ()), ())))
 (Option.bind (z9 fuel (y_4.1.1, (1 : Int))) fun y_12 =>
 cond (decide (y_12.2 < (0 : Int)))
 (some (((false, ()), ())))
 (Option.bind (zao fuel ((y_5.1.1, y_5.1.2.1, y_5.1.2.2.1, y_5.1.2.2.2.1, ()), (y_3.1.1, y_3.1.2.1, y_3.1.2.2.1, y_3.1.2.2.2.1, ()), ())) fun y_14 =>
 cond (!y_14.1.1)
 (some (((false, ()), ())))
 (cond (!y_5.2 == y_3.2.1.1)
 (some (((false, ()), ())))
 (Option.bind (zad fuel ((y_5.1.1, y_5.1.2.1, y_5.1.2.2.1, y_5.1.2.2.2.1, ()), (1 : Int))) fun y_17 =>
 Option.bind (zW fuel ((y_17.1.1, y_17.1.2.1, y_17.1.2.2.1, y_17.1.2.2.2.1, ()), ((1 : Int), ()), ())) fun y_18 =>
 cond (decide (y_18.1.1 < (0 : Int)))
 (some (((false, ()), ())))
 (cond (y_18.1.1 != y_17.2)
 (some (((false, ()), ())))
 (Option.bind (zM fuel ((x0, ()), ())) fun y_21 =>
 Option.bind (zcW fuel (y_21.1.1, ())) fun y_22 =>
 Option.bind (zao fuel ((y_22.1.1, y_22.1.2.1, y_22.1.2.2.1, y_22.1.2.2.2.1, ()), (y_3.1.1, y_3.1.2.1, y_3.1.2.2.1, y_3.1.2.2.2.1, ()), ())) fun y_23 =>
 cond (!y_23.1.1)
 (some (((false, ()), ())))
 (cond (!y_22.2 == y_3.2.1.1)
 (some (((false, ()), ())))
 (Option.bind (zW fuel ((y_17.1.1, y_17.1.2.1, y_17.1.2.2.1, y_17.1.2.2.2.1, ()), ((1 : Int), ()), ())) fun y_26 =>
 cond (decide (y_26.1.1 < (0 : Int)))
 (some (((false, ()), ())))
 (cond (y_26.1.1 != y_17.2)
 (some (((false, ()), ())))
 (some (((true, ()), ())))))))))))))))
def zep (fuel : Nat) (x : (((List Int) × Unit) × Unit)) : Option ((Bool × Unit) × Unit) := zgJ fuel x.1.1
theorem zrg (fuel : Nat) (x : PsT zeo) : run (zlw fuel) 0 fuel zlz (env0 (svPs zeo x) 0) [] (endF zlA zlx) = zep fuel x := by kernel_rfl
def zrh (fuel : Nat) : TF := ⟨zeo, zlx, true, zep fuel⟩
theorem zri (fuel : Nat) : FnSpec Try.prog 3 (zrh fuel) :=
  fn_spec (T := zlw fuel) (c := bodyOf Try.f3) (fn := Try.f3) (TabOK.of (entCons (zps fuel) (entCons (zmS fuel) (entCons (zre fuel) (entCons (zoV fuel) (entCons (zfk fuel) (entCons (zeW fuel) (entCons (znx fuel) (entCons (zqO fuel) entNil)))))))) (methNil)) mixed (by kernel_rfl) (by kernel_rfl) zrf (by kernel_rfl) (Nat.le_of_ble_eq_true (by kernel_rfl)) (rv := zlA) (by kernel_rfl) (zrg fuel)
end Go.Proofs.Ytmkekjmckdkcnaa.Den
