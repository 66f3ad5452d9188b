/- Part 9 of the texts behind the row. -/
import Derived.Test.YtdgdoeknpakmlaaGreatB912b746cea
import Derived.OpenShut
import Derived.ChangeArms
set_option linter.unusedVariables false
set_option linter.unusedSimpArgs false
namespace Go.Proofs.YtdgdoeknpakmlaaGreat.Den
open Go Go.RowKit
def fldsOK (P : Program) (f : TypeId → Kd → Bool) : List Field → Nat → Kd → Bool
  | [], _, .unit => true
  | x :: fs, off, .pair a b => Nat.beq x.offset off && (Nat.beq (P.cellsOf x.type) a.sz && (f x.type a && fldsOK P f fs (off + a.sz) b))
  | _, _, _ => false
def tyOK (P : Program) : Nat → TypeId → Kd → Bool
  | 0, _, _ => false
  | n + 1, t, .int k => match P.underlying t with
    | some (.int k') => decide (k' = k)
    | _ => false
  | n + 1, t, .bool => match P.underlying t with
    | some .bool => true
    | _ => false
  | n + 1, t, .list e => match P.underlying t with
    | some (.slice u) => tyOK P n u e && (Nat.beq (P.cellsOf u) e.sz && Nat.blt 0 e.sz)
    | _ => false
  | n + 1, t, .unit => match P.underlying t with
    | some (.struct fs) => fldsOK P (tyOK P n) fs.toList 0 .unit
    | _ => false
  | n + 1, t, .pair a b => match P.underlying t with
    | some (.struct fs) => fldsOK P (tyOK P n) fs.toList 0 (.pair a b)
    | _ => false
def wfD : (K : Kd) → K.T → Prop
  | .int k, n => (Lit.int k n).wf = true
  | .bool, _ => True
  | .unit, _ => True
  | .pair a b, x => wfD a x.1 ∧ wfD b x.2
  | .list e, xs => xs.length ≤ maxLen ∧ ∀ x ∈ xs, wfD e x
theorem zCt {α β : Type} {f : α → Option β} : ∀ {l : List α} {ys : List β}, l.mapM f = some ys → ys.length = l.length ∧ ∀ (i : Nat) (x : α), l[i]? = some x → ∃ y, ys[i]? = some y ∧ f x = some y
  | [], ys, h => by simp at h; subst h; simp
  | x :: l, ys, h => by
    rw [List.mapM_cons] at h
    simp only [Option.bind_eq_bind, Option.bind_eq_some_iff, Option.pure_def, Option.some.injEq] at h
    obtain ⟨y, h1, ys', h2, rfl⟩ := h
    obtain ⟨h3, h4⟩ := zCt h2
    refine ⟨by simp [h3], fun i z hz => ?_⟩
    cases i with
    | zero => simp at hz; subst hz; exact ⟨y, by simp, h1⟩
    | succ i => simpa using h4 i z (by simpa using hz)
theorem zOh {β : Type} {f : Nat → Option β} {n : Nat} {ys : List β} (h : (List.range n).mapM f = some ys) : ys.length = n ∧ ∀ i, i < n → ∃ y, ys[i]? = some y ∧ f i = some y := by
  obtain ⟨h1, h2⟩ := zCt h
  exact ⟨by simpa using h1, fun i hi => h2 i i (by simp [hi])⟩
theorem zCu {α : Type} {p : Nat → α → Prop} : ∀ {n : Nat}, (∀ i, i < n → ∃ x, p i x) → ∃ xs : List α, xs.length = n ∧ ∀ (i : Nat) (x : α), xs[i]? = some x → p i x
  | 0, _ => ⟨[], rfl, fun i x h => by simp at h⟩
  | n + 1, h => by
    obtain ⟨xs, h1, h2⟩ := zCu (n := n) fun i hi => h i (by omega)
    obtain ⟨x, hx⟩ := h n (by omega)
    refine ⟨xs ++ [x], by simp [h1], fun i y hy => ?_⟩
    rcases Nat.lt_trichotomy i n with h3 | h3 | h3
    · rw [List.getElem?_append_left (by omega)] at hy; exact h2 i y hy
    · subst h3
      rw [List.getElem?_append_right (by omega), h1] at hy
      simp at hy; subst hy; exact hx
    · rw [List.getElem?_eq_none (by simp; omega)] at hy; cases hy
theorem cells?_spec {w : World} {base : Nat} {a : Addr} {n : Nat} {es : List Value} (h : w.cells? base a n = some es) : es.length = n ∧ ∀ j u, es[j]? = some u → w.cell? (a.add j) = some u := by
  unfold World.cells? at h
  split at h
  · obtain ⟨h1, h2⟩ := zOh h
    refine ⟨h1, fun j u hu => ?_⟩
    have hj : j < n := by have := (List.getElem?_eq_some_iff.1 hu).1; omega
    obtain ⟨y, h3, h4⟩ := h2 j hj
    rw [hu] at h3; cases h3; exact h4
  · cases h
theorem cell?_lt {w : World} {a : Addr} {u : Value} (h : w.cell? a = some u) : a.block < w.heap.size := by
  unfold World.cell? at h
  split at h
  · rename_i h1; exact (Array.getElem?_eq_some_iff.1 h1).1
  · cases h
section
variable {H : Type} {enc : TypeId × Value → H} {P : Program} {w : World} {base : Nat} {spare : Nat → Bool} {held : Bool}
theorem zCv {n fuel : Nat} (ih : ∀ {t : TypeId} {K : Kd} {cs : List Value} {d : DataW H} {ps : List MemPlace}, tyOK P n t K = true → P.cellsOf t = K.sz → DataW.trod enc P w base spare held fuel t cs = some (d, ps) → ∃ x : K.T, CRel w (fun b => b < w.heap.size) K x cs ∧ wfD K x) :
    ∀ {fs : List Field} {off : Nat} {K : Kd} {cs : List Value} {l : List (DataW H × List MemPlace)}, fldsOK P (tyOK P n) fs off K = true → cs.length = off + K.sz →
      (fs.mapM fun f => DataW.trod enc P w base spare held fuel f.type ((cs.drop f.offset).take (P.cellsOf f.type))) = some l → ∃ x : K.T, CRel w (fun b => b < w.heap.size) K x (cs.drop off) ∧ wfD K x
  | [], off, K, cs, l, ho, hl, h => by
    cases K with
    | unit => exact ⟨(), by simp only [CRel]; exact List.drop_eq_nil_of_le (by simp [Kd.sz] at hl; omega), trivial⟩
    | _ => simp [fldsOK] at ho
  | f :: fs, off, K, cs, l, ho, hl, h => by
    cases K with
    | pair a b =>
      simp only [fldsOK, Bool.and_eq_true] at ho
      obtain ⟨h1, h2, h3, h4⟩ := ho
      rw [List.mapM_cons] at h
      simp only [Option.bind_eq_bind, Option.bind_eq_some_iff, Option.pure_def, Option.some.injEq] at h
      obtain ⟨⟨d1, p1⟩, h5, l', h6, _⟩ := h
      rw [Nat.eq_of_beq_eq_true h1, Nat.eq_of_beq_eq_true h2] at h5
      obtain ⟨x, hx, wx⟩ := ih h3 (Nat.eq_of_beq_eq_true h2) h5
      simp only [Kd.sz] at hl
      obtain ⟨y, hy, wy⟩ := zCv ih h4 (by omega) h6
      refine ⟨(x, y), ?_, wx, wy⟩
      simp only [CRel]
      refine ⟨_, _, ?_, hx, hy⟩
      rw [← List.drop_drop]
      exact (List.take_append_drop a.sz (cs.drop off)).symm
    | _ => simp [fldsOK] at ho
theorem zrd : ∀ {n : Nat} {t : TypeId} {K : Kd} {fuel : Nat} {cs : List Value} {d : DataW H} {ps : List MemPlace}, tyOK P n t K = true → P.cellsOf t = K.sz → DataW.trod enc P w base spare held fuel t cs = some (d, ps) →
    ∃ x : K.T, CRel w (fun b => b < w.heap.size) K x cs ∧ wfD K x
  | 0, t, K, fuel, cs, d, ps, ho, hsz, h => by simp [tyOK] at ho
  | n + 1, t, K, 0, cs, d, ps, ho, hsz, h => by simp [DataW.trod] at h
  | n + 1, t, K, fuel + 1, cs, d, ps, ho, hsz, h => by
    have strct : ∀ {fs : Array Field}, P.underlying t = some (.struct fs) → fldsOK P (tyOK P n) fs.toList 0 K = true → ∃ x : K.T, CRel w (fun b => b < w.heap.size) K x cs ∧ wfD K x := by
      intro fs hu hf
      unfold DataW.trod at h
      simp only [hu] at h
      split at h
      · rename_i hl
        simp only [Option.map_eq_some_iff] at h
        obtain ⟨l, h1, _⟩ := h
        exact zCv (off := 0) (fun h2 h3 h4 => zrd h2 h3 h4) hf (by rw [hl, hsz]; omega) h1
      · cases h
    cases K with
    | int k =>
      simp only [tyOK] at ho
      split at ho
      · rename_i k' hu
        obtain rfl : k' = k := by simpa using ho
        obtain ⟨m, rfl, _, hw⟩ := DataW.trod_int hu h
        exact ⟨m, by simp [CRel], hw⟩
      · cases ho
    | bool =>
      simp only [tyOK] at ho
      split at ho
      · rename_i hu
        obtain ⟨b, rfl, _⟩ := DataW.trod_bool hu h
        exact ⟨b, by simp [CRel], trivial⟩
      · cases ho
    | unit =>
      simp only [tyOK] at ho
      split at ho
      · rename_i fs hu; exact strct hu ho
      · cases ho
    | pair a b =>
      simp only [tyOK] at ho
      split at ho
      · rename_i fs hu; exact strct hu ho
      · cases ho
    | list e =>
      simp only [tyOK] at ho
      split at ho
      · rename_i u hu
        simp only [Bool.and_eq_true] at ho
        obtain ⟨h1, h2, h3⟩ := ho
        have hes := Nat.eq_of_beq_eq_true h2
        have hpos : 0 < e.sz := by simpa [Nat.blt_eq] using h3
        rcases DataW.trod_slice hu h with ⟨rfl, _⟩ | ⟨ad, len, cap, elems, rest, m, _, rfl, _, _, hb1, hb2, hel, h6, _⟩
        · exact ⟨[], by simp only [CRel]; exact ⟨none, 0, rfl, Nat.le_refl _, fun h => by simp at h⟩, by simp [wfD]⟩
        · obtain ⟨xs, h7, h8⟩ := zCu (p := fun i (x : e.T) => ∃ es, CRel w (fun b => b < w.heap.size) e x es ∧ wfD e x ∧ ∀ (j : Nat) (u : Value), es[j]? = some u → w.cell? (ad.add (i * e.sz + j)) = some u) (n := len) (fun i hi => by
            have h8 := h6 i hi
            rw [List.getElem?_eq_getElem (by omega), Option.bind_eq_some_iff] at h8
            obtain ⟨es, h9, h10⟩ := h8
            obtain ⟨x, h11, h12⟩ := zrd h1 hes h10
            obtain ⟨_, h13⟩ := cells?_spec h9
            exact ⟨x, es, h11, h12, fun j v hj => by have := h13 j v hj; rw [add_add, hes] at this; exact this⟩)
          refine ⟨xs, ?_, by rw [h7]; omega, fun x hx => ?_⟩
          · simp only [CRel]
            refine ⟨some ad, cap, by rw [h7], by rw [h7]; exact hb1, fun h0 => ⟨ad, rfl, ?_, fun i x hx => ?_⟩⟩
            · obtain ⟨es, h9, _, h10⟩ := h8 0 xs[0] (List.getElem?_eq_getElem h0)
              have h11 := h9.length
              have h12 : 0 < es.length := by omega
              have := cell?_lt (h10 0 es[0] (List.getElem?_eq_getElem h12))
              rw [zhK] at this; exact this
            · obtain ⟨es, h9, _, h10⟩ := h8 i x hx
              exact ⟨es, h9, h10⟩
          · obtain ⟨i, hi⟩ := List.mem_iff_getElem?.1 hx
            obtain ⟨es, _, h9, _⟩ := h8 i x hi
            exact h9
      · cases ho
end
def Kd.flat : Kd → List Kd
  | .unit => []
  | .pair a b => a.flat ++ b.flat
  | K => [K]
def wfCs : (cs : List (Kd × Bool)) → CsT cs → Prop
  | [], _ => True
  | (K, _) :: r, x => wfD K x.1 ∧ wfCs r x.2
theorem zre {w : World} {B : Nat → Prop} {K : Kd} {x : K.T} {cs : List Value} (h1 : K.sz = 1) (h : CRel w B K x cs) (hw : wfD K x) (r : List (Kd × Bool)) (y : CsT r) (us : List Value) (hr : CsRel w B r y us) (hwr : wfCs r y) :
    ∃ z : CsT ((K, false) :: r), CsRel w B ((K, false) :: r) z (cs ++ us) ∧ wfCs ((K, false) :: r) z := by
  have hl := h.length
  rw [h1] at hl
  match cs, hl with
  | [u], _ => exact ⟨(x, y), by simp only [CsRel]; exact ⟨u, us, rfl, h, hr⟩, hw, hwr⟩
theorem zrf {w : World} {B : Nat → Prop} : ∀ {K : Kd} {x : K.T} {cs : List Value}, CRel w B K x cs → wfD K x → ∀ (r : List (Kd × Bool)) (y : CsT r) (us : List Value), CsRel w B r y us → wfCs r y →
    ∃ z : CsT (K.flat.map (·, false) ++ r), CsRel w B (K.flat.map (·, false) ++ r) z (cs ++ us) ∧ wfCs (K.flat.map (·, false) ++ r) z
  | .int k, x, cs, h, hw, r, y, us, hr, hwr => zre (K := .int k) rfl h hw r y us hr hwr
  | .bool, x, cs, h, hw, r, y, us, hr, hwr => zre (K := .bool) rfl h hw r y us hr hwr
  | .list e, x, cs, h, hw, r, y, us, hr, hwr => zre (K := .list e) rfl h hw r y us hr hwr
  | .unit, x, cs, h, hw, r, y, us, hr, hwr => by
    simp only [CRel] at h
    subst h
    exact ⟨y, hr, hwr⟩
  | .pair a b, x, cs, h, hw, r, y, us, hr, hwr => by
    simp only [CRel] at h
    obtain ⟨c1, c2, rfl, h1, h2⟩ := h
    obtain ⟨z1, hz1, wz1⟩ := zrf h2 hw.2 r y us hr hwr
    obtain ⟨z2, hz2, wz2⟩ := zrf h1 hw.1 _ z1 _ hz1 wz1
    have e : (Kd.pair a b).flat.map (·, false) ++ r = a.flat.map (·, false) ++ (b.flat.map (·, false) ++ r) := by simp only [Kd.flat, List.map_append, List.append_assoc]
    rw [e, List.append_assoc]
    exact ⟨z2, hz2, wz2⟩
section
variable {H : Type} {enc : TypeId × Value → H} {P : Program} {w : World} {base : Nat} {spare : Nat → Bool} {held : Bool}
theorem zCw {n : Nat} {t : TypeId} (K : Kd) {v : Value} {d : DataW H} {ps : List MemPlace} (ho : tyOK P n t K = true) (hsz : P.cellsOf t = K.sz) (h : DataW.Trod enc P w base spare held t v d ps) {cs : List (Kd × Bool)} (hcs : K.flat.map (·, false) ++ [] = cs) :
    ∃ z : CsT cs, CsRel w (fun b => b < w.heap.size ∧ ¬ False) cs z v.cells.toList ∧ wfCs cs z := by
  obtain ⟨m, hm⟩ := h
  obtain ⟨x, hx, hw⟩ := zrd ho hsz hm
  subst hcs
  have := zrf (CRel.mono (B' := fun b => b < w.heap.size ∧ ¬ False) (fun b hb => ⟨hb, id⟩) (fun _ _ => rfl) hx) hw [] () [] rfl trivial
  simpa using this
end
@[reducible] def boolRs : List Pm := [{ cs := [(Kd.bool, false)], ag := false }]
theorem zCx {P : Program} {f : FuncId} {ps : List Pm} {fl : Bool} {fn : PsT ps → Option (PsT boolRs)} (h : FnSpec P f ⟨ps, boolRs, fl, fn⟩) {w : World} {vs : List Value} {x : PsT ps} {b : Bool}
    (hps : PsRel w (fun b => b < w.heap.size ∧ ¬ False) ps x vs) (hfn : fn x = some ((b, ()), ())) :
    Calls P f vs.toArray w fun e w' => e = .returned (.bool b) ∧ Below w.heap.size w w' := by
  refine Calls.mono (h w (fun _ => False) vs x _ (fun _ h => h.elim) hps hfn) fun e w' he => ?_
  obtain ⟨us, tk, rfl, h1, h2, h3, h4, h5, _, _, h6⟩ := he
  refine ⟨?_, ⟨h1, h2, h3, h4, h5⟩⟩
  simp only [boolRs, PsOut, CsOut] at h6
  obtain ⟨v, vs', t1, t2, e1, _, ⟨u, us', e2, h7, h8, _⟩, h9, _⟩ := h6
  simp only [CRel] at h7
  simp at h7 e2
  obtain ⟨rfl, rfl⟩ := e2
  subst h7; subst h9
  have : us = #[.bool b] := Array.toList_inj.1 (by simpa using e1)
  subst this
  simp [resU]
end Go.Proofs.YtdgdoeknpakmlaaGreat.Den
