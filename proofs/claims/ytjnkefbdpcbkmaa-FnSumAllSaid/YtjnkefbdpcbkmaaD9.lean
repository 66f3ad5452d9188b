/- One operation: append, slice literals, make. -/
import Derived.Test.YtjnkefbdpcbkmaaD8
namespace Go.Proofs.Ytjnkefbdpcbkmaa.Den
open Go Go.RowKit
set_option linter.unusedVariables false
set_option linter.unusedSimpArgs false

section
variable {P : Program} {o : Oper} {a : Act} {m : Bool} {ρ : Map} {H H' : Heap} {w w' : World} {τ : Env} {N : Nat} {T : Tab} {v : SV}

theorem hrel_reborn (h : HRel ρ H w) {rs : List Nat} {m : Img} {x : Blk} (hu : ρ H.length = .unborn) (hs : Step ρ w ((ρ.kill rs).put H.length m) w')
    (hheap : ∀ β b o n sz, β ∉ rs → ρ β = .at b o n sz → w'.heap[b]? = w.heap[b]?)
    (hm : (m = .none_ ∧ ((∃ K t, x = .arr K [] t) ∨ ∃ t z, x = .cells [] t z)) ∨ ∃ b o n sz, m = .at b o n sz ∧ b < w'.heap.size ∧ ¬ ρ.res b ∧ (∀ γ o' n' sz', γ ∉ rs → ρ γ ≠ .at b o' n' sz') ∧ BRel ((ρ.kill rs).put H.length m) w' b o n sz x) :
    HRel ((ρ.kill rs).put H.length m) (kill rs H ++ [x]) w' := by
  have hk := h.kill rs
  have hlen : (kill rs H).length = H.length := kill_length rs H
  have old : ∀ {β b o n sz}, β ≠ H.length → ((ρ.kill rs).put H.length m) β = .at b o n sz → β ∉ rs ∧ ρ β = .at b o n sz := by
    intro β b o n sz e hr
    rw [Map.put_other _ _ e] at hr
    simp only [Map.kill] at hr
    split at hr
    · cases hr
    · rename_i hn; exact ⟨fun hβ => hn ⟨hβ, by rw [hr]; rfl⟩, hr⟩
  constructor
  · intro β hl hr
    by_cases e : β = H.length
    · subst e; rw [Map.put_same] at hr
      rcases hm with ⟨rfl, _⟩ | ⟨_, _, _, _, rfl, _⟩ <;> cases hr
    · rw [Map.put_other _ _ e] at hr
      have hl' : β < (kill rs H).length := by simp at hl; omega
      rw [List.getElem?_append_left hl']; exact hk.dead β hl' hr
  · intro β hl hr
    by_cases e : β = H.length
    · subst e; rw [Map.put_same] at hr
      rcases hm with ⟨rfl, h1⟩ | ⟨_, _, _, _, rfl, _⟩
      · rcases h1 with ⟨K, t, rfl⟩ | ⟨t, z, rfl⟩
        · exact .inl ⟨K, t, by rw [← hlen]; simp⟩
        · exact .inr ⟨t, z, by rw [← hlen]; simp⟩
      · cases hr
    · rw [Map.put_other _ _ e] at hr
      have hl' : β < (kill rs H).length := by simp at hl; omega
      rw [List.getElem?_append_left hl']; exact hk.none_ β hl' hr
  · intro β hl b o n' sz' hr
    by_cases e : β = H.length
    · subst e; rw [Map.put_same] at hr
      rcases hm with ⟨rfl, _⟩ | ⟨_, _, _, _, rfl, _, _, _, hx⟩
      · cases hr
      · injection hr with h1 h2 h3 h4
        subst h1; subst h2; subst h3; subst h4
        exact ⟨x, by rw [← hlen]; simp, hx⟩
    · obtain ⟨hn, hr'⟩ := old e hr
      have hl' : β < (kill rs H).length := by simp at hl; omega
      obtain ⟨y, h1, h2⟩ := h.at_ β (by omega) _ _ _ _ hr'
      exact ⟨y, by rw [List.getElem?_append_left hl', kill_get, if_neg (fun h => hn h.1)]; exact h1, h2.keep hs (hheap _ _ _ _ _ hn hr')⟩
  · intro β γ b o n1 sz1 o' n2 sz2 h1 h2
    by_cases e : β = H.length <;> by_cases e2 : γ = H.length
    · omega
    · subst e; rw [Map.put_same] at h1
      obtain ⟨hn, hr⟩ := old e2 h2
      rcases hm with ⟨rfl, _⟩ | ⟨_, _, _, _, rfl, _, _, hno, _⟩
      · cases h1
      · injection h1 with h1; subst h1; exact absurd hr (hno _ _ _ _ hn)
    · subst e2; rw [Map.put_same] at h2
      obtain ⟨hn, hr⟩ := old e h1
      rcases hm with ⟨rfl, _⟩ | ⟨_, _, _, _, rfl, _, _, hno, _⟩
      · cases h2
      · injection h2 with h2; subst h2; exact absurd hr (hno _ _ _ _ hn)
    · exact h.inj _ _ _ _ _ _ _ _ _ (old e h1).2 (old e2 h2).2
  · intro β b o n' sz' hr
    by_cases e : β = H.length
    · subst e; rw [Map.put_same] at hr
      rcases hm with ⟨rfl, _⟩ | ⟨_, _, _, _, rfl, hb, _⟩
      · cases hr
      · injection hr with h1; omega
    · have := h.lt _ _ _ _ _ (old e hr).2
      have := hs.size
      omega
  · intro b hb; have := h.resl b hb; have := hs.size; omega
  · intro β b o n' sz' hr hb
    by_cases e : β = H.length
    · subst e; rw [Map.put_same] at hr
      rcases hm with ⟨rfl, _⟩ | ⟨_, _, _, _, rfl, _, hb', _⟩
      · cases hr
      · injection hr with h1; subst h1; exact hb' hb
    · exact h.resf _ _ _ _ _ (old e hr).2 hb

theorem good_reborn (h : HRel ρ H w) {rs : List Nat} {m : Img} {x : Blk} {u : Value} (hu : ρ H.length = .unborn) (hs : Step ρ w ((ρ.kill rs).put H.length m) w')
    (hheap : ∀ β b o n sz, β ∉ rs → ρ β = .at b o n sz → w'.heap[b]? = w.heap[b]?)
    (hm : (m = .none_ ∧ ((∃ K t, x = .arr K [] t) ∨ ∃ t z, x = .cells [] t z)) ∨ ∃ b o n sz, m = .at b o n sz ∧ b < w'.heap.size ∧ ¬ ρ.res b ∧ (∀ γ o' n' sz', γ ∉ rs → ρ γ ≠ .at b o' n' sz') ∧ BRel ((ρ.kill rs).put H.length m) w' b o n sz x)
    {mo : Bool} (hmo : mo = true → rs = [] ∧ ∀ b, b < w.heap.size → w'.heap[b]? = w.heap[b]?)
    (hv : VRel ((ρ.kill rs).put H.length m) w' v u) : Good mo ρ H w v (kill rs H ++ [x]) u w' ((ρ.kill rs).put H.length m) where
  step := hs
  hrel := hrel_reborn h hu hs hheap hm
  vrel := hv
  len := by simp [kill_length]
  unb β h1 h2 := by
    have : β ≠ H.length := by rintro rfl; simp [kill_length] at h2; omega
    rw [Map.put_other _ _ this]; exact kill_reborn h1
  mono h := by
    obtain ⟨rfl, hw⟩ := hmo h
    refine ⟨⟨[x], rfl⟩, fun β h2 => ?_, hw⟩
    have : β ≠ H.length := by rintro rfl; simp [kill_length] at h2; omega
    rw [Map.put_other _ _ this]; simp [Map.kill]

theorem Step.realloc {rs : List Nat} (C : Array Value) (t : TypeId) (n sz : Nat) (hu : ρ H.length = .unborn) :
    Step ρ w ((ρ.kill rs).put H.length (.at w.heap.size 0 n sz)) (w.drew.alloc (.cells C t (0, 0))) :=
  ((Step.kill rs).trans Step.drew).trans (Step.alloc (w := w.drew) H.length C t n sz (kill_reborn hu))

theorem Step.inplace {rs : List Nat} {β b o n sz : Nat} {C C' : Array Value} {t : TypeId} (o' n' sz' : Nat) (hr : ρ β = .at b o n sz) (hu : ρ H.length = .unborn) (hb : w.heap[b]? = some (.cells C t (0, 0))) (hs : C'.size = C.size) :
    Step ρ w ((ρ.kill rs).put H.length (.at b o' n' sz')) (w.setRow b C') := by
  have h1 := Step.setRow hr hb hs
  exact {
    os := rfl, tape := rfl, output := rfl
    size := h1.size
    kept := h1.kept
    shape := h1.shape
    img := fun γ b1 o1 n1 sz1 hg => by
      by_cases e : γ = H.length
      · subst e; rw [Map.put_same] at hg; injection hg with h2; subst h2; exact .inl ⟨β, o, n, sz, hr⟩
      · rw [Map.put_other _ _ e] at hg
        simp only [Map.kill] at hg
        split at hg
        · cases hg
        · exact .inl ⟨γ, o1, n1, sz1, hg⟩
    ref := fun γ hg => by
      have e : γ ≠ H.length := by rintro rfl; exact hg hu
      rw [Map.put_other _ _ e]
      simp only [Map.kill]
      split
      · exact .inr rfl
      · exact .inl rfl
    res := rfl }

/-! ### rows of data in memory -/
def RowsAt (w : World) (B : Nat → Prop) (K : Kd) (ys : List K.T) (ad : Addr) : Prop :=
  ∀ (i : Nat) (y : K.T), ys[i]? = some y → ∃ es, CRel w B K y es ∧ ∀ (j : Nat) (u : Value), es[j]? = some u → w.cell? (ad.add (i * K.sz + j)) = some u
def RowL (w : World) (B : Nat → Prop) (K : Kd) (ys : List K.T) (cs : List Value) : Prop :=
  ∀ (i : Nat) (y : K.T), ys[i]? = some y → ∃ es, CRel w B K y es ∧ ∀ (j : Nat) (u : Value), es[j]? = some u → cs[i * K.sz + j]? = some u

theorem flat_of {B : Nat → Prop} {K : Kd} : ∀ {ys : List K.T} {ad : Addr}, RowsAt w B K ys ad →
    ∃ cs : List Value, cs.length = ys.length * K.sz ∧ (∀ j u, cs[j]? = some u → w.cell? (ad.add j) = some u) ∧ (∀ u ∈ cs, u.oneCell' = true) ∧ RowL w B K ys cs
  | [], ad, _ => ⟨[], by simp, by simp, by simp, fun i y h => by simp at h⟩
  | y :: ys, ad, h => by
    obtain ⟨es, h1, h2⟩ := h 0 y rfl
    have ht : RowsAt w B K ys (ad.add K.sz) := fun i z hz => by
      obtain ⟨es', h3, h4⟩ := h (i + 1) z (by simpa using hz)
      exact ⟨es', h3, fun j u hu => by rw [add_add, ← h4 j u hu]; congr 2; rw [Nat.add_mul]; omega⟩
    obtain ⟨cs, h3, h4, h5, h6⟩ := flat_of ht
    have hl := h1.length
    refine ⟨es ++ cs, by simp [h3, hl, Nat.add_mul]; omega, fun j u hu => ?_, fun u hu => ?_, fun i z hz => ?_⟩
    · rw [List.getElem?_append] at hu
      split at hu
      · have := h2 j u hu; simpa using this
      · have := h4 _ u hu; rw [add_add] at this; rw [← this]; congr 2; omega
    · rcases List.mem_append.1 hu with h7 | h7
      · exact crel_one h1 u h7
      · exact h5 u h7
    · cases i with
      | zero =>
        simp at hz; subst hz
        exact ⟨es, h1, fun j u hu => by
          have : j < es.length := (List.getElem?_eq_some_iff.1 hu).1
          rw [Nat.zero_mul, Nat.zero_add, List.getElem?_append_left this]; exact hu⟩
      | succ i =>
        obtain ⟨es', h7, h8⟩ := h6 i z (by simpa using hz)
        refine ⟨es', h7, fun j u hu => ?_⟩
        rw [List.getElem?_append_right (by rw [hl, Nat.add_mul]; omega), ← h8 j u hu]
        congr 1; rw [hl, Nat.add_mul]; omega

theorem RowL.append {B : Nat → Prop} {K : Kd} {xs ys : List K.T} {cs ds : List Value} (h1 : RowL w B K xs cs) (hl : cs.length = xs.length * K.sz) (h2 : RowL w B K ys ds) : RowL w B K (xs ++ ys) (cs ++ ds) := by
  intro i y hy
  rw [List.getElem?_append] at hy
  split at hy
  · rename_i hi
    obtain ⟨es, h3, h4⟩ := h1 i y hy
    refine ⟨es, h3, fun j u hu => ?_⟩
    have := h4 j u hu
    rw [List.getElem?_append_left (List.getElem?_eq_some_iff.1 this).1]; exact this
  · rename_i hi
    obtain ⟨es, h3, h4⟩ := h2 _ y hy
    refine ⟨es, h3, fun j u hu => ?_⟩
    have hle : xs.length * K.sz ≤ i * K.sz := Nat.mul_le_mul_right _ (by omega)
    rw [List.getElem?_append_right (by omega), ← h4 j u hu]
    congr 1
    rw [hl, Nat.sub_mul]; omega

theorem RowL.rel {B : Nat → Prop} {K : Kd} {xs : List K.T} {cs : List Value} {C : Array Value} {o : Nat} (h : RowL w B K xs cs) (hc : ∀ j u, cs[j]? = some u → C[o + j]? = some u) : RowRel w B K xs C o := by
  intro i x hx
  obtain ⟨es, h1, h2⟩ := h i x hx
  exact ⟨es, h1, fun j u hu => by rw [Nat.add_assoc]; exact hc _ u (h2 j u hu)⟩

theorem RowL.mono {B B' : Nat → Prop} {K : Kd} {xs : List K.T} {cs : List Value} (hB : ∀ b, B b → B' b) (hw : ∀ b, B b → w'.heap[b]? = w.heap[b]?) (h : RowL w B K xs cs) : RowL w' B' K xs cs := by
  intro i x hx
  obtain ⟨es, h1, h2⟩ := h i x hx
  exact ⟨es, CRel.mono hB hw h1, h2⟩

/-- What a slice of data holds; where it lies, if it lies in a block of the frame's own. -/
theorem content_rel (hH : HRel ρ H w) {x : SV} {u : Value} {K : Kd} {ys : List K.T} (h : decH false H (.list K) [x] = some ys) (hv : VRel ρ w x u) :
    ∃ ad c, u = .slice ad ys.length c ∧ ys.length ≤ c ∧ (0 < ys.length → ∃ a', ad = some a' ∧ RowsAt w (Free ρ w) K ys a') ∧
      ((x = .nils ∨ (∃ β, x = .own β) ∨ ∃ β o l, x = .sub β o l) → (ys = [] ∧ c = 0 ∧ ∀ β ∈ x.refs, β < H.length) ∨ ∃ β b o0 n0 o1, x.refs = [β] ∧ β < H.length ∧ ρ β = .at b o0 n0 K.sz ∧ ad = some ⟨b, o1, none⟩ ∧ Room w b (o1 + c * K.sz)) := by
  unfold decH at h
  split at h
  · rename_i e' xs heq
    simp at heq; subst heq
    split at h
    · rename_i he
      subst he
      simp at h; subst h
      simp only [VRel, CRel] at hv
      obtain ⟨ad, c, e1, hc, hx⟩ := hv
      simp at e1
      exact ⟨ad, c, e1, hc, fun h0 => by
        obtain ⟨a', e2, _, h3⟩ := hx h0
        exact ⟨a', e2, h3⟩, fun h => by simp at h⟩
    · simp at h
  · rename_i heq
    simp at heq; subst heq
    simp at h; subst h
    simp only [VRel] at hv
    obtain ⟨ad, rfl⟩ := hv
    exact ⟨ad, 0, rfl, Nat.le_refl _, fun h => by simp at h, fun _ => .inl ⟨rfl, rfl, by simp [SV.refs]⟩⟩
  · rename_i β heq
    simp at heq; subst heq
    split at h
    · rename_i e' xs t hb
      have hlt : β < H.length := (List.getElem?_eq_some_iff.1 hb).1
      split at h
      · rename_i he
        subst he
        simp at h; subst h
        rcases own_rel hH hb (by simp) hv with ⟨hr, ad, rfl⟩ | ⟨b, o, n, sz, c, hr, hc, rfl, hroom⟩
        · have := none_arr hH hb hr; subst this
          exact ⟨ad, 0, rfl, Nat.le_refl _, fun h => by simp at h, fun _ => .inl ⟨rfl, rfl, by simp [SV.refs, hlt]⟩⟩
        · obtain ⟨rfl, rfl, C, tC, hC, _, hrow⟩ := row_raw hH hb hr
          refine ⟨_, c, rfl, hc, fun _ => ⟨_, rfl, fun i y hy => ?_⟩, fun _ => .inr ⟨β, b, o, _, o, by simp [SV.refs], hlt, hr, rfl, hroom⟩⟩
          obtain ⟨es, h1, h2⟩ := hrow i y hy
          exact ⟨es, h1, fun j u hu => by rw [add_plain, cell_of_heap hC, ← Nat.add_assoc]; exact h2 j u hu⟩
      · simp at h
    · rename_i ds t z hb
      have hlt : β < H.length := (List.getElem?_eq_some_iff.1 hb).1
      split at h
      · rename_i hz
        obtain ⟨rfl, hz0⟩ := hz
        simp only [cond] at h
        rcases own_rel hH hb (by simp) hv with ⟨hr, ad, rfl⟩ | ⟨b, o, n, sz, c, hr, hc, rfl, hroom⟩
        · have := none_cells hH hb hr; subst this
          simp [decRows] at h; subst h
          exact ⟨ad, 0, rfl, Nat.le_refl _, fun h => by simp at h, fun _ => .inl ⟨rfl, rfl, by simp [SV.refs, hlt]⟩⟩
        · obtain ⟨C, tC, hC, hsz, hn, hle, hcs, hm⟩ := cells_of hH hb hr
          subst hsz
          have hrows := decRows_rel (fun cs x vs h1 h2 => decC_rel h1 h2) K.sz _ _ _ _ h hcs
          have hn' : ds.length / K.sz = n := by rw [hn]; exact Nat.mul_div_cancel _ (by omega)
          rw [hn'] at hrows
          refine ⟨_, c, by rw [hrows.1], by rw [hrows.1]; exact hc, fun _ => ⟨_, rfl, fun i y hy => ?_⟩, fun _ => .inr ⟨β, b, o, n, o, by simp [SV.refs], hlt, hr, rfl, hroom⟩⟩
          refine ⟨_, hrows.2 i y hy, fun j u hu => ?_⟩
          rw [List.getElem?_take] at hu
          split at hu
          · rw [List.getElem?_drop] at hu
            have := hm _ u hu
            exact this
          · simp at hu
      · simp at h
    · simp at h
  · rename_i β off len heq
    simp at heq; subst heq
    split at h
    · rename_i e' xs t hb
      have hlt : β < H.length := (List.getElem?_eq_some_iff.1 hb).1
      split at h
      · rename_i he
        subst he
        simp at h; subst h
        simp only [VRel] at hv
        rcases hr : ρ β with _ | _ | _ | ⟨b, o, n, sz⟩ <;> rw [hr] at hv <;> simp only at hv
        · exact absurd hr (live_of hH hb (by simp))
        · obtain ⟨rfl, ad, rfl⟩ := hv
          exact ⟨ad, 0, by simp, by simp, fun h => by simp at h, fun _ => .inl ⟨by simp, rfl, by simp [SV.refs, hlt]⟩⟩
        · obtain ⟨hn, ad, c, rfl, hc, ha⟩ := hv
          obtain ⟨rfl, rfl, C, tC, hC, _, hrow⟩ := row_raw hH hb hr
          have hl : ((xs.drop off).take len).length = len := by simp; omega
          refine ⟨ad, c, by rw [hl], by rw [hl]; exact hc, fun h0 => ?_, fun _ => ?_⟩
          · rcases ha with ⟨h3, _⟩ | ⟨rfl, _⟩
            · rw [hl] at h0; omega
            · refine ⟨_, rfl, fun i y hy => ?_⟩
              rw [List.getElem?_take] at hy
              split at hy
              · rw [List.getElem?_drop] at hy
                obtain ⟨es, h3, h4⟩ := hrow _ y hy
                refine ⟨es, h3, fun j u hu => ?_⟩
                rw [add_plain, cell_of_heap hC, ← h4 j u hu]
                congr 1; rw [Nat.add_mul]; omega
              · simp at hy
          · rcases ha with ⟨rfl, rfl⟩ | ⟨rfl, hroom⟩
            · exact .inl ⟨by simp, rfl, by simp [SV.refs, hlt]⟩
            · exact .inr ⟨β, b, o, _, _, by simp [SV.refs], hlt, hr, rfl, hroom⟩
      · simp at h
    · simp at h
  · simp at h

/-! ### append -/
theorem cellsN {e : TypeId} {i : TypeInfo} {z : Value} (hi : P.info? e = some i) (hz : i.zero = some z) (w : World) : (zeroValue e).run P w = .ok z w := by simp [zeroValue, typeInfo, hi, hz]

theorem firstCells_any {sz n cx : Nat} {ax : Option Addr} {news : List Value} (hl : news.length = n * sz) (hn : 0 < n → ∃ ad, ax = some ad ∧ ∀ j u, news[j]? = some u → w.cell? (ad.add j) = some u) :
    (Builtin.firstCells sz n (.slice ax n cx)).run P w = .ok news.toArray w := by
  rcases Nat.eq_zero_or_pos n with h0 | h0
  · subst h0
    have : news = [] := List.eq_nil_of_length_eq_zero (by simpa using hl)
    subst this
    cases ax with
    | none => exact run_firstCells_none w _ _ _ _
    | some ad => exact run_firstCells_some w _ _ _ _ _ [] (by simp) (by simp)
  · obtain ⟨ad, rfl, h⟩ := hn h0
    exact run_firstCells_some w _ _ _ _ _ news hl h

theorem run_append_fit {t ty e : TypeId} {i : TypeInfo} {b o' n c m cx : Nat} {ax : Option Addr} {news : List Value} {C : Array Value} {t' : TypeId} (ht : P.underlying t = some (.slice e)) (hi : P.info? e = some i)
    (hC : w.heap[b]? = some (.cells C t' (0, 0))) (hroom : o' + c * i.size ≤ C.size) (hfit : n + m ≤ c) (hl : news.length = m * i.size)
    (hn : 0 < m → ∃ ad, ax = some ad ∧ ∀ j u, news[j]? = some u → w.cell? (ad.add j) = some u) (h1 : ∀ u ∈ news, u.oneCell' = true) :
    (Builtin.append_ #[t, t] ty #[.slice (some ⟨b, o', none⟩) n c, .slice ax m cx]).run P w =
      .ok (.slice (some ⟨b, o', none⟩) (n + m) c) (w.setRow b (C.toList.take (o' + n * i.size) ++ news ++ C.toList.drop (o' + n * i.size + news.length)).toArray) := by
  have hf := firstCells_any (P := P) (w := w) (cx := cx) hl hn
  have hle : (n + m) * i.size ≤ c * i.size := Nat.mul_le_mul_right _ hfit
  rw [Nat.add_mul] at hle
  have hs := run_storeCells_at (P := P) b (o' + n * i.size) t' news 0 C w hC (by omega) h1
  simp only [Nat.add_zero] at hs
  simp [Builtin.append_, run_underlying ht, sizeOf, typeInfo, hi, Builtin.lenOf, hfit, hf, add_plain, hs]

theorem run_append_none {t ty e : TypeId} {i : TypeInfo} {as ax : Option Addr} {cx : Nat} (ht : P.underlying t = some (.slice e)) (hi : P.info? e = some i) :
    (Builtin.append_ #[t, t] ty #[.slice as 0 0, .slice ax 0 cx]).run P w = .ok (.slice as 0 0) w := by
  have hf := firstCells_any (P := P) (w := w) (sz := i.size) (n := 0) (cx := cx) (ax := ax) (news := []) (by simp) (by simp)
  cases as with
  | none => simp [Builtin.append_, run_underlying ht, sizeOf, typeInfo, hi, Builtin.lenOf, hf]
  | some ad => simp [Builtin.append_, run_underlying ht, sizeOf, typeInfo, hi, Builtin.lenOf, hf, storeCells]

theorem run_append_new {t ty e : TypeId} {i : TypeInfo} {z : Value} {as ax : Option Addr} {n c m cx : Nat} {olds news : List Value} (ht : P.underlying t = some (.slice e)) (hi : P.info? e = some i) (hz : i.zero = some z) (hzs : z.cells.size = i.size)
    (hlo : olds.length = n * i.size) (ho : 0 < n → ∃ ad, as = some ad ∧ ∀ j u, olds[j]? = some u → w.cell? (ad.add j) = some u)
    (hl : news.length = m * i.size) (hn : 0 < m → ∃ ad, ax = some ad ∧ ∀ j u, news[j]? = some u → w.cell? (ad.add j) = some u)
    (hg : c < n + m) (hlim : n + m < LIM) (hb : i.bytes ≤ 32768) :
    ∃ (cap : Nat) (C : Array Value), n + m ≤ cap ∧ C.size = cap * i.size ∧ (∀ (j : Nat) (u : Value), (olds ++ news)[j]? = some u → C[j]? = some u) ∧
      (Builtin.append_ #[t, t] ty #[.slice as n c, .slice ax m cx]).run P w = .ok (.slice (some ⟨w.heap.size, 0, none⟩) (n + m) cap) (w.drew.alloc (.cells C e (0, 0))) := by
  have hf := firstCells_any (P := P) (w := w.drew) (cx := cx) hl (by simpa using hn)
  have hfo := firstCells_any (P := P) (w := w.drew) (cx := c) hlo (by simpa using ho)
  have hnn : ¬ (n + m ≤ c) := by omega
  have hcap : n + m ≤ grownCap w (n + m) c e := by unfold grownCap Question.cut; simp
  have h63 : ¬ (9223372036854775807 < ((n : Int) + (m : Int))) := by simp only [LIM] at hlim; omega
  have h48 : ¬ (281474976710656 < Builtin.nextslicecap (n + m) c * i.bytes) := by
    have h1 := nextslicecap_le hg
    have h2 : Builtin.nextslicecap (n + m) c * i.bytes ≤ (2 * (n + m)) * 32768 := Nat.mul_le_mul h1 hb
    simp only [LIM] at hlim
    omega
  refine ⟨grownCap w (n + m) c e, olds.toArray ++ news.toArray ++ Builtin.zeroCells z.cells (grownCap w (n + m) c e - (n + m)), hcap, ?_, ?_, ?_⟩
  · simp [Builtin.zeroCells, hlo, hl, hzs, ← Nat.add_mul]
    congr 1; omega
  · intro j u hu
    rw [Array.getElem?_append_left (by have := (List.getElem?_eq_some_iff.1 hu).1; simpa using this)]
    simpa using hu
  · simp [Builtin.append_, run_underlying ht, sizeOf, typeInfo, zeroValue, hi, hz, Builtin.lenOf, hnn, h63, h48, Question.forced, hf, hfo, newRow, grownCap]
    congr 2
    apply Array.ext'
    simp [List.append_assoc]

/-- The frame of an append: what was there, what is added, where. -/
theorem app_core {t ty e : TypeId} {sz by_ : Nat} {zs : List SV} {rs : List Nat} {as ax : Option Addr} {n c m cx : Nat} {olds news : List Value} {x : Blk} (ht : P.underlying t = some (.slice e)) (hz : tinfo P e = some (sz, zs, by_)) (hb : by_ ≤ 32768)
    (hH : HRel ρ H w) (hu : ρ H.length = .unborn) (hlim : n + m < LIM) (hnc : n ≤ c)
    (hlo : olds.length = n * sz) (ho : 0 < n → ∃ ad, as = some ad ∧ ∀ (j : Nat) (u : Value), olds[j]? = some u → w.cell? (ad.add j) = some u)
    (hl : news.length = m * sz) (hn : 0 < m → ∃ ad, ax = some ad ∧ ∀ (j : Nat) (u : Value), news[j]? = some u → w.cell? (ad.add j) = some u) (h1 : ∀ u ∈ news, u.oneCell' = true)
    (hs : (n = 0 ∧ c = 0) ∨ ∃ β b o0 n0 o1, rs = [β] ∧ ρ β = .at b o0 n0 sz ∧ as = some ⟨b, o1, none⟩ ∧ Room w b (o1 + c * sz))
    (h0 : n = 0 → m = 0 → (∃ K t, x = .arr K [] t) ∨ ∃ t z, x = .cells [] t z) {mo : Bool} (hmo : mo = true → rs = [])
    (hx : ∀ (ρ' : Map) (w' : World) (b o1 : Nat) (C : Array Value) (tC : TypeId), Step ρ w ρ' w' → w'.heap[b]? = some (.cells C tC (0, 0)) → o1 + (n + m) * sz ≤ C.size → (∀ (j : Nat) (u : Value), (olds ++ news)[j]? = some u → C[o1 + j]? = some u) →
      BRel ρ' w' b o1 (n + m) sz x) :
    ∃ u w' ρ', (Builtin.append_ #[t, t] ty #[.slice as n c, .slice ax m cx]).run P w = .ok u w' ∧ Good mo ρ H w (.own H.length) (kill rs H ++ [x]) u w' ρ' := by
  obtain ⟨i, z, hi, hzz, rfl, rfl, hsv, hzl⟩ := tinfo_spec hz
  have hzs : z.cells.size = i.size := by
    have := (svsOf_rel (ρ := ρ) (w := w) hsv).length
    simp only [Array.length_toList] at this; omega
  by_cases hfit : n + m ≤ c
  · rcases hs with ⟨rfl, rfl⟩ | ⟨β, b, o0, n0, o1, rfl, hr, rfl, C, tC, hC, hroom⟩
    · obtain rfl : m = 0 := by omega
      refine ⟨_, w, (ρ.kill rs).put H.length .none_, run_append_none ht hi, good_reborn hH hu ((Step.kill rs).trans (Step.ghost _ _ (by simp) (kill_reborn hu))) (fun _ _ _ _ _ _ _ => rfl) (.inl ⟨rfl, h0 rfl rfl⟩) (fun h => ⟨hmo h, fun _ _ => rfl⟩) ?_⟩
      simp only [VRel, Map.put_same]
      exact ⟨_, rfl⟩
    · have hmul : (n + m) * i.size ≤ c * i.size := Nat.mul_le_mul_right _ hfit
      have hmul' := hmul
      rw [Nat.add_mul] at hmul'
      have hlast : (C.toList.take (o1 + n * i.size) ++ news ++ C.toList.drop (o1 + n * i.size + news.length)).toArray.size = C.size := by
        simp; omega
      have hst := Step.inplace (rs := [β]) o1 (n + m) i.size hr hu hC hlast
      refine ⟨_, w.setRow b _, _, run_append_fit ht hi hC hroom hfit hl hn h1, good_reborn hH hu hst (fun γ b' o' n' sz' hγ hr' => ?_) (.inr ⟨b, o1, n + m, i.size, rfl, ?_, hH.resf _ _ _ _ _ hr, fun γ o' n' sz' hγ hr' => ?_, ?_⟩) (fun h => by have := hmo h; simp at this) ?_⟩
      · have : b ≠ b' := by
          rintro rfl
          have := hH.inj _ _ _ _ _ _ _ _ _ hr hr'
          subst this; simp at hγ
        simp only [World.setRow]; rw [Array.getElem?_modify, if_neg this]
      · have := hH.lt _ _ _ _ _ hr; simpa [World.setRow] using this
      · have := hH.inj _ _ _ _ _ _ _ _ _ hr hr'
        subst this; simp at hγ
      · refine hx _ _ b o1 _ tC hst (setRow_heap w b C _ tC _ hC) (by rw [hlast]; omega) fun j u hj => ?_
        rw [List.getElem?_toArray, take_drop_get _ _ _ _ (by simp; omega)]
        rw [List.getElem?_append] at hj
        split at hj
        · rename_i hjl
          rw [if_neg (by omega), Array.getElem?_toList]
          have hn0 : 0 < n := by
            rcases Nat.eq_zero_or_pos n with h | h
            · subst h; omega
            · exact h
          obtain ⟨ad, e1, h3⟩ := ho hn0
          simp at e1; subst e1
          have := h3 j u hj
          rw [add_plain, cell_of_heap hC] at this; exact this
        · rename_i hjl
          have := (List.getElem?_eq_some_iff.1 hj).1
          rw [if_pos (by omega), ← hj]; congr 1; omega
      · simp only [VRel, Map.put_same]
        exact ⟨c, hfit, rfl, _, tC, setRow_heap w b C _ tC _ hC, by rw [hlast]; exact hroom⟩
  · obtain ⟨cap, C, hcap, hCs, hCc, hrun⟩ := run_append_new (P := P) (ty := ty) (cx := cx) (c := c) ht hi hzz hzs hlo ho hl hn (show c < n + m by omega) hlim hb
    have hst := Step.realloc (ρ := ρ) (w := w) (rs := rs) C e (n + m) i.size hu
    have hmul : (n + m) * i.size ≤ cap * i.size := Nat.mul_le_mul_right _ hcap
    have hnew : (w.drew.alloc (.cells C e (0, 0))).heap[w.heap.size]? = some (.cells C e (0, 0)) := heap_alloc_new w.drew _
    refine ⟨_, _, _, hrun, good_reborn hH hu hst (fun γ b' o' n' sz' hγ hr' => ?_) (.inr ⟨w.heap.size, 0, n + m, i.size, rfl, by simp, fun h => ?_, fun γ o' n' sz' hγ hr' => ?_, ?_⟩) (fun h => ⟨hmo h, fun b hb => by simp only [World.alloc]; rw [Array.getElem?_push, if_neg (by simp; omega)]; rfl⟩) ?_⟩
    · have := hH.lt _ _ _ _ _ hr'
      simp only [World.alloc]; rw [Array.getElem?_push, if_neg (by simp; omega)]; rfl
    · have := hH.resl _ h; omega
    · have := hH.lt _ _ _ _ _ hr'; omega
    · exact hx _ _ _ 0 C e hst hnew (by omega) (fun j u hj => by rw [Nat.zero_add]; exact hCc j u hj)
    · simp only [VRel, Map.put_same]
      exact ⟨cap, hcap, rfl, C, e, hnew, by omega⟩

theorem cellsOfRow_rel (hH : HRel ρ H w) {sz : Nat} {x : SV} {u : Value} {cs : List SV} (hz : sz ≠ 0) (h : cellsOfRow H sz x = some cs) (hv : VRel ρ w x u) :
    ∃ ad n c vs, cs.length = n * sz ∧ u = .slice ad n c ∧ n ≤ c ∧ VRels ρ w cs vs ∧ (0 < n → ∃ a', ad = some a' ∧ ∀ (j : Nat) (u : Value), vs[j]? = some u → w.cell? (a'.add j) = some u) ∧
      ((n = 0 ∧ c = 0) ∨ ∃ β b o0 n0 o1, x.refs = [β] ∧ ρ β = .at b o0 n0 sz ∧ ad = some ⟨b, o1, none⟩ ∧ Room w b (o1 + c * sz)) := by
  unfold cellsOfRow at h
  split at h
  · simp at h; subst h
    simp only [VRel] at hv
    obtain ⟨ad, rfl⟩ := hv
    exact ⟨ad, 0, 0, [], by simp, rfl, Nat.le_refl _, by simp [VRels], by simp, .inl ⟨rfl, rfl⟩⟩
  · rename_i β
    split at h
    · rename_i cs' t z hb
      split at h
      · rename_i hzz
        simp at h; subst h; subst hzz
        rcases own_rel hH hb (by simp) hv with ⟨hr, ad, rfl⟩ | ⟨b, o, n, sz, c, hr, hc, rfl, hroom⟩
        · have := none_cells hH hb hr; subst this
          exact ⟨ad, 0, 0, [], by simp, rfl, Nat.le_refl _, by simp [VRels], by simp, .inl ⟨rfl, rfl⟩⟩
        · obtain ⟨C, tC, hC, rfl, hn, hle, hcs, hm⟩ := cells_of hH hb hr
          exact ⟨_, n, c, _, hn, rfl, hc, hcs, fun _ => ⟨_, rfl, hm⟩, .inr ⟨β, b, o, n, o, by simp [SV.refs], hr, rfl, hroom⟩⟩
      · simp at h
    · simp at h
  · simp at h

theorem snd_app {c : Call} {t e : TypeId} {s x : Operand} {ss sx : S} {K : Option Kd} {sz by_ : Nat} {zs : List SV} (hop : o.op = .call c) (hc : c.callee = .builtin .append) (hargs : c.args = #[s, x]) (hty : c.argTypes = #[t, t])
    (hu : P.underlying t = some (.slice e)) (hz : tinfo P e = some (sz, zs, by_)) (hb : by_ ≤ 32768) (hs : opL s = some ss) (hx : opL x = some sx) (ht : TRel ρ w τ a N) (hH : HRel ρ H w) (hun : ρ H.length = .unborn)
    (hmo : m = true → (ss.ev τ).refs = []) (he : appI H K sz e (ss.ev τ) (sx.ev τ) (fun v H => some (v, H)) = some (v, H')) : OpOK P o a m ρ H w v H' := by
  have vs := opL_rel ht hs
  have vx := opL_rel ht hx
  have fin : ∀ {u : Value} {w' : World} {ρ' : Map}, (Builtin.append_ #[t, t] o.type #[a.eval s, a.eval x]).run P w = .ok u w' → Good m ρ H w v H' u w' ρ' → OpOK P o a m ρ H w v H' := by
    intro u w' ρ' hr hg
    refine OpOK.value ?_ hg
    simp [execOp, hop, resolve, hc, hargs, hty, invoke, builtin, hr]
  have typed : ∀ {K : Kd} {base ys : List K.T}, (ss.ev τ = .nils ∨ (∃ β, ss.ev τ = .own β) ∨ ∃ β o l, ss.ev τ = .sub β o l) → decH false H (.list K) [ss.ev τ] = some base → decH false H (.list K) [sx.ev τ] = some ys → K.sz = sz → base.length + ys.length < LIM →
      v = .own H.length → H' = kill (ss.ev τ).refs H ++ [.arr K (base ++ ys) e] → OpOK P o a m ρ H w v H' := by
    intro K base ys hform h1 h2 hKs hlim hv hH'
    subst hv; subst hH'
    obtain ⟨as, cs, e1, hcs, ha, hform'⟩ := content_rel hH h1 vs
    obtain ⟨ax, cx, e2, hcx, hax, _⟩ := content_rel hH h2 vx
    have olds : ∃ olds : List Value, olds.length = base.length * K.sz ∧ (0 < base.length → ∃ ad, as = some ad ∧ ∀ (j : Nat) (u : Value), olds[j]? = some u → w.cell? (ad.add j) = some u) ∧ (∀ u ∈ olds, u.oneCell' = true) ∧ RowL w (Free ρ w) K base olds := by
      rcases Nat.eq_zero_or_pos base.length with h0 | h0
      · exact ⟨[], by simp [h0], fun h => by omega, by simp, fun i y hy => by rw [List.eq_nil_of_length_eq_zero h0] at hy; simp at hy⟩
      · obtain ⟨ad, e3, h3⟩ := ha h0
        obtain ⟨cs', h4, h5, h6, h7⟩ := flat_of h3
        exact ⟨cs', h4, fun _ => ⟨ad, e3, h5⟩, h6, h7⟩
    have news : ∃ news : List Value, news.length = ys.length * K.sz ∧ (0 < ys.length → ∃ ad, ax = some ad ∧ ∀ (j : Nat) (u : Value), news[j]? = some u → w.cell? (ad.add j) = some u) ∧ (∀ u ∈ news, u.oneCell' = true) ∧ RowL w (Free ρ w) K ys news := by
      rcases Nat.eq_zero_or_pos ys.length with h0 | h0
      · exact ⟨[], by simp [h0], fun h => by omega, by simp, fun i y hy => by rw [List.eq_nil_of_length_eq_zero h0] at hy; simp at hy⟩
      · obtain ⟨ad, e3, h3⟩ := hax h0
        obtain ⟨cs', h4, h5, h6, h7⟩ := flat_of h3
        exact ⟨cs', h4, fun _ => ⟨ad, e3, h5⟩, h6, h7⟩
    obtain ⟨olds, ho1, ho2, ho3, ho4⟩ := olds
    obtain ⟨news, hn1, hn2, hn3, hn4⟩ := news
    obtain ⟨u, w', ρ', hr, hg⟩ := app_core (mo := m) (P := P) (ty := o.type) (x := .arr K (base ++ ys) e) (rs := (ss.ev τ).refs) (hmo := hmo) (cx := cx) hu hz hb hH hun hlim hcs (by rw [ho1, hKs]) ho2 (by rw [hn1, hKs]) hn2 hn3
      (by
        rcases hform' hform with ⟨h3, h4, _⟩ | ⟨β, b, o0, n0, o1, h3, _, h4, h5, h6⟩
        · exact .inl ⟨by rw [h3]; rfl, h4⟩
        · exact .inr ⟨β, b, o0, n0, o1, h3, by rw [h4, hKs], h5, by rw [← hKs]; exact h6⟩)
      (fun h3 h4 => .inl ⟨K, e, by rw [List.eq_nil_of_length_eq_zero h3, List.eq_nil_of_length_eq_zero h4]; rfl⟩)
      (fun ρ' w' b o1 C tC hst hC hle hcell => by
        simp only [BRel]
        refine ⟨by simp, hKs, C, tC, hC, hle, ?_⟩
        exact RowL.rel (RowL.mono (fun _ hb => hb.step hst) (fun b hb => hst.free b hb) (ho4.append ho1 hn4)) hcell)
    rw [← e1, ← e2] at hr
    exact fin hr hg
  have cellsCase : ∀ {cs ds : List SV}, cellsOfRow H sz (ss.ev τ) = some cs → cellsOfRow H sz (sx.ev τ) = some ds → cs.length + ds.length < 65536 → sz ≠ 0 → ds.all SV.oneB = true → v = .own H.length → H' = kill (ss.ev τ).refs H ++ [.cells (cs ++ ds) e sz] → OpOK P o a m ρ H w v H' := by
    intro cs ds h1 h2 hlim hsz hone hv hH'
    subst hv; subst hH'
    obtain ⟨as, n, c1, vs1, hl1, e1, hc1, hr1, hm1, hform⟩ := cellsOfRow_rel hH hsz h1 vs
    obtain ⟨ax, n2, c2, vs2, hl2, e2, hc2, hr2, hm2, _⟩ := cellsOfRow_rel hH hsz h2 vx
    have hn1 : n ≤ n * sz := Nat.le_mul_of_pos_right _ (by omega)
    have hn2 : n2 ≤ n2 * sz := Nat.le_mul_of_pos_right _ (by omega)
    obtain ⟨u, w', ρ', hr, hg⟩ := app_core (mo := m) (P := P) (ty := o.type) (x := .cells (cs ++ ds) e sz) (rs := (ss.ev τ).refs) (hmo := hmo) (cx := c2) (olds := vs1) (news := vs2) (m := n2) hu hz hb hH hun (by simp only [LIM]; omega) hc1 (by rw [← hr1.length]; exact hl1) hm1 (by rw [← hr2.length]; exact hl2) hm2 (one_all hr2 hone) hform
      (fun h3 h4 => .inr ⟨e, sz, by
        subst h3; subst h4
        rw [List.eq_nil_of_length_eq_zero (l := cs) (by simpa using hl1), List.eq_nil_of_length_eq_zero (l := ds) (by simpa using hl2)]; rfl⟩)
      (fun ρ' w' b o1 C tC hst hC hle hcell => by
        simp only [BRel]
        refine ⟨by first | rfl | trivial, by simp [hl1, hl2, Nat.add_mul], C, tC, hC, hle, fun j s hj => ?_⟩
        obtain ⟨u, h3, h4⟩ := (hr1.append hr2).get j s hj
        exact ⟨u, hcell j u h3, h4.step hst⟩)
    rw [← e1, ← e2] at hr
    exact fin hr hg
  unfold appI at he
  have ⟨hrow, he2⟩ := (cond_some he).resolve_right (by simp)
  have hforms : (ss.ev τ = .nils ∨ (∃ β, ss.ev τ = .own β) ∨ ∃ β o l, ss.ev τ = .sub β o l) := by
    unfold SV.row at hrow
    split at hrow
    · rename_i h; exact .inl h
    · rename_i h; exact .inr (.inl ⟨_, h⟩)
    · rename_i h; exact .inr (.inr ⟨_, _, _, h⟩)
    · simp at hrow
  clear he
  unfold appB at he2
  split at he2
  · split at he2
    · rename_i base ys h1 h2
      split at he2
      · rename_i hKs
        obtain ⟨hlim, he2⟩ := tst_some he2
        simp only [Option.some.injEq, Prod.mk.injEq] at he2
        exact typed hforms h1 h2 hKs (by simpa using hlim) he2.1.symm he2.2.symm
      · simp at he2
    · split at he2
      · rename_i cs ds h1 h2
        split at he2
        · rename_i hcond
          simp only [Option.some.injEq, Prod.mk.injEq] at he2
          exact cellsCase h1 h2 hcond.1 hcond.2.1 hcond.2.2 he2.1.symm he2.2.symm
        · simp at he2
      · simp at he2
  · split at he2
    · rename_i cs ds h1 h2
      split at he2
      · rename_i hcond
        simp only [Option.some.injEq, Prod.mk.injEq] at he2
        exact cellsCase h1 h2 hcond.1 hcond.2.1 hcond.2.2 he2.1.symm he2.2.symm
      · simp at he2
    · simp at he2
end
end Go.Proofs.Ytjnkefbdpcbkmaa.Den
