/- Regions whose order is drawn: every order does what the reading says. -/
import Derived.Test.YtjnkefbdpcbkmaaD13
namespace Go.Proofs.Ytjnkefbdpcbkmaa.Den
open Go Go.RowKit
set_option linter.unusedVariables false
set_option linter.unusedSimpArgs false

section
variable {R : Type} {P : Program} {T : Tab} {τ τ' : Env} {H H' : Heap} {v : SV}

theorem pure_mono {i : I} (h : i.pure = true) : i.mono T = true := by
  cases i <;> simp only [I.pure, Bool.false_eq_true] at h <;> rfl

theorem app_shape {K : Option Kd} {sz : Nat} {t : TypeId} {s x : SV} (h : appI H K sz t s x (fun v H => some (v, H)) = some (v, H')) : ∃ y, H' = kill s.refs H ++ [y] := by
  unfold appI at h
  have ⟨_, h⟩ := (cond_some h).resolve_right (by simp)
  unfold appB at h
  split at h
  · split at h
    · split at h
      · obtain ⟨_, h⟩ := tst_some h
        simp only [Option.some.injEq, Prod.mk.injEq] at h
        exact ⟨_, h.2.symm⟩
      · simp at h
    · split at h
      · split at h
        · simp only [Option.some.injEq, Prod.mk.injEq] at h
          exact ⟨_, h.2.symm⟩
        · simp at h
      · simp at h
  · split at h
    · split at h
      · simp only [Option.some.injEq, Prod.mk.injEq] at h
        exact ⟨_, h.2.symm⟩
      · simp at h
    · simp at h

theorem mono_ext (hT : TabOK P T) {i : I} (hm : i.mono T = true) (h : runI T i τ H (fun v H => some (v, H)) = some (v, H')) : ∃ Δ, H' = H ++ Δ := by
  by_cases hp : i.pure = true
  · exact ⟨[], by rw [(pure_heap (H2 := H) hp h).1]; simp⟩
  have same : ∀ {f : (SV → Option (SV × Heap)) → Option (SV × Heap)} {g : Option SV}, (f (fun v => some (v, H)) = g.bind fun v => some (v, H)) → f (fun v => some (v, H)) = some (v, H') → ∃ Δ, H' = H ++ Δ := by
    intro f g h1 h2
    rw [h1, Option.bind_eq_some_iff] at h2
    obtain ⟨u, _, h3⟩ := h2
    simp only [Option.some.injEq, Prod.mk.injEq] at h3
    exact ⟨[], by rw [← h3.2]; simp⟩
  cases i <;> simp only [I.pure, not_true_eq_false] at hp <;> simp only [I.mono, Bool.false_eq_true] at hm
  case alloc => simp only [runI, Option.some.injEq, Prod.mk.injEq] at h; exact ⟨_, h.2.symm⟩
  case allocA => simp only [runI, Option.some.injEq, Prod.mk.injEq] at h; exact ⟨_, h.2.symm⟩
  case box =>
    simp only [runI] at h
    split at h
    · simp only [Option.some.injEq, Prod.mk.injEq] at h; exact ⟨_, h.2.symm⟩
    · split at h
      · simp only [Option.some.injEq, Prod.mk.injEq] at h; exact ⟨_, h.2.symm⟩
      · simp at h
  case bsl K frz sz len zs t ps =>
    obtain rfl : frz = false := by cases frz <;> simp at hm ⊢
    simp only [runI] at h
    unfold bslI at h
    split at h
    · simp only [Option.some.injEq, Prod.mk.injEq] at h; exact ⟨[], by rw [← h.2]; simp⟩
    · simp at h
    · split at h
      · simp at h
      · split at h
        · split at h
          · split at h
            · simp only [Option.some.injEq, Prod.mk.injEq] at h; exact ⟨_, h.2.symm⟩
            · simp at h
          · simp only [Option.some.injEq, Prod.mk.injEq] at h; exact ⟨_, h.2.symm⟩
        · simp only [Option.some.injEq, Prod.mk.injEq] at h; exact ⟨_, h.2.symm⟩
  case ld => simp only [runI] at h; exact same (f := fun k => ldI H _ _ _ k) (ldI_nat ..) h
  case ldc =>
    simp only [runI] at h
    split at h
    · split at h
      · exact same (f := fun k => getC _ _ _ _ k) (getC_nat ..) h
      · simp at h
    · simp at h
  case ia => simp only [runI] at h; exact same (f := fun k => iaI H _ _ _ k) (iaI_nat ..) h
  case iar => simp only [runI] at h; exact same (f := fun k => iarI H _ _ _ _ k) (iarI_nat ..) h
  case sl => simp only [runI] at h; exact same (f := fun k => slI H _ _ _ _ _ k) (slI_nat ..) h
  case len =>
    simp only [runI] at h
    split at h
    · simp only [Option.some.injEq, Prod.mk.injEq] at h; exact ⟨[], by rw [← h.2]; simp⟩
    · simp at h
  case app0 =>
    simp only [runI] at h
    split at h
    · obtain ⟨y, hy⟩ := app_shape h
      exact ⟨[y], by rw [hy]; rfl⟩
    · simp at h
  case mk K zs t n cap =>
    simp only [runI, mkI] at h
    have fin : ∀ {y : Blk}, H ++ [y] = H' → ∃ Δ, H' = H ++ Δ := fun h => ⟨_, h.symm⟩
    split at h
    · split at h
      · split at h
        · obtain ⟨_, h⟩ := tst_some h
          obtain ⟨_, h⟩ := tst_some h
          simp only [Option.some.injEq, Prod.mk.injEq] at h; exact fin h.2
        · split at h
          · split at h
            · simp only [Option.some.injEq, Prod.mk.injEq] at h; exact fin h.2
            · simp at h
          · simp at h
      · split at h
        · obtain ⟨_, h⟩ := tst_some h
          obtain ⟨_, h⟩ := tst_some h
          obtain ⟨_, h⟩ := tst_some h
          simp only [Option.some.injEq, Prod.mk.injEq] at h; exact fin h.2
        · split at h
          · split at h
            · simp only [Option.some.injEq, Prod.mk.injEq] at h; exact fin h.2
            · simp at h
          · simp at h
      · simp at h
    · simp at h
  case call f as =>
    simp only [runI] at h
    obtain ⟨te, x, y, h1, h2, h3, h4⟩ := callI_some h
    rw [h1] at hm
    exact hT.ext f te h1 hm x y _ _ _ _ h4

theorem step_ext (hT : TabOK P T) {gi : GI} (hm : gi.i.mono T = true) (h : stepG T gi τ H = some (τ', H')) : ∃ Δ, H' = H ++ Δ := by
  obtain ⟨b, _, _, h3, h4⟩ := stepG_spec h
  cases b with
  | true => obtain ⟨v, h5, _⟩ := h3 rfl; exact mono_ext hT hm h5
  | false => exact ⟨[], by rw [(h4 rfl).1]; simp⟩

theorem step_pure {gi : GI} (hp : gi.i.pure = true) (h : stepG T gi τ H = some (τ', H')) (H2 : Heap) : H' = H ∧ stepG T gi τ H2 = some (τ', H2) := by
  have run : ∀ {τ1 : Env}, runI T gi.i τ1 H (fun v H' => some (putD τ1 gi.d v, H')) = some (τ', H') → H' = H ∧ runI T gi.i τ1 H2 (fun v H' => some (putD τ1 gi.d v, H')) = some (τ', H2) := by
    intro τ1 h1
    rw [runI_nat, Option.bind_eq_some_iff] at h1
    obtain ⟨⟨v, H3⟩, h2, h3⟩ := h1
    simp only [Option.some.injEq, Prod.mk.injEq] at h3
    obtain ⟨rfl, rfl⟩ := h3
    obtain ⟨h4, h5⟩ := pure_heap (H2 := H2) hp h2
    rw [runI_nat, h5]
    exact ⟨h4, rfl⟩
  unfold stepG runG at h ⊢
  split at h
  · exact run h
  · split at h
    · rename_i e
      simp only [e]
      split at h
      · rcases cond_some h with ⟨rfl, h⟩ | ⟨rfl, h⟩
        · exact run h
        · simp only [Option.some.injEq, Prod.mk.injEq] at h
          obtain ⟨rfl, rfl⟩ := h
          exact ⟨rfl, rfl⟩
      · rcases cond_some h with ⟨rfl, h⟩ | ⟨rfl, h⟩
        · simp only [Option.some.injEq, Prod.mk.injEq] at h
          obtain ⟨rfl, rfl⟩ := h
          exact ⟨rfl, rfl⟩
        · exact run h
    · rename_i e
      simp only [e]
      simp only [Option.some.injEq, Prod.mk.injEq] at h
      obtain ⟨rfl, rfl⟩ := h
      exact ⟨rfl, rfl⟩
    · simp at h

theorem quiet_mono {i : I} (h : i.quiet = true) : i.mono T = true := by
  unfold I.quiet at h
  simp only [Bool.or_eq_true] at h
  rcases h with h | h
  · exact pure_mono h
  · cases i <;> simp only [I.isLdc, Bool.false_eq_true] at h <;> rfl

/-- A load of cells, seen with another heap. -/
theorem ldc_step {gi : GI} {n : Nat} {ag : Bool} {s : Nat} (hi : gi.i = .ldc n ag s) (h : stepG T gi τ H = some (τ', H')) {H2 : Heap} (hH2 : ∀ β off cs t z, Tm.get τ s = .ptr β off → H[β]? = some (.cells cs t z) → H2[β]? = some (.cells cs t z)) :
    H' = H ∧ stepG T gi τ H2 = some (τ', H2) := by
  have run : ∀ {τ1 : Env}, (Tm.get τ1 s = Tm.get τ s) → runI T gi.i τ1 H (fun v H' => some (putD τ1 gi.d v, H')) = some (τ', H') → H' = H ∧ runI T gi.i τ1 H2 (fun v H' => some (putD τ1 gi.d v, H')) = some (τ', H2) := by
    intro τ1 e h1
    rw [hi] at h1 ⊢
    simp only [runI, e] at h1 ⊢
    split at h1
    · rename_i β off e1
      split at h1
      · rename_i cs t z e2
        simp only [hH2 β off cs t z e1 e2]
        rw [getC_nat, Option.bind_eq_some_iff] at h1 ⊢
        obtain ⟨v, h2, h3⟩ := h1
        simp only [Option.some.injEq, Prod.mk.injEq] at h3
        obtain ⟨rfl, rfl⟩ := h3
        exact ⟨rfl, v, h2, rfl⟩
      · simp at h1
    · simp at h1
  have same : ∀ {m : Nat} {v : SV}, Tm.get τ m = v → Tm.get ((m, v) :: τ) s = Tm.get τ s := fun e => get_same e s
  unfold stepG runG at h ⊢
  split at h
  · exact run rfl h
  · split at h
    · rename_i e
      simp only [e]
      split at h
      · rcases cond_some h with ⟨rfl, h⟩ | ⟨rfl, h⟩
        · exact run (same e) h
        · simp only [Option.some.injEq, Prod.mk.injEq] at h
          obtain ⟨rfl, rfl⟩ := h
          exact ⟨rfl, rfl⟩
      · rcases cond_some h with ⟨rfl, h⟩ | ⟨rfl, h⟩
        · simp only [Option.some.injEq, Prod.mk.injEq] at h
          obtain ⟨rfl, rfl⟩ := h
          exact ⟨rfl, rfl⟩
        · exact run (same e) h
    · rename_i e
      simp only [e]
      simp only [Option.some.injEq, Prod.mk.injEq] at h
      obtain ⟨rfl, rfl⟩ := h
      exact ⟨rfl, rfl⟩
    · simp at h

theorem quiet_same {gi : GI} (hq : gi.i.quiet = true) (h : stepG T gi τ H = some (τ', H')) : H' = H := by
  unfold I.quiet at hq
  simp only [Bool.or_eq_true] at hq
  rcases hq with hq | hq
  · exact (step_pure hq h []).1
  · cases hi : gi.i <;> rw [hi] at hq <;> simp only [I.isLdc, Bool.false_eq_true] at hq
    exact (ldc_step hi h (H2 := H) fun _ _ _ _ _ _ h => h).1

theorem quiet_split {i : I} (h : i.quiet = false) : i.pure = false ∧ i.isLdc = false := by
  unfold I.quiet at h
  simpa using h

/-- What a call leaves as it was. -/
theorem touch_keep (hT : TabOK P T) {i : I} (hl : i.isCall = true) (h : runI T i τ H (fun v H => some (v, H)) = some (v, H')) : H.length ≤ H'.length ∧ ∀ γ, γ < H.length → γ ∉ i.touch τ → H'[γ]? = H[γ]? := by
  cases i <;> simp only [I.isCall, Bool.false_eq_true] at hl
  case call f as =>
    simp only [runI] at h
    unfold callI at h
    split at h
    · simp at h
    · rename_i te h1
      split at h
      · simp at h
      · rename_i x h2
        rw [Option.bind_eq_some_iff] at h
        obtain ⟨y, h3, h4⟩ := h
        split at h4
        · rename_i v2 H2 h5
          simp only [Option.some.injEq, Prod.mk.injEq] at h4
          obtain ⟨rfl, rfl⟩ := h4
          obtain ⟨h6, h7⟩ := hT.tch f te h1 _ _ _ _ _ _ h2 h5
          refine ⟨h6, fun γ h8 h9 => h7 γ h8 ?_⟩
          cases as with
          | nil => simp [SV.refs]
          | cons a as => simpa [I.touch] using h9
        · simp at h4

theorem apart_spec {tc rd : List Nat} (h : apart tc rd = true) : ∀ β ∈ rd, β ∉ tc := by
  unfold apart at h
  simp only [List.all_eq_true] at h
  intro β hβ hm
  have := h β hβ
  simp only [Bool.not_eq_true', List.any_eq_false] at this
  exact this β hm (Nat.beq_refl β)

theorem runRD_states {k : Env → Heap → Option R} {r : R} : ∀ {gs : List GI} {tc rd : List Nat} {τ : Env} {H : Heap}, (∀ β ∈ rd, β ∉ tc) → runRD T gs tc rd τ H k = some r →
    ∃ st : Nat → Env × Heap, st 0 = (τ, H) ∧ (∀ j gi, gs[j]? = some gi → stepG T gi (st j).1 (st j).2 = some (st (j + 1))) ∧ k (st gs.length).1 (st gs.length).2 = some r ∧
      ∀ β, (β ∈ rd ∨ ∃ (j : Nat) (gj : GI), gs[j]? = some gj ∧ β ∈ gj.calmOf (st j).1) → β ∉ tc ∧ ∀ (i : Nat) (gi : GI), gs[i]? = some gi → β ∉ gi.touched T (st i).1
  | [], tc, rd, τ, H, hd, h => ⟨fun _ => (τ, H), rfl, fun j gi hj => by simp at hj, h, fun β hb => by
      rcases hb with hb | ⟨j, gj, hj, _⟩
      · exact ⟨hd β hb, fun i gi hi => by simp at hi⟩
      · simp at hj⟩
  | gi :: gs, tc, rd, τ, H, hd, h => by
    simp only [runRD] at h
    rcases cond_some h with ⟨ha, h⟩ | ⟨_, h⟩
    · rw [runG_nat, Option.bind_eq_some_iff] at h
      obtain ⟨⟨τ1, H1⟩, h1, h2⟩ := h
      obtain ⟨st, h3, h4, h5, h6⟩ := runRD_states (apart_spec ha) h2
      refine ⟨fun j => match j with | 0 => (τ, H) | j + 1 => st j, rfl, fun j gj hj => ?_, h5, fun β hb => ?_⟩
      · cases j with
        | zero => simp at hj; subst hj; simp only [h3]; exact h1
        | succ j => exact h4 j gj (by simpa using hj)
      · obtain ⟨h8, h10⟩ := h6 β (by
          rcases hb with hb | ⟨j, gj, hj, hb⟩
          · exact .inl (List.mem_append.2 (.inr hb))
          · cases j with
            | zero => simp at hj; subst hj; exact .inl (List.mem_append.2 (.inl hb))
            | succ j => exact .inr ⟨j, gj, by simpa using hj, hb⟩)
        refine ⟨fun h => h8 (List.mem_append.2 (.inr h)), fun i gi' hi => ?_⟩
        cases i with
        | zero => simp at hi; subst hi; exact fun h => h8 (List.mem_append.2 (.inl h))
        | succ i => exact h10 i gi' (by simpa using hi)
    · simp at h

theorem runR_states {k : Env → Heap → Option R} {r : R} : ∀ {gs : List GI} {τ : Env} {H : Heap}, runR T gs τ H k = some r →
    ∃ st : Nat → Env × Heap, st 0 = (τ, H) ∧ (∀ j gi, gs[j]? = some gi → stepG T gi (st j).1 (st j).2 = some (st (j + 1))) ∧ k (st gs.length).1 (st gs.length).2 = some r
  | [], τ, H, h => ⟨fun _ => (τ, H), rfl, fun j gi hj => by simp at hj, h⟩
  | gi :: gs, τ, H, h => by
    rw [runR_cons, Option.bind_eq_some_iff] at h
    obtain ⟨⟨τ1, H1⟩, h1, h2⟩ := h
    obtain ⟨st, h3, h4, h5⟩ := runR_states h2
    refine ⟨fun j => match j with | 0 => (τ, H) | j + 1 => st j, rfl, fun j gj hj => ?_, h5⟩
    cases j with
    | zero => simp at hj; subst hj; simp only [h3]; exact h1
    | succ j => exact h4 j gj (by simpa using hj)

end

section
variable {P : Program} {T : Tab} {ops : Array Oper} {gs : List GI} {B : Nat → Nat → Prop} {st : Nat → Env × Heap} {N : Nat}

/-- A listed one. -/
def lst (L : Array Bool) (j : Nat) : Prop := L.getD j false = true

structure DInv (T : Tab) (gs : List GI) (B : Nat → Nat → Prop) (st : Nat → Env × Heap) (N n : Nat) (ρ0 : Map) (w0 : World) (L : Array Bool) (a : Act) (w : World) (ρ : Map) (J : Nat) : Prop where
  size : L.size = n
  N : a.tmps.size = N
  d : a.defers = []
  closed : ∀ j, lst L j → ∀ i, B i j → lst L i
  Jle : J ≤ n
  Jl : ∀ i gi, i < J → gs[i]? = some gi → gi.i.mono T = false → lst L i
  Ju : J < n → ¬ lst L J ∧ ∃ gi, gs[J]? = some gi ∧ gi.i.mono T = false
  h : HRel ρ (st J).2 w
  u : ∀ β, (st J).2.length ≤ β → ρ β = .unborn
  ui : ∀ i, i < J → ¬ lst L i → ∀ β, (st i).2.length ≤ β → β < (st (i + 1)).2.length → ρ β = .unborn
  s : ∀ s j, j ≤ n → (∀ i gi, i < j → gs[i]? = some gi → gi.d = some s → lst L i) → (∀ i gi, j ≤ i → gs[i]? = some gi → gi.d = some s → ¬ lst L i) → VRel ρ w (Tm.get (st j).1 s) (a.tmps.getD s undef)
  st : Step ρ0 w0 ρ w

theorem const_slot (hst : ∀ j gi, gs[j]? = some gi → stepG T gi (st j).1 (st j).2 = some (st (j + 1))) {s j : Nat} : ∀ {k : Nat}, j ≤ k → k ≤ gs.length →
    (∀ i gi, j ≤ i → i < k → gs[i]? = some gi → gi.d ≠ some s) → Tm.get (st k).1 s = Tm.get (st j).1 s
  | 0, hj, _, _ => by rw [Nat.le_zero.1 hj]
  | k + 1, hj, hk, h => by
    rcases Nat.lt_or_ge j (k + 1) with hlt | hge
    · have hkl : k < gs.length := by omega
      have h1 := hst k gs[k] (List.getElem?_eq_getElem hkl)
      have h2 := h k gs[k] (by omega) (by omega) (List.getElem?_eq_getElem hkl)
      obtain ⟨b, _, _, h3, h4⟩ := stepG_spec h1
      have e : Tm.get (st (k + 1)).1 s = Tm.get (st k).1 s := by
        cases b with
        | true => obtain ⟨v, _, h5⟩ := h3 rfl; rw [h5, if_neg h2]
        | false => rw [(h4 rfl).2, if_neg h2]
      rw [e]
      exact const_slot hst (by omega) (by omega) fun i gi h5 h6 h7 => h i gi h5 (by omega) h7
    · have : j = k + 1 := by omega
      rw [this]

theorem ext_heap (hT : TabOK P T) (hst : ∀ j gi, gs[j]? = some gi → stepG T gi (st j).1 (st j).2 = some (st (j + 1))) {j : Nat} : ∀ {k : Nat}, j ≤ k → k ≤ gs.length →
    (∀ i gi, j ≤ i → i < k → gs[i]? = some gi → gi.i.mono T = true) → ∃ Δ, (st k).2 = (st j).2 ++ Δ
  | 0, hj, _, _ => by rw [Nat.le_zero.1 hj]; exact ⟨[], by simp⟩
  | k + 1, hj, hk, h => by
    rcases Nat.lt_or_ge j (k + 1) with hlt | hge
    · have hkl : k < gs.length := by omega
      obtain ⟨Δ, h1⟩ := step_ext hT (h k gs[k] (by omega) (by omega) (List.getElem?_eq_getElem hkl)) (hst k gs[k] (List.getElem?_eq_getElem hkl))
      obtain ⟨Δ', h2⟩ := ext_heap hT hst (show j ≤ k by omega) (by omega) fun i gi h5 h6 h7 => h i gi h5 (by omega) h7
      exact ⟨Δ' ++ Δ, by rw [h1, h2, List.append_assoc]⟩
    · have : j = k + 1 := by omega
      rw [this]; exact ⟨[], by simp⟩

theorem next_w {n : Nat} (hn : gs.length = n) : ∀ (m lo : Nat), lo + m = n → ∃ J, lo ≤ J ∧ J ≤ n ∧ (∀ i gi, lo ≤ i → i < J → gs[i]? = some gi → gi.i.mono T = true) ∧ (J < n → ∃ gi, gs[J]? = some gi ∧ gi.i.mono T = false)
  | 0, lo, h => ⟨lo, Nat.le_refl _, by omega, fun i gi h1 h2 => by omega, fun h1 => by omega⟩
  | m + 1, lo, h => by
    have hlo : lo < gs.length := by omega
    cases hm : gs[lo].i.mono T with
    | false => exact ⟨lo, Nat.le_refl _, by omega, fun i gi h1 h2 => by omega, fun _ => ⟨gs[lo], List.getElem?_eq_getElem hlo, hm⟩⟩
    | true =>
      obtain ⟨J, h1, h2, h3, h4⟩ := next_w hn m (lo + 1) (by omega)
      refine ⟨J, by omega, h2, fun i gi h5 h6 h7 => ?_, h4⟩
      rcases Nat.lt_or_ge lo i with h8 | h8
      · exact h3 i gi h8 h6 h7
      · have : i = lo := by omega
        subst this
        rw [List.getElem?_eq_getElem hlo] at h7
        cases h7; exact hm

theorem lst_set {L : Array Bool} {j : Nat} (hj : j < L.size) (i : Nat) : lst (L.setIfInBounds j true) i ↔ i = j ∨ lst L i := by
  unfold lst
  by_cases h : j = i
  · subst h; simp [hj]
  · rw [getD_set_ne false h]; simp [Ne.symm h]

theorem hits_of {d : Option Nat} {l : List Nat} {s : Nat} (hd : d = some s) (h : s ∈ l) : hits d l = true := by
  subst hd; simp [hits]; exact h
theorem sameD_of {d e : Option Nat} {s : Nat} (hd : d = some s) (he : e = some s) : sameD d e = true := by
  subst hd; subst he; simp [sameD]

theorem HRel.pre {ρ : Map} {H Δ : Heap} {w : World} (h : HRel ρ (H ++ Δ) w) : HRel ρ H w where
  dead β hl hr := by have := h.dead β (by simp; omega) hr; rwa [List.getElem?_append_left hl] at this
  none_ β hl hr := by have := h.none_ β (by simp; omega) hr; rwa [List.getElem?_append_left hl] at this
  at_ β hl b o n sz hr := by have := h.at_ β (by simp; omega) b o n sz hr; rwa [List.getElem?_append_left hl] at this
  inj := h.inj
  lt := h.lt
  resl := h.resl
  resf := h.resf

theorem HRel.ext {ρ : Map} {H : Heap} {w : World} (h : HRel ρ H w) (hu : ∀ β, H.length ≤ β → ρ β = .unborn) (Δ : Heap) : HRel ρ (H ++ Δ) w where
  dead β hl hr := by
    rcases Nat.lt_or_ge β H.length with h1 | h1
    · rw [List.getElem?_append_left h1]; exact h.dead β h1 hr
    · rw [hu β h1] at hr; cases hr
  none_ β hl hr := by
    rcases Nat.lt_or_ge β H.length with h1 | h1
    · rw [List.getElem?_append_left h1]; exact h.none_ β h1 hr
    · rw [hu β h1] at hr; cases hr
  at_ β hl b o n sz hr := by
    rcases Nat.lt_or_ge β H.length with h1 | h1
    · rw [List.getElem?_append_left h1]; exact h.at_ β h1 b o n sz hr
    · rw [hu β h1] at hr; cases hr
  inj := h.inj
  lt := h.lt
  resl := h.resl
  resf := h.resf

theorem HRel.mid {ρ ρ' : Map} {H H' Δ : Heap} {w w' : World} {v : SV} {u : Value} (h : HRel ρ (H' ++ Δ) w) (hg : Good true ρ H w v H' u w' ρ') : HRel ρ' (H' ++ Δ) w' where
  dead β hl hr := by
    rcases Nat.lt_or_ge β H'.length with h1 | h1
    · rw [List.getElem?_append_left h1]; exact hg.hrel.dead β h1 hr
    · rw [(hg.mono rfl).2.1 β (.inr h1)] at hr; exact h.dead β hl hr
  none_ β hl hr := by
    rcases Nat.lt_or_ge β H'.length with h1 | h1
    · rw [List.getElem?_append_left h1]; exact hg.hrel.none_ β h1 hr
    · rw [(hg.mono rfl).2.1 β (.inr h1)] at hr; exact h.none_ β hl hr
  at_ β hl b o n sz hr := by
    rcases Nat.lt_or_ge β H'.length with h1 | h1
    · rw [List.getElem?_append_left h1]; exact hg.hrel.at_ β h1 b o n sz hr
    · rw [(hg.mono rfl).2.1 β (.inr h1)] at hr
      obtain ⟨x, h2, h3⟩ := h.at_ β hl b o n sz hr
      exact ⟨x, h2, h3.keep hg.step ((hg.mono rfl).2.2 b (h.lt _ _ _ _ _ hr))⟩
  inj := hg.hrel.inj
  lt := hg.hrel.lt
  resl := hg.hrel.resl
  resf := hg.hrel.resf

variable {n : Nat} {ρ0 : Map} {w0 : World} {L : Array Bool} {a : Act} {w : World} {ρ : Map} {J : Nat}

/-- The slots' part, after one more is listed. -/
theorem DInv.slots (hi : DInv T gs B st N n ρ0 w0 L a w ρ J) (hord : Ordered T ops gs B) (hn : gs.length = n) (hst : ∀ j gi, gs[j]? = some gi → stepG T gi (st j).1 (st j).2 = some (st (j + 1)))
    {j : Nat} {gi : GI} {o : Oper} (hj : j < n) (hun : ¬ lst L j) (hgi : gs[j]? = some gi) (hl : LOp P N ops o gi) {v : SV} {u : Value} {w' : World} {ρ' : Map} (hs : Step ρ w ρ' w') (hv : VRel ρ' w' v u)
    (hnx : ∀ m, Tm.get (st (j + 1)).1 m = if gi.d = some m then v else Tm.get (st j).1 m) :
    ∀ s k, k ≤ n → (∀ i gi, i < k → gs[i]? = some gi → gi.d = some s → lst (L.setIfInBounds j true) i) → (∀ i gi, k ≤ i → gs[i]? = some gi → gi.d = some s → ¬ lst (L.setIfInBounds j true) i) →
      VRel ρ' w' (Tm.get (st k).1 s) ((a.put o.dst u).tmps.getD s undef) := by
  intro s k hk h1 h2
  have hjs : j < L.size := by rw [hi.size]; exact hj
  rw [put_get (fun d hd => by rw [hi.N]; exact hl.lt d hd), ← hl.d]
  by_cases hd : gi.d = some s
  · rw [if_pos hd]
    have hjk : j < k := by
      rcases Nat.lt_or_ge j k with h | h
      · exact h
      · exact absurd ((lst_set hjs j).2 (.inl rfl)) (h2 j gi h hgi hd)
    have hc := const_slot (s := s) hst (show j + 1 ≤ k by omega) (by omega) fun i gi' h3 h4 h5 h6 => by
      have h7 := (lst_set hjs i).1 (h1 i gi' h4 h5 h6)
      rcases h7 with h7 | h7
      · omega
      · have hb : B j i := hord.pair j i gi gi' (by omega) hgi h5 (by
          simp only [Inf.clash, GI.inf]; rw [sameD_of hd h6]; simp)
        exact hun (hi.closed i h7 j hb)
    rw [hc, hnx, if_pos hd]
    exact hv
  · rw [if_neg hd]
    refine (hi.s s k hk (fun i gi' h3 h4 h5 => ?_) (fun i gi' h3 h4 h5 h6 => h2 i gi' h3 h4 h5 ((lst_set hjs i).2 (.inr h6)))).step hs
    rcases (lst_set hjs i).1 (h1 i gi' h3 h4 h5) with h7 | h7
    · subst h7
      rw [hgi] at h4; cases h4
      exact absurd h5 hd
    · exact h7

/-- What a ready operation reads is as the reading says. -/
theorem DInv.reads (hi : DInv T gs B st N n ρ0 w0 L a w ρ J) (hord : Ordered T ops gs B) (hn : gs.length = n) {j : Nat} {gi : GI} (hj : j < n) (hun : ¬ lst L j) (hgi : gs[j]? = some gi) (hanc : ∀ i, B i j → lst L i) :
    ∀ s ∈ gi.reads, VRel ρ w (Tm.get (st j).1 s) (a.tmps.getD s undef) := by
  intro s hs
  refine hi.s s j (by omega) (fun i gi' h1 h2 h3 => ?_) (fun i gi' h1 h2 h3 h4 => ?_)
  · refine hanc i (hord.pair i j gi' gi h1 h2 hgi ?_)
    simp only [Inf.clash, GI.inf]; rw [hits_of h3 hs]; simp
  · rcases Nat.lt_or_ge j i with h5 | h5
    · refine hun (hi.closed i h4 j (hord.pair j i gi gi' h5 hgi h2 ?_))
      simp only [Inf.clash, GI.inf]; rw [hits_of h3 hs]; simp
    · have : i = j := by omega
      subst this; exact hun h4
end
end Go.Proofs.Ytjnkefbdpcbkmaa.Den
