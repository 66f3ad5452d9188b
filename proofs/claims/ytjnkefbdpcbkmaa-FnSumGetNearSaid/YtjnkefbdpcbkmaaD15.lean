/- Regions whose order is drawn: the walk over all orders. -/
import Derived.Test.YtjnkefbdpcbkmaaD14
namespace Go.Proofs.Ytjnkefbdpcbkmaa.Den
open Go Go.RowKit
set_option linter.unusedVariables false
set_option linter.unusedSimpArgs false

section
variable {P : Program} {T : Tab} {ops : Array Oper} {gs : List GI} {B : Nat → Nat → Prop} {st : Nat → Env × Heap} {N : Nat}
variable {n : Nat} {ρ0 : Map} {w0 : World} {L : Array Bool} {a : Act} {w : World} {ρ : Map} {J : Nat}

theorem lst_lt {j : Nat} (h : lst L j) : j < L.size := by
  unfold lst at h
  rcases Nat.lt_or_ge j L.size with h1 | h1
  · exact h1
  · simp [Array.getElem?_eq_none h1] at h

theorem closed_set (hord : Ordered T ops gs B) (hc : ∀ j, lst L j → ∀ i, B i j → lst L i) {j : Nat} (hj : j < L.size) (hanc : ∀ i, B i j → lst L i) :
    ∀ k, lst (L.setIfInBounds j true) k → ∀ i, B i k → lst (L.setIfInBounds j true) i := by
  intro k hk i hb
  rcases (lst_set hj k).1 hk with h | h
  · subst h; exact (lst_set hj i).2 (.inr (hanc i hb))
  · exact (lst_set hj i).2 (.inr (hc k h i hb))

/-- Behind one that is not listed yet, nothing is changed. -/
theorem DInv.mids (hi : DInv T gs B st N n ρ0 w0 L a w ρ J) (hord : Ordered T ops gs B) {j : Nat} {gi : GI} (hjJ : j < J) (hun : ¬ lst L j) (hgi : gs[j]? = some gi) (hp : gi.i.quiet = false) :
    ∀ i gi', j ≤ i → i < J → gs[i]? = some gi' → gi'.i.mono T = true := by
  intro i gi' h1 h2 h3
  cases h4 : gi'.i.mono T with
  | true => rfl
  | false =>
    have h5 := hi.Jl i gi' h2 h3 h4
    rcases Nat.lt_or_ge j i with h6 | h6
    · refine absurd (hi.closed i h5 j (hord.pair j i gi gi' h6 hgi h3 ?_)) hun
      simp [Inf.clash, GI.inf, h4, quiet_split hp]
    · have : i = j := by omega
      subst this; exact absurd h5 hun

/-- A pure operation. -/
theorem DInv.pure (hT : TabOK P T) (hi : DInv T gs B st N n ρ0 w0 L a w ρ J) (hord : Ordered T ops gs B) (hn : gs.length = n) (hst : ∀ j gi, gs[j]? = some gi → stepG T gi (st j).1 (st j).2 = some (st (j + 1)))
    {j : Nat} {gi : GI} {o : Oper} (hj : j < n) (hun : ¬ lst L j) (hgi : gs[j]? = some gi) (hl : LOp P N ops o gi) (hanc : ∀ i, B i j → lst L i) (hm : gi.i.mono T = true) (h2 : stepG T gi (st j).1 (st J).2 = some ((st (j + 1)).1, (st J).2)) {K : Act → World → Prop} {Q : Exit → Act → World → Prop}
    (hK : ∀ a' w' ρ', DInv T gs B st N n ρ0 w0 (L.setIfInBounds j true) a' w' ρ' J → K a' w') :
    if Region.wanted o (yielded ops a.tmps) = true then o.wp P a w K Q else K (a.put o.dst undef) w := by
  have hjs : j < L.size := by rw [hi.size]; exact hj
  refine step_sound (m := true) hT hl (fun _ => hm) hi.N hi.d (hi.reads hord hn hj hun hgi hanc) hi.h (fun β h3 h4 => by omega) h2 fun v u w' ρ' hg hnx => hK _ _ ρ' ?_
  have hρ : ∀ β, ρ' β = ρ β := fun β => (hg.mono rfl).2.1 β (by omega)
  exact {
    size := by simp [hi.size]
    N := by rw [put_size]; exact hi.N
    d := by rw [put_defers']; exact hi.d
    closed := closed_set hord hi.closed hjs hanc
    Jle := hi.Jle
    Jl := fun i gi' h3 h4 h5 => (lst_set hjs i).2 (.inr (hi.Jl i gi' h3 h4 h5))
    Ju := fun h3 => by
      obtain ⟨h4, gi', h5, h6⟩ := hi.Ju h3
      refine ⟨fun h7 => ?_, gi', h5, h6⟩
      rcases (lst_set hjs J).1 h7 with h8 | h8
      · subst h8; rw [hgi] at h5; cases h5; rw [hm] at h6; cases h6
      · exact h4 h8
    h := hg.hrel
    u := fun β h3 => by rw [hρ]; exact hi.u β h3
    ui := fun i h3 h4 β h5 h6 => by rw [hρ]; exact hi.ui i h3 (fun h7 => h4 ((lst_set hjs i).2 (.inr h7))) β h5 h6
    s := hi.slots hord hn hst hj hun hgi hl hg.step hg.vrel hnx
    st := hi.st.trans hg.step }

/-- An operation that changes nothing that was. -/
theorem DInv.mono (hT : TabOK P T) (hi : DInv T gs B st N n ρ0 w0 L a w ρ J) (hord : Ordered T ops gs B) (hn : gs.length = n) (hst : ∀ j gi, gs[j]? = some gi → stepG T gi (st j).1 (st j).2 = some (st (j + 1)))
    {j : Nat} {gi : GI} {o : Oper} (hj : j < n) (hun : ¬ lst L j) (hgi : gs[j]? = some gi) (hl : LOp P N ops o gi) (hanc : ∀ i, B i j → lst L i) (hp : gi.i.quiet = false) (hm : gi.i.mono T = true) {K : Act → World → Prop} {Q : Exit → Act → World → Prop}
    (hK : ∀ a' w' ρ', DInv T gs B st N n ρ0 w0 (L.setIfInBounds j true) a' w' ρ' J → K a' w') :
    if Region.wanted o (yielded ops a.tmps) = true then o.wp P a w K Q else K (a.put o.dst undef) w := by
  have hjs : j < L.size := by rw [hi.size]; exact hj
  have hjJ : j < J := by
    rcases Nat.lt_or_ge j J with h | h
    · exact h
    · have hJn : J < n := by omega
      obtain ⟨h4, gi', h5, h6⟩ := hi.Ju hJn
      have hne : J ≠ j := by rintro rfl; rw [hgi] at h5; cases h5; rw [hm] at h6; cases h6
      refine absurd (hanc J (hord.pair J j gi' gi (by omega) h5 hgi ?_)) h4
      simp [Inf.clash, GI.inf, h6, quiet_split hp]
  have hJn := hi.Jle
  have hmid := hi.mids hord hjJ hun hgi hp
  obtain ⟨Δ, hΔ⟩ := ext_heap hT hst (show j + 1 ≤ J by omega) (by omega) fun i gi' h1 h2 h3 => hmid i gi' (by omega) h2 h3
  obtain ⟨Δ1, hΔ1⟩ := step_ext hT hm (hst j gi hgi)
  have hH : HRel ρ (st j).2 w := by
    have := hi.h
    rw [hΔ, hΔ1, List.append_assoc] at this
    exact this.pre
  have hlen : (st (j + 1)).2.length ≤ (st J).2.length := by rw [hΔ]; simp
  refine step_sound (m := true) hT hl (fun _ => hm) hi.N hi.d (hi.reads hord hn hj hun hgi hanc) hH (fun β h3 h4 => hi.ui j hjJ hun β h3 h4) (hst j gi hgi) fun v u w' ρ' hg hnx => hK _ _ ρ' ?_
  have hρ : ∀ β, (β < (st j).2.length ∨ (st (j + 1)).2.length ≤ β) → ρ' β = ρ β := (hg.mono rfl).2.1
  have hle : ∀ i k, i ≤ k → k ≤ J → j ≤ i → (st i).2.length ≤ (st k).2.length := by
    intro i k h1 h2 h3
    obtain ⟨Δ2, h4⟩ := ext_heap hT hst h1 (by omega) fun q gi' h5 h6 h7 => hmid q gi' (by omega) (by omega) h7
    rw [h4]; simp
  exact {
    size := by simp [hi.size]
    N := by rw [put_size]; exact hi.N
    d := by rw [put_defers']; exact hi.d
    closed := closed_set hord hi.closed hjs hanc
    Jle := hi.Jle
    Jl := fun i gi' h3 h4 h5 => (lst_set hjs i).2 (.inr (hi.Jl i gi' h3 h4 h5))
    Ju := fun h3 => by
      obtain ⟨h4, gi', h5, h6⟩ := hi.Ju h3
      refine ⟨fun h7 => ?_, gi', h5, h6⟩
      rcases (lst_set hjs J).1 h7 with h8 | h8
      · omega
      · exact h4 h8
    h := by
      have := hi.h
      rw [hΔ] at this ⊢
      exact this.mid hg
    u := fun β h3 => by rw [hρ β (.inr (by omega))]; exact hi.u β h3
    ui := fun i h3 h4 β h5 h6 => by
      have hnl : ¬ lst L i := fun h7 => h4 ((lst_set hjs i).2 (.inr h7))
      have hij : i ≠ j := by rintro rfl; exact h4 ((lst_set hjs i).2 (.inl rfl))
      have := hi.ui i h3 hnl β h5 h6
      rcases Nat.lt_or_ge j i with h8 | h8
      · rw [hρ β (.inr (Nat.le_trans (hle (j + 1) i h8 (by omega) (by omega)) h5))]; exact this
      · have hin : i < gs.length := by omega
        have hgi' := List.getElem?_eq_getElem hin
        cases hpi : gs[i].i.quiet with
        | true =>
          have := quiet_same hpi (hst i _ hgi')
          rw [this] at h6; omega
        | false =>
          have hmi := hi.mids hord h3 hnl hgi' hpi
          obtain ⟨Δ2, h9⟩ := ext_heap hT hst (show i + 1 ≤ j by omega) (by omega) fun q gi' h10 h11 h12 => hmi q gi' (by omega) (by omega) h12
          rw [hρ β (.inl (by rw [h9]; simp; omega))]; exact this
    s := hi.slots hord hn hst hj hun hgi hl hg.step hg.vrel hnx
    st := hi.st.trans hg.step }

/-- An operation that changes what was. -/
theorem DInv.change (hT : TabOK P T) (hi : DInv T gs B st N n ρ0 w0 L a w ρ J) (hord : Ordered T ops gs B) (hn : gs.length = n) (hst : ∀ j gi, gs[j]? = some gi → stepG T gi (st j).1 (st j).2 = some (st (j + 1)))
    {j : Nat} {gi : GI} {o : Oper} (hj : j < n) (hun : ¬ lst L j) (hgi : gs[j]? = some gi) (hl : LOp P N ops o gi) (hanc : ∀ i, B i j → lst L i) (hm : gi.i.mono T = false) {K : Act → World → Prop} {Q : Exit → Act → World → Prop}
    (hK : ∀ a' w' ρ' J', DInv T gs B st N n ρ0 w0 (L.setIfInBounds j true) a' w' ρ' J' → K a' w') :
    if Region.wanted o (yielded ops a.tmps) = true then o.wp P a w K Q else K (a.put o.dst undef) w := by
  have hjs : j < L.size := by rw [hi.size]; exact hj
  have hp : gi.i.quiet = false := by
    cases h : gi.i.quiet with
    | false => rfl
    | true => rw [quiet_mono h] at hm; cases hm
  obtain rfl : j = J := by
    rcases Nat.lt_trichotomy j J with h | h | h
    · exact absurd (hi.Jl j gi h hgi hm) hun
    · exact h
    · obtain ⟨h4, gi', h5, h6⟩ := hi.Ju (by omega)
      refine absurd (hanc J (hord.pair J j gi' gi h h5 hgi ?_)) h4
      simp [Inf.clash, GI.inf, h6, quiet_split hp]
  refine step_sound (m := false) hT hl (by simp) hi.N hi.d (hi.reads hord hn hj hun hgi hanc) hi.h (fun β h3 h4 => hi.u β h3) (hst j gi hgi) fun v u w' ρ' hg hnx => ?_
  obtain ⟨J', h1, h2, h3, h4⟩ := next_w hn (n - (j + 1)) (j + 1) (by omega)
  obtain ⟨Δ, hΔ⟩ := ext_heap hT hst h1 (by omega) h3
  have hub : ∀ β, (st (j + 1)).2.length ≤ β → ρ' β = .unborn := fun β h5 => hg.unb β (hi.u β (Nat.le_trans hg.len h5)) (.inr h5)
  refine hK _ _ ρ' J' {
    size := by simp [hi.size]
    N := by rw [put_size]; exact hi.N
    d := by rw [put_defers']; exact hi.d
    closed := closed_set hord hi.closed hjs hanc
    Jle := h2
    Jl := fun i gi' h5 h6 h7 => (lst_set hjs i).2 (by
      rcases Nat.lt_trichotomy i j with h8 | h8 | h8
      · exact .inr (hi.Jl i gi' h8 h6 h7)
      · exact .inl h8
      · rw [h3 i gi' h8 h5 h6] at h7; cases h7)
    Ju := fun h5 => by
      obtain ⟨gi', h6, h7⟩ := h4 h5
      refine ⟨fun h8 => ?_, gi', h6, h7⟩
      rcases (lst_set hjs J').1 h8 with h9 | h9
      · omega
      · refine hun (hi.closed J' h9 j (hord.pair j J' gi gi' (by omega) hgi h6 ?_))
        simp [Inf.clash, GI.inf, hm, quiet_split (show gi'.i.quiet = false from by
          cases h : gi'.i.quiet with
          | false => rfl
          | true => rw [quiet_mono h] at h7; cases h7)]
    h := by rw [hΔ]; exact hg.hrel.ext hub Δ
    u := fun β h5 => hub β (by rw [hΔ] at h5; simp at h5; omega)
    ui := fun i h5 h6 β h7 h8 => by
      have hnl : ¬ lst L i := fun h7 => h6 ((lst_set hjs i).2 (.inr h7))
      have hij : i ≠ j := by rintro rfl; exact h6 ((lst_set hjs i).2 (.inl rfl))
      rcases Nat.lt_or_ge i j with h9 | h9
      · have hin : i < gs.length := by omega
        have hgi' := List.getElem?_eq_getElem hin
        cases hpi : gs[i].i.quiet with
        | true =>
          have := quiet_same hpi (hst i _ hgi')
          rw [this] at h8; omega
        | false =>
          refine absurd (hanc i (hord.pair i j _ gi h9 hgi' hgi ?_)) hnl
          simp [Inf.clash, GI.inf, hm, quiet_split hpi]
      · obtain ⟨Δ2, h10⟩ := ext_heap hT hst (show j + 1 ≤ i by omega) (by omega) fun q gi' h10 h11 h12 => h3 q gi' h10 (by omega) h12
        exact hub β (by rw [h10] at h7; simp at h7; omega)
    s := hi.slots hord hn hst hj hun hgi hl hg.step hg.vrel hnx
    st := hi.st.trans hg.step }

/-- A calm block is what it was, wherever the walk stands. -/
theorem calm_heap (hT : TabOK P T) (hst : ∀ j gi, gs[j]? = some gi → stepG T gi (st j).1 (st j).2 = some (st (j + 1))) {β : Nat} {j : Nat} : ∀ {k : Nat}, j ≤ k → k ≤ gs.length →
    (∀ (i : Nat) (gi : GI), j ≤ i → i < k → gs[i]? = some gi → gi.i.mono T = false → gi.i.isCall = true ∧ β ∉ gi.i.touch (st i).1) → β < (st j).2.length → β < (st k).2.length ∧ (st k).2[β]? = (st j).2[β]?
  | 0, hj, _, _, hb => by rw [Nat.le_zero.1 hj] at hb ⊢; exact ⟨hb, rfl⟩
  | k + 1, hj, hk, hc, hb => by
    rcases Nat.lt_or_ge j (k + 1) with hlt | hge
    · obtain ⟨h1, h2⟩ := calm_heap hT hst (show j ≤ k by omega) (by omega) (fun i gi h1 h2 => hc i gi h1 (by omega)) hb
      have hkl : k < gs.length := by omega
      have hgk := List.getElem?_eq_getElem hkl
      have h3 := hst k _ hgk
      cases hm : gs[k].i.mono T with
      | true =>
        obtain ⟨Δ, h6⟩ := step_ext hT hm h3
        rw [h6, List.length_append, List.getElem?_append_left h1]
        exact ⟨by omega, h2⟩
      | false =>
        obtain ⟨h4, h5⟩ := hc k _ (by omega) (by omega) hgk hm
        obtain ⟨b, _, _, h7, h8⟩ := stepG_spec h3
        cases b with
        | false => rw [(h8 rfl).1]; exact ⟨h1, h2⟩
        | true =>
          obtain ⟨v, h9, _⟩ := h7 rfl
          obtain ⟨h10, h11⟩ := touch_keep hT h4 h9
          exact ⟨by omega, by rw [h11 β h1 h5]; exact h2⟩
    · have : j = k + 1 := by omega
      subst this; exact ⟨hb, rfl⟩

/-- A calm load finds what it finds, wherever the walk stands. -/
theorem DInv.ldc (hT : TabOK P T) (hi : DInv T gs B st N n ρ0 w0 L a w ρ J) (hord : Ordered T ops gs B) (hn : gs.length = n) (hst : ∀ j gi, gs[j]? = some gi → stepG T gi (st j).1 (st j).2 = some (st (j + 1)))
    {j : Nat} {gi : GI} (hj : j < n) (hun : ¬ lst L j) (hgi : gs[j]? = some gi) (hanc : ∀ i, B i j → lst L i) {m s : Nat} {ag : Bool} (hi' : gi.i = .ldc m ag s)
    (hc : ∀ β ∈ gi.calmOf (st j).1, ∀ (i : Nat) (gi : GI), gs[i]? = some gi → β ∉ gi.touched T (st i).1) :
    stepG T gi (st j).1 (st J).2 = some ((st (j + 1)).1, (st J).2) := by
  refine (ldc_step hi' (hst j gi hgi) fun β off cs t z hp hb => ?_).2
  have hβj : β < (st j).2.length := (List.getElem?_eq_some_iff.1 hb).1
  have hcβ := hc β (by simp [GI.calmOf, hi', hp, SV.refs])
  have htch : ∀ (i : Nat) (gi : GI), gs[i]? = some gi → gi.i.mono T = false → β ∉ gi.i.touch (st i).1 := fun i gi h1 h2 => by
    have := hcβ i gi h1
    rw [GI.touched, h2] at this
    exact this
  have hpj : gi.i.pure = false := by rw [hi']; rfl
  have hrd := hi.reads hord hn hj hun hgi hanc s (by
    have : s ∈ gi.i.slots := by simp [hi', I.slots, I.args, S.slot]
    unfold GI.reads
    split
    · exact this
    · exact List.mem_cons_of_mem _ this)
  rw [hp] at hrd
  have hborn : β < (st J).2.length := by
    rcases Nat.lt_or_ge β (st J).2.length with h | h
    · exact h
    · have := hi.u β h
      simp only [VRel, this] at hrd
  have hJ := hi.Jle
  have np : ∀ {i : I}, i.mono T = false → i.pure = false ∧ i.isLdc = false := fun {i} h => by
    cases hq : i.quiet with
    | false => exact quiet_split hq
    | true => rw [quiet_mono hq] at h; cases h
  rcases Nat.le_total j J with h | h
  · rw [(calm_heap hT hst h (by omega) (fun i gi' h1 h2 h3 h4 => ⟨?_, htch i gi' h3 h4⟩) hβj).2]; exact hb
    cases hcl : gi'.i.isCall with
    | true => rfl
    | false =>
      have hij : j < i := by
        rcases Nat.lt_or_ge j i with h5 | h5
        · exact h5
        · obtain rfl : i = j := by omega
          rw [hgi] at h3; cases h3
          rw [hi'] at h4; simp [I.mono] at h4
      refine absurd (hi.closed i (hi.Jl i gi' h2 h3 h4) j (hord.pair j i gi gi' hij hgi h3 ?_)) hun
      simp [Inf.clash, GI.inf, h4, hcl, hpj]
  · rw [← (calm_heap hT hst h (by omega) (fun i gi' h1 h2 h3 h4 => ⟨?_, htch i gi' h3 h4⟩) hborn).2]; exact hb
    cases hcl : gi'.i.isCall with
    | true => rfl
    | false =>
      obtain ⟨hJl, giJ, h5, h6⟩ := hi.Ju (by omega)
      have hil : lst L i := hanc i (hord.pair i j gi' gi h2 h3 hgi (by simp [Inf.clash, GI.inf, h4, hcl, hpj]))
      rcases Nat.lt_or_ge J i with h7 | h7
      · exact absurd (hi.closed i hil J (hord.pair J i giJ gi' h7 h5 h3 (by simp [Inf.clash, GI.inf, h6, np h4]))) hJl
      · obtain rfl : i = J := by omega
        exact absurd hil hJl

def unl (L : Array Bool) : Nat := L.toList.count false

theorem unl_set {j : Nat} (hj : j < L.size) (hun : ¬ lst L j) : unl L = unl (L.setIfInBounds j true) + 1 := by
  unfold unl
  have hl : j < L.toList.length := by simpa using hj
  rw [Array.toList_setIfInBounds, List.count_set hl]
  have h1 : L.toList[j] = false := by
    unfold lst at hun
    have : L.getD j false = L.toList[j] := by simp [hj]
    rw [this] at hun; simpa using hun
  have h2 : 0 < L.toList.count false := List.count_pos_iff.2 (h1 ▸ List.getElem_mem hl)
  rw [h1]
  generalize L.toList.count false = c at h2 ⊢
  show c = (c - 1 + 0) + 1
  omega

theorem any_sound (hT : TabOK P T) (hord : Ordered T ops gs B) (hn : gs.length = n) (hops : ops.size = n) (hls : ∀ (j : Nat) (o : Oper) (gi : GI), ops[j]? = some o → gs[j]? = some gi → LOp P N ops o gi)
    (hst : ∀ j gi, gs[j]? = some gi → stepG T gi (st j).1 (st j).2 = some (st (j + 1))) {Q : Exit → Act → World → Prop}
    (hcalm : ∀ (j : Nat) (gj : GI), gs[j]? = some gj → ∀ β ∈ gj.calmOf (st j).1, ∀ (i : Nat) (gi : GI), gs[i]? = some gi → β ∉ gi.touched T (st i).1)
    (hQ : ∀ ρ' a' w', At P N ρ' (st n).2 w' (st n).1 a' → Step ρ0 w0 ρ' w' → Q .normal a' w') :
    ∀ (fuel : Nat) (L : Array Bool) (a : Act) (w : World) (ρ : Map) (J : Nat), unl L = fuel → DInv T gs B st N n ρ0 w0 L a w ρ J → wpAny P .any ops Q fuel L a w := by
  have fin : ∀ {L : Array Bool} {a : Act} {w : World} {ρ : Map} {J : Nat}, (∀ j, j < n → lst L j) → DInv T gs B st N n ρ0 w0 L a w ρ J → Q .normal a w := by
    intro L a w ρ J hall hi
    have hJ : J = n := by
      rcases Nat.lt_or_ge J n with h | h
      · exact absurd (hall J h) (hi.Ju h).1
      · have := hi.Jle; omega
    subst hJ
    refine hQ ρ a w ⟨⟨hi.N, hi.d, fun s => ?_⟩, hi.h, hi.u⟩ hi.st
    refine hi.s s J (Nat.le_refl _) (fun i gi h1 _ _ => hall i h1) (fun i gi h1 h2 _ => ?_)
    have := (List.getElem?_eq_some_iff.1 h2).1
    omega
  have allof : ∀ {L : Array Bool}, L.size = n → Region.ready .any ops L = [] → ∀ j, j < n → lst L j := by
    intro L hL hr j
    induction j using Nat.strongRecOn with
    | ind j ih =>
      intro hj
      by_cases hl : lst L j
      · exact hl
      · have hm : j ∈ Region.ready .any ops L := mem_ready.2 ⟨by
          unfold lst at hl
          have h1 : j < L.size := by omega
          simp [h1] at hl ⊢; exact hl, ops[j]'(by omega), Array.getElem?_eq_getElem (by omega), fun e he hb => by
          have h1 := hord.back j _ (Array.getElem?_eq_getElem (by omega)) e he hb
          exact ih e.on h1 (by omega)⟩
        rw [hr] at hm; cases hm
  intro fuel
  induction fuel with
  | zero =>
    intro L a w ρ J hu hi
    have hall : ∀ j, j < n → lst L j := by
      intro j hj
      by_cases hl : lst L j
      · exact hl
      · have := unl_set (by rw [hi.size]; exact hj) hl
        omega
    refine ⟨?_, fin hall hi⟩
    cases hr : Region.ready .any ops L with
    | nil => rfl
    | cons x xs =>
      have hx : x ∈ Region.ready .any ops L := by rw [hr]; simp
      obtain ⟨h1, o, ho, _⟩ := mem_ready.1 hx
      have hx1 : x < n := by rw [← hops]; exact (Array.getElem?_eq_some_iff.1 ho).1
      have h2 := hall x hx1
      unfold lst at h2
      have h3 : x < L.size := by rw [hi.size]; exact hx1
      simp [h3] at h1 h2
      rw [h1] at h2; cases h2
  | succ fuel ih =>
    intro L a w ρ J hu hi
    refine ⟨fun hr => fin (allof hi.size hr) hi, fun j hj => ?_⟩
    obtain ⟨h1, o, ho, hall⟩ := mem_ready.1 hj
    have hjn : j < n := by rw [← hops]; exact (Array.getElem?_eq_some_iff.1 ho).1
    have hjs : j < L.size := by rw [hi.size]; exact hjn
    have hun : ¬ lst L j := by
      unfold lst
      simp [hjs] at h1 ⊢; exact h1
    have hgi : gs[j]? = some (gs[j]'(by omega)) := List.getElem?_eq_getElem (by omega)
    have hl := hls j o _ ho hgi
    have hanc : ∀ i, B i j → lst L i := by
      intro i hb
      obtain ⟨e, he, hbd, h2⟩ := hord.anc j o ho i hb
      have h3 : lst L e.on := hall e he hbd
      rcases h2 with h2 | h2
      · subst h2; exact h3
      · exact hi.closed e.on h3 i h2
    have hu' : unl (L.setIfInBounds j true) = fuel := by have := unl_set hjs hun; omega
    have key : if Region.wanted o (yielded ops a.tmps) = true then o.wp P a w (wpAny P .any ops Q fuel (L.setIfInBounds j true)) Q else wpAny P .any ops Q fuel (L.setIfInBounds j true) (a.put o.dst undef) w := by
      cases hp : (gs[j]'(by omega)).i.quiet with
      | true =>
        have h2 : stepG T (gs[j]'(by omega)) (st j).1 (st J).2 = some ((st (j + 1)).1, (st J).2) := by
          have hq := hp
          unfold I.quiet at hq
          simp only [Bool.or_eq_true] at hq
          rcases hq with hq | hq
          · exact (step_pure hq (hst j _ hgi) (st J).2).2
          · cases hil : (gs[j]'(by omega)).i <;> rw [hil] at hq <;> simp only [I.isLdc, Bool.false_eq_true] at hq
            exact hi.ldc hT hord hn hst hjn hun hgi hanc hil (hcalm j _ hgi)
        exact hi.pure hT hord hn hst hjn hun hgi hl hanc (quiet_mono hp) h2 fun a' w' ρ' hi' => ih _ a' w' ρ' J hu' hi'
      | false =>
        cases hm : (gs[j]'(by omega)).i.mono T with
        | true => exact hi.mono hT hord hn hst hjn hun hgi hl hanc hp hm fun a' w' ρ' hi' => ih _ a' w' ρ' J hu' hi'
        | false => exact hi.change hT hord hn hst hjn hun hgi hl hanc hm fun a' w' ρ' J' hi' => ih _ a' w' ρ' J' hu' hi'
    unfold wpOp
    simp only [ho]
    split
    · rename_i hw; rw [if_pos hw] at key; exact .inl key
    · rename_i hw; rw [if_neg hw] at key; exact key

/-- A region, in every order. -/
theorem drawn_sound {R : Type} {τ : Env} {H : Heap} {k : Env → Heap → Option R} {r : R} (hT : TabOK P T) (hlen : gs.length = ops.size) (hord : orderOK T ops.toList gs = true) (hls : ∀ (j : Nat) (o : Oper) (gi : GI), ops[j]? = some o → gs[j]? = some gi → LOp P N ops o gi)
    (hat : At P N ρ H w τ a) (he : runRD T gs [] [] τ H k = some r) {Q : Exit → Act → World → Prop}
    (hQ : ∀ τ' H' ρ' a' w', At P N ρ' H' w' τ' a' → Step ρ w ρ' w' → k τ' H' = some r → Q .normal a' w') :
    wpAny P .any ops Q ops.size (Array.replicate ops.size false) a w := by
  obtain ⟨B, hB⟩ := orderOK_spec hlen hord
  obtain ⟨st, h0, hst, hk, hcm⟩ := runRD_states (by simp) he
  obtain ⟨J, h1, h2, h3, h4⟩ := next_w (T := T) hlen ops.size 0 (by omega)
  obtain ⟨Δ, hΔ⟩ := ext_heap hT hst h1 (by omega) h3
  have hno : ∀ j, ¬ lst (Array.replicate ops.size false) j := by
    intro j
    unfold lst
    by_cases hj : j < ops.size
    · simp [hj]
    · simp [hj]
  rw [h0] at hΔ
  refine any_sound (ρ0 := ρ) (w0 := w) hT hB hlen rfl hls hst (fun j gj hj β hb => (hcm β (.inr ⟨j, gj, hj, hb⟩)).2) (fun ρ' a' w' hat' hst' => hQ _ _ ρ' a' w' hat' hst' (by rw [← hlen]; exact hk)) ops.size _ a w ρ J (by simp [unl]) {
    size := by simp
    N := hat.t.1
    d := hat.t.2.1
    closed := fun j h => absurd h (hno j)
    Jle := h2
    Jl := fun i gi h5 h6 h7 => by rw [h3 i gi (by omega) h5 h6] at h7; cases h7
    Ju := fun h5 => ⟨hno J, h4 h5⟩
    h := by rw [hΔ]; exact hat.h.ext hat.u Δ
    u := fun β h5 => hat.u β (by rw [hΔ] at h5; simp at h5; omega)
    ui := fun i h5 _ β h6 _ => by
      obtain ⟨Δ2, h7⟩ := ext_heap hT hst (show 0 ≤ i by omega) (by omega) fun q gi h8 h9 h10 => h3 q gi h8 (by omega) h10
      rw [h0] at h7
      exact hat.u β (by rw [h7] at h6; simp at h6; omega)
    s := fun s j hj h5 _ => by
      have hc := const_slot (s := s) hst (show 0 ≤ j by omega) (by omega) fun i gi h6 h7 h8 h9 => hno i (h5 i gi h7 h8 h9)
      rw [hc, h0]; exact hat.t.2.2 s
    st := Step.refl _ _ }
end
end Go.Proofs.Ytjnkefbdpcbkmaa.Den
