/- Contracts of any shape: a caller leans on one; a table's entry. -/
import Derived.Test.YtjnkefbdpcbkmaaD27
namespace Go.Proofs.Ytjnkefbdpcbkmaa.Den
open Go Go.RowKit
set_option linter.unusedVariables false
set_option linter.unusedSimpArgs false

section
variable {w : World} {ρ : Map} {H : Heap}

theorem te_soundG {P : Program} {f : FuncId} {tf : TG} (hok : tf.ok = true) (h : FnSpecG P f tf) : TESound P f tf.te := by
  intro ρ H w args vs x y v H' hH hv hun hview hfn hput
  have hput' : v = resV (putS tf.rs y H).1 ∧ H' = (putS tf.rs y H).2 := by
    simp only [TG.te, Option.some.injEq, Prod.mk.injEq] at hput
    exact ⟨hput.1.symm, hput.2.symm⟩
  obtain ⟨rfl, rfl⟩ := hput'
  -- what is kept from the callee
  let res : Nat → Prop := fun b => ρ.res b ∨ (tf.flat = false ∧ ∃ β o n sz, ρ β = .at b o n sz)
  have hres : ∀ b, res b → b < w.heap.size := by
    rintro b (hb | ⟨_, β, o, n, sz, hb⟩)
    · exact hH.resl b hb
    · exact hH.lt _ _ _ _ _ hb
  have hps : ShRel w (fun b => b < w.heap.size ∧ ¬ res b) tf.ps x vs := by
    simp only [TG.te] at hview
    cases hfl : tf.flat with
    | true =>
      rw [hfl] at hview
      refine ShRel.of_view (ρ := ρ) (fun {K s x u} h1 h2 => ?_) hview hv
      refine decH_rel hH (B := fun b => b < w.heap.size ∧ ¬ res b) (fun b hb => ⟨hb.1, ?_⟩) (fun γ b o n sz _ hg => ⟨hH.lt _ _ _ _ _ hg, ?_⟩) h1 (VRels.single h2)
      · rintro (h3 | ⟨h3, _⟩)
        · exact hb.2.1 h3
        · rw [hfl] at h3; cases h3
      · rintro (h3 | ⟨h3, _⟩)
        · exact hH.resf _ _ _ _ _ hg h3
        · rw [hfl] at h3; cases h3
    | false =>
      rw [hfl] at hview
      refine ShRel.of_view (ρ := ρ) (fun {K s x u} h1 h2 => ?_) hview hv
      exact CRel.mono (fun b hb => ⟨hb.1, fun h3 => by
        rcases h3 with h3 | ⟨_, β, o, n, sz, h3⟩
        · exact hb.2.1 h3
        · exact hb.2.2 _ _ _ _ h3⟩) (fun _ _ => rfl) (decC_rel h1 (VRels.single h2))
  refine Calls.mono (h w res vs x y hres hps hfn) fun e w' he => ?_
  obtain ⟨us, tk, rfl, hos, htape, hout, hsize, hkept, hnd, htk, hps'⟩ := he
  have hB : ShOut w' (fun b => b < w'.heap.size ∧ ¬ ρ.res b ∧ (∀ β o n sz, ρ β ≠ .at b o n sz) ∧ b ∉ tk) tf.rs y us.toList tk := by
    cases hfl : tf.flat with
    | true =>
      refine ShOut.mono (.inr ?_) hps'
      simpa [TG.ok, hfl] using hok
    | false =>
      exact ShOut.mono (.inl fun b hb => ⟨hb.1, fun h3 => hb.2.1 (.inl h3), fun β o n sz h3 => hb.2.1 (.inr ⟨hfl, β, o, n, sz, h3⟩), hb.2.2⟩) hps'
  obtain ⟨bs, ms, hent, hH', hvr⟩ := putS_ent hB H
  have hml := hent.len
  have hlt : ∀ {β}, β < H.length → (ρ.add H.length ms) β = ρ β := fun h => by simp [Map.add, h]
  have hge : ∀ {i}, i < ms.length → ∃ m, ms[i]? = some m ∧ (ρ.add H.length ms) (H.length + i) = m := fun {i} h => by
    refine ⟨ms[i], List.getElem?_eq_getElem h, ?_⟩
    simp only [Map.add]; rw [if_neg (by omega), Nat.add_sub_cancel_left, List.getElem?_eq_getElem h]
  have hgt : ∀ {β}, H.length + ms.length ≤ β → (ρ.add H.length ms) β = ρ β := fun {β} h => by
    simp only [Map.add]; rw [if_neg (by omega), List.getElem?_eq_none (by omega)]
  have cases3 : ∀ β, (β < H.length ∧ (ρ.add H.length ms) β = ρ β) ∨ (H.length + ms.length ≤ β ∧ (ρ.add H.length ms) β = ρ β) ∨ ∃ i m, β = H.length + i ∧ ms[i]? = some m ∧ (ρ.add H.length ms) β = m := by
    intro β
    rcases Nat.lt_or_ge β H.length with h1 | h1
    · exact .inl ⟨h1, hlt h1⟩
    · rcases Nat.lt_or_ge β (H.length + ms.length) with h2 | h2
      · obtain ⟨m, h3, h4⟩ := hge (i := β - H.length) (by omega)
        rw [show H.length + (β - H.length) = β by omega] at h4
        exact .inr (.inr ⟨β - H.length, m, by omega, h3, h4⟩)
      · exact .inr (.inl ⟨h2, hgt h2⟩)
  have htkn : ∀ {i : Nat} {b o n sz : Nat}, ms[i]? = some (.at b o n sz) → b ∈ tk := fun hm => hent.mem _ _ _ _ _ hm
  have hub : ∀ β, H.length ≤ β → β < H.length + ms.length → ρ β = .unborn := fun β h1 h2 => hun β h1 (by rw [hH']; simp; omega)
  have hstep : Step ρ w (ρ.add H.length ms) w' := {
    os := hos, tape := htape, output := hout, size := hsize
    kept := fun b hb _ => hkept b hb
    shape := fun b C t fr hb => ⟨C, by rw [hkept b (Array.getElem?_eq_some_iff.1 hb).1]; exact hb, rfl⟩
    img := fun β b o n sz hb => by
      rcases cases3 β with ⟨_, h2⟩ | ⟨_, h2⟩ | ⟨i, m, _, h3, h4⟩
      · rw [h2] at hb; exact .inl ⟨β, o, n, sz, hb⟩
      · rw [h2] at hb; exact .inl ⟨β, o, n, sz, hb⟩
      · rw [h4] at hb; subst hb
        exact .inr (htk b (htkn h3)).1
    ref := fun β hb => by
      rcases cases3 β with ⟨_, h2⟩ | ⟨_, h2⟩ | ⟨i, m, h2, h3, _⟩
      · exact .inl h2
      · exact .inl h2
      · exact absurd (hub β (by omega) (by have := (List.getElem?_eq_some_iff.1 h3).1; omega)) hb
    res := rfl }
  have hfree : ∀ b, (b < w'.heap.size ∧ ¬ ρ.res b ∧ (∀ β o n sz, ρ β ≠ .at b o n sz) ∧ b ∉ tk) → Free (ρ.add H.length ms) w' b := fun b hb => ⟨hb.1, hb.2.1, fun β o n sz h1 => by
    rcases cases3 β with ⟨_, h2⟩ | ⟨_, h2⟩ | ⟨i, m, _, h3, h4⟩
    · rw [h2] at h1; exact hb.2.2.1 _ _ _ _ h1
    · rw [h2] at h1; exact hb.2.2.1 _ _ _ _ h1
    · rw [h4] at h1; subst h1; exact hb.2.2.2 (htkn h3)⟩
  have hag : Agree (ρ.add H.length ms) H.length ms := fun i m hm => by
    obtain ⟨m', h1, h2⟩ := hge (List.getElem?_eq_some_iff.1 hm).1
    rw [hm] at h1; cases h1; exact h2
  have hok2 : ∀ (i : Nat) (m : Img), ms[i]? = some m → ∃ x, bs[i]? = some x ∧ ((m = .none_ ∧ ∃ e, x = .arr e [] 0) ∨ ∃ b o n sz, m = .at b o n sz ∧ BRel (ρ.add H.length ms) w' b o n sz x) := fun i m hm => by
    have hi := (List.getElem?_eq_some_iff.1 hm).1
    have hx := List.getElem?_eq_getElem (l := bs) (i := i) (by omega)
    exact ⟨_, hx, hent.ok _ hag hfree i _ m hx hm⟩
  have hlen : (H ++ bs).length = H.length + ms.length := by rw [hml]; simp
  have hsz : ∀ {β b o n sz}, ρ β = .at b o n sz → b < w.heap.size := fun h => hH.lt _ _ _ _ _ h
  refine ⟨resU us, ρ.add H.length ms, rfl, hstep, ?_, ?_, ?_, ?_, ?_⟩
  · rw [hH']
    constructor
    · intro β hl hd
      rcases cases3 β with ⟨h1, h2⟩ | ⟨h1, h2⟩ | ⟨i, m, h2, h3, h4⟩
      · rw [List.getElem?_append_left h1]; exact hH.dead β h1 (by rw [← h2]; exact hd)
      · omega
      · rw [h4] at hd; subst hd
        obtain ⟨_, _, h6⟩ := hok2 _ _ h3
        rcases h6 with ⟨h6, _⟩ | ⟨_, _, _, _, h6, _⟩ <;> cases h6
    · intro β hl hd
      rcases cases3 β with ⟨h1, h2⟩ | ⟨h1, h2⟩ | ⟨i, m, h2, h3, h4⟩
      · rw [List.getElem?_append_left h1]; exact hH.none_ β h1 (by rw [← h2]; exact hd)
      · omega
      · rw [h4] at hd; subst hd; subst h2
        obtain ⟨x, h5, h6⟩ := hok2 _ _ h3
        rcases h6 with ⟨_, e, h6⟩ | ⟨_, _, _, _, h6, _⟩
        · subst h6
          exact .inl ⟨e, 0, by rw [List.getElem?_append_right (by omega), Nat.add_sub_cancel_left]; exact h5⟩
        · cases h6
    · intro β hl b o n sz hd
      rcases cases3 β with ⟨h1, h2⟩ | ⟨h1, h2⟩ | ⟨i, m, h2, h3, h4⟩
      · rw [h2] at hd
        obtain ⟨x, h5, h6⟩ := hH.at_ β h1 _ _ _ _ hd
        exact ⟨x, by rw [List.getElem?_append_left h1]; exact h5, h6.keep hstep (hkept b (hsz hd))⟩
      · omega
      · rw [h4] at hd; subst hd; subst h2
        obtain ⟨x, h5, h6⟩ := hok2 _ _ h3
        rcases h6 with ⟨h6, _⟩ | ⟨b', o', n', sz', h6, h7⟩
        · cases h6
        · cases h6
          exact ⟨_, by rw [List.getElem?_append_right (by omega), Nat.add_sub_cancel_left]; exact h5, h7⟩
    · intro β γ b o n sz o' n' sz' hb hc
      rcases cases3 β with ⟨h1, h2⟩ | ⟨h1, h2⟩ | ⟨i, m, h2, h3, h4⟩ <;> rcases cases3 γ with ⟨g1, g2⟩ | ⟨g1, g2⟩ | ⟨j, m', g2, g3, g4⟩
      · rw [h2] at hb; rw [g2] at hc; exact hH.inj _ _ _ _ _ _ _ _ _ hb hc
      · rw [h2] at hb; rw [g2] at hc; exact hH.inj _ _ _ _ _ _ _ _ _ hb hc
      · rw [h2] at hb; rw [g4] at hc; subst hc
        have := (htk b (htkn g3)).1; have := hsz hb; omega
      · rw [h2] at hb; rw [g2] at hc; exact hH.inj _ _ _ _ _ _ _ _ _ hb hc
      · rw [h2] at hb; rw [g2] at hc; exact hH.inj _ _ _ _ _ _ _ _ _ hb hc
      · rw [h2] at hb; rw [g4] at hc; subst hc
        have := (htk b (htkn g3)).1; have := hsz hb; omega
      · rw [h4] at hb; subst hb; rw [g2] at hc
        have := (htk b (htkn h3)).1; have := hsz hc; omega
      · rw [h4] at hb; subst hb; rw [g2] at hc
        have := (htk b (htkn h3)).1; have := hsz hc; omega
      · rw [h4] at hb; subst hb; rw [g4] at hc; subst hc
        rw [h2, g2, hent.inj hnd i j _ _ _ _ _ _ _ h3 g3]
    · intro β b o n sz hb
      rcases cases3 β with ⟨h1, h2⟩ | ⟨h1, h2⟩ | ⟨i, m, h2, h3, h4⟩
      · rw [h2] at hb; have := hsz hb; omega
      · rw [h2] at hb; have := hsz hb; omega
      · rw [h4] at hb; subst hb; exact (htk b (htkn h3)).2
    · intro b hb; have := hH.resl b hb; omega
    · intro β b o n sz hb hr
      rcases cases3 β with ⟨h1, h2⟩ | ⟨h1, h2⟩ | ⟨i, m, h2, h3, h4⟩
      · rw [h2] at hb; exact hH.resf _ _ _ _ _ hb hr
      · rw [h2] at hb; exact hH.resf _ _ _ _ _ hb hr
      · rw [h4] at hb; subst hb
        have := (htk b (htkn h3)).1; have := hH.resl b hr; omega
  · exact resV_rel (hvr (ρ.add H.length ms) hag hfree)
  · rw [hH']; simp
  · intro β hb hc
    rcases cases3 β with ⟨_, h2⟩ | ⟨_, h2⟩ | ⟨i, m, h2, h3, h4⟩
    · rw [h2]; exact hb
    · rw [h2]; exact hb
    · exfalso
      rw [hH'] at hc
      have := (List.getElem?_eq_some_iff.1 h3).1
      simp at hc; omega
  · intro _
    refine ⟨⟨bs, hH'⟩, fun β hc => ?_, fun b hb => hkept b hb⟩
    rcases cases3 β with ⟨_, h2⟩ | ⟨_, h2⟩ | ⟨i, m, h2, h3, h4⟩
    · exact h2
    · exact h2
    · exfalso
      rw [hH'] at hc
      have := (List.getElem?_eq_some_iff.1 h3).1
      simp at hc; omega

theorem EntryOK.tg {P : Program} {f : Nat} {tf : TG} (hok : tf.ok = true) (h : FnSpecG P f tf) (hf : ∃ fn, P.funcs[f]? = some fn ∧ fn.name ≠ "runtime.NumGoroutine" ∧ fn.body.isSome = true) : EntryOK P f tf.te :=
  have hput : ∀ {s : Sh} {y : s.T} {H : Heap}, ∃ Δ, (putS s y H).2 = H ++ Δ := by
    intro s
    induction s with
    | nil => intro y H; exact ⟨[], by simp [putS]⟩
    | cell K f r ih =>
      intro y H
      rcases cellCases K f with hp | ⟨e, rfl, rfl⟩ | ⟨e, n, rfl, rfl⟩
      · rw [putS_plain hp]; exact ih
      · obtain ⟨Δ, h⟩ := ih (y := y.2) (H := H ++ [.arr e y.1 0])
        exact ⟨_, by simp only [putS]; rw [h, List.append_assoc]⟩
      · obtain ⟨Δ, h⟩ := ih (y := y.2) (H := H ++ (ownRow H.length n :: innerB e (rowsN n y.1)))
        exact ⟨_, by simp only [putS]; rw [h, List.append_assoc]⟩
    | agg i r ih1 ih2 =>
      intro y H
      obtain ⟨Δ1, h1⟩ := ih1 (y := y.1) (H := H)
      obtain ⟨Δ2, h2⟩ := ih2 (y := y.2) (H := (putS i y.1 H).2)
      exact ⟨Δ1 ++ Δ2, by simp only [putS]; rw [h2, h1, List.append_assoc]⟩
    | ifc t i r ih1 ih2 =>
      intro y H
      obtain ⟨Δ1, h1⟩ := ih1 (y := y.1) (H := H)
      obtain ⟨Δ2, h2⟩ := ih2 (y := y.2) (H := (putS i y.1 H).2)
      exact ⟨Δ1 ++ Δ2, by simp only [putS]; rw [h2, h1, List.append_assoc]⟩
    | fnc g r ih =>
      intro y H
      obtain ⟨Δ, h⟩ := ih (y := y) (H := H)
      exact ⟨Δ, by simp only [putS]; exact h⟩
  { snd := te_soundG hok h
    fn := hf
    ext := fun _ x y args H v H' hp => by
      have h2 : (putS tf.rs y H).2 = H' := congrArg Prod.snd (Option.some.inj hp)
      rw [← h2]; exact hput
    tch := fun x y args H v H' _ hp => by
      have h2 : (putS tf.rs y H).2 = H' := congrArg Prod.snd (Option.some.inj hp)
      rw [← h2]; exact ext_tch (te := tf.te) (x := x) (y := y) (v := v) hput }
end
end Go.Proofs.Ytjnkefbdpcbkmaa.Den
