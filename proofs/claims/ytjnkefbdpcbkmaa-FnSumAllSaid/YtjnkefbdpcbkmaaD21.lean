/- A caller leans on a contract that writes through a pointer. -/
import Derived.Test.YtjnkefbdpcbkmaaD20
namespace Go.Proofs.Ytjnkefbdpcbkmaa.Den
open Go Go.RowKit
set_option linter.unusedVariables false
set_option linter.unusedSimpArgs false

section
variable {w : World} {ρ : Map} {H : Heap}

theorem te_soundU {P : Program} {f : FuncId} {tf : TFU} (h : FnSpecU P f tf) : TESound P f tf.te := by
  intro ρ H w args vs x y v H' hH hv hun hview hfn hput
  change tf.rf.T × PsT tf.ps at x
  change tf.rf.T × PsT tf.rs at y
  obtain ⟨β, r, c, xx, rfl, hc, hxx, rfl⟩ : ∃ β r c xx, args = .ptr β 0 :: r ∧ Rf.view [] tf.rf H[β]? = some c ∧ viewPs [] tf.ps r = some xx ∧ x = (c, xx) := by
    change (match (generalizing := false) args with
      | .ptr β 0 :: r => (match Rf.view [] tf.rf H[β]?, viewPs [] tf.ps r with
        | some c, some x => some (c, x)
        | _, _ => none)
      | _ => none) = some x at hview
    split at hview
    · rename_i β r
      split at hview
      · rename_i c xx h1 h2
        simp only [Option.some.injEq] at hview
        exact ⟨β, r, c, xx, rfl, h1, h2, hview.symm⟩
      · simp at hview
    · simp at hview
  obtain ⟨c', yy⟩ := y
  have hput' : v = resV (putPs tf.rs yy (H.set β (tf.rf.blk c'))).1 ∧ H' = (putPs tf.rs yy (H.set β (tf.rf.blk c'))).2 := by
    simp only [TFU.te, Option.some.injEq, Prod.mk.injEq] at hput
    exact ⟨hput.1.symm, hput.2.symm⟩
  obtain ⟨rfl, rfl⟩ := hput'
  simp only [VRels] at hv
  obtain ⟨v0, vs', rfl, hv0, hv'⟩ := hv
  obtain ⟨y0, hy0, hnd0⟩ := Rf.view_some hc
  obtain ⟨b, o, n, sz, hr, hv0⟩ := ptr_rel hH hy0 hnd0 hv0
  rw [Nat.add_zero] at hv0
  subst hv0
  let res : Nat → Prop := fun b' => ρ.res b' ∨ (b' ≠ b ∧ ∃ β o n sz, ρ β = .at b' o n sz)
  have hres : ∀ b, res b → b < w.heap.size := by
    rintro b (hb | ⟨_, β, o, n, sz, hb⟩)
    · exact hH.resl b hb
    · exact hH.lt _ _ _ _ _ hb
  have hrb : ¬ res b := by
    rintro (hb | ⟨hb, _⟩)
    · exact hH.resf _ _ _ _ _ hr hb
    · exact hb rfl
  have hfB : ∀ b', Free ρ w b' → b' < w.heap.size ∧ ¬ res b' ∧ b' ≠ b := fun b' hb => ⟨hb.1, fun h3 => by
    rcases h3 with h3 | ⟨_, β, o, n, sz, h3⟩
    · exact hb.2.1 h3
    · exact hb.2.2 _ _ _ _ h3, fun e => by subst e; exact hb.2.2 _ _ _ _ hr⟩
  have hd : ∀ {K : Kd} {s : SV} {x : K.T} {u : Value}, decH true [] K [s] = some x → VRel ρ w s u → CRel w (fun b' => b' < w.heap.size ∧ ¬ res b' ∧ b' ≠ b) K x [u] := fun h1 h2 =>
    CRel.mono hfB (fun _ _ => rfl) (decC_rel h1 (VRels.single h2))
  obtain ⟨href, hsz, hnn, harr, hlt⟩ := RefAt.of_view hd hfB hH hr hc
  refine Calls.mono (h w res vs' c c' xx yy b o hres hrb href (PsRel.of_view hd hxx hv') hfn) fun e w' he => ?_
  obtain ⟨us, tk, rfl, hos, htape, hout, hsize, hkept, hshape, hnd, htk, hps', href', hlen'⟩ := he
  obtain ⟨bs, ms, hent, hputs⟩ := putPs_ent hps'
  obtain ⟨hH', hvr⟩ := hputs (H.set β (tf.rf.blk c'))
  have hl1 : (H.set β (tf.rf.blk c')).length = H.length := by simp
  have hml := hent.length
  have hlt' : ∀ {β}, β < H.length → (ρ.add H.length ms) β = ρ β := fun h => by simp [Map.add, h]
  have hge : ∀ {i}, i < ms.length → ∃ m, ms[i]? = some m ∧ (ρ.add H.length ms) (H.length + i) = m := fun {i} h => by
    refine ⟨ms[i], List.getElem?_eq_getElem h, ?_⟩
    simp only [Map.add]; rw [if_neg (by omega), Nat.add_sub_cancel_left, List.getElem?_eq_getElem h]
  have hgt : ∀ {β}, H.length + ms.length ≤ β → (ρ.add H.length ms) β = ρ β := fun {β} h => by
    simp only [Map.add]; rw [if_neg (by omega), List.getElem?_eq_none (by omega)]
  have cases3 : ∀ β, (β < H.length ∧ (ρ.add H.length ms) β = ρ β) ∨ (H.length + ms.length ≤ β ∧ (ρ.add H.length ms) β = ρ β) ∨ ∃ i m, β = H.length + i ∧ ms[i]? = some m ∧ (ρ.add H.length ms) β = m := by
    intro β
    rcases Nat.lt_or_ge β H.length with h1 | h1
    · exact .inl ⟨h1, hlt' h1⟩
    · rcases Nat.lt_or_ge β (H.length + ms.length) with h2 | h2
      · obtain ⟨m, h3, h4⟩ := hge (i := β - H.length) (by omega)
        rw [show H.length + (β - H.length) = β by omega] at h4
        exact .inr (.inr ⟨β - H.length, m, by omega, h3, h4⟩)
      · exact .inr (.inl ⟨h2, hgt h2⟩)
  have htkn : ∀ {i : Nat} {b o n sz : Nat}, ms[i]? = some (.at b o n sz) → b ∈ tk := fun hm => by
    obtain ⟨_, t, _, h6, h7⟩ := hent.get _ _ hm
    exact h7 _ h6.at_
  have hub : ∀ β, H.length ≤ β → β < H.length + ms.length → ρ β = .unborn := fun β h1 h2 => hun β h1 (by rw [hH']; simp; omega)
  have hsb : ∀ {β b o n sz}, ρ β = .at b o n sz → b < w.heap.size := fun h => hH.lt _ _ _ _ _ h
  have hstep : Step ρ w (ρ.add H.length ms) w' := {
    os := hos, tape := htape, output := hout, size := hsize
    kept := fun b' hb hn => hkept b' hb (fun e => by subst e; exact hn _ _ _ _ hr)
    shape := hshape
    img := fun β b o n sz hb => by
      rcases cases3 β with ⟨_, h2⟩ | ⟨_, h2⟩ | ⟨i, m, _, h3, h4⟩
      · rw [h2] at hb; exact .inl ⟨β, o, n, sz, hb⟩
      · rw [h2] at hb; exact .inl ⟨β, o, n, sz, hb⟩
      · rw [h4] at hb; subst hb
        exact .inr (htk b (htkn h3)).1
    ref := fun β hb => by
      rcases cases3 β with ⟨_, h2⟩ | ⟨_, h2⟩ | ⟨i, m, h2, h3, _⟩
      · exact .inl h2
      · exact .inl h2
      · exact absurd (hub β (by omega) (by have := (List.getElem?_eq_some_iff.1 h3).1; omega)) hb
    res := rfl }
  have hfree : ∀ b', (b' < w'.heap.size ∧ ¬ res b' ∧ b' ≠ b ∧ b' ∉ tk) → Free (ρ.add H.length ms) w' b' := fun b' hb => ⟨hb.1, fun h3 => hb.2.1 (.inl h3), fun β o n sz h1 => by
    rcases cases3 β with ⟨_, h2⟩ | ⟨_, h2⟩ | ⟨i, m, _, h3, h4⟩
    · rw [h2] at h1; exact hb.2.1 (.inr ⟨hb.2.2.1, _, _, _, _, h1⟩)
    · rw [h2] at h1; exact hb.2.1 (.inr ⟨hb.2.2.1, _, _, _, _, h1⟩)
    · rw [h4] at h1; subst h1; exact hb.2.2.2 (htkn h3)⟩
  have hget : ∀ {γ}, γ < H.length → γ ≠ β → (H.set β (tf.rf.blk c') ++ bs)[γ]? = H[γ]? := fun {γ} h1 h2 => by
    rw [List.getElem?_append_left (by rw [hl1]; exact h1), List.getElem?_set_ne (Ne.symm h2)]
  have hbr : BRel (ρ.add H.length ms) w' b o n sz (tf.rf.blk c') := href'.brel hfree hsz (by rw [hlen']; exact hnn) fun K t e => by rw [hlen']; exact harr K t e
  refine ⟨resU us, ρ.add H.length ms, rfl, hstep, ?_, ?_, ?_, ?_, by simp [TFU.te]⟩
  · rw [hH']
    constructor
    · intro γ hl hd
      rcases cases3 γ with ⟨h1, h2⟩ | ⟨h1, h2⟩ | ⟨i, m, h2, h3, h4⟩
      · rw [h2] at hd
        rw [hget h1 (fun e => by subst e; rw [hr] at hd; cases hd)]
        exact hH.dead γ h1 hd
      · simp at hl; omega
      · rw [h4] at hd; subst hd
        obtain ⟨_, t, _, h6, _⟩ := hent.get _ _ h3
        rcases h6 with ⟨h6, _⟩ | ⟨_, _, _, _, _, _, _, _, h6, _⟩ <;> cases h6
    · intro γ hl hd
      rcases cases3 γ with ⟨h1, h2⟩ | ⟨h1, h2⟩ | ⟨i, m, h2, h3, h4⟩
      · rw [h2] at hd
        rw [hget h1 (fun e => by subst e; rw [hr] at hd; cases hd)]
        exact hH.none_ γ h1 hd
      · simp at hl; omega
      · rw [h4] at hd; subst hd; subst h2
        obtain ⟨x, t, h5, h6, _⟩ := hent.get _ _ h3
        rcases h6 with ⟨_, _, e, h6⟩ | ⟨_, _, _, _, _, _, _, _, h6, _⟩
        · subst h6
          exact .inl ⟨e, 0, by rw [List.getElem?_append_right (by omega), hl1, Nat.add_sub_cancel_left]; exact h5⟩
        · cases h6
    · intro γ hl b1 o1 n1 sz1 hq
      rcases cases3 γ with ⟨h1, h2⟩ | ⟨h1, h2⟩ | ⟨i, m, h2, h3, h4⟩
      · rw [h2] at hq
        by_cases e : γ = β
        · subst e
          rw [hr] at hq; injection hq with e1 e2 e3 e4
          subst e1; subst e2; subst e3; subst e4
          refine ⟨_, ?_, hbr⟩
          rw [List.getElem?_append_left (by rw [hl1]; exact h1)]
          simp [h1]
        · obtain ⟨x, h5, h6⟩ := hH.at_ γ h1 _ _ _ _ hq
          refine ⟨x, by rw [hget h1 e]; exact h5, h6.keep hstep (hkept b1 (hsb hq) fun e2 => ?_)⟩
          subst e2
          exact e (hH.inj _ _ _ _ _ _ _ _ _ hq hr)
      · simp at hl; omega
      · rw [h4] at hq; subst hq; subst h2
        obtain ⟨x, t, h5, h6, _⟩ := hent.get _ _ h3
        rcases h6 with ⟨h6, _⟩ | ⟨b', o', n', sz', e, xs, C, tC, h6, h7, h8, h9, h10, h11, h12, h13⟩
        · cases h6
        · cases h6; subst h8
          refine ⟨_, by rw [List.getElem?_append_right (by omega), hl1, Nat.add_sub_cancel_left]; exact h5, ?_⟩
          simp only [BRel]
          exact ⟨h9, h10, C, tC, h11, h12, fun i x hx => by
            obtain ⟨es, h14, h15⟩ := h13 i x hx
            exact ⟨es, CRel.mono hfree (fun _ _ => rfl) h14, h15⟩⟩
    · intro β1 γ b1 o1 n1 sz1 o' n' sz' hb hc
      rcases cases3 β1 with ⟨h1, h2⟩ | ⟨h1, h2⟩ | ⟨i, m, h2, h3, h4⟩ <;> rcases cases3 γ with ⟨g1, g2⟩ | ⟨g1, g2⟩ | ⟨j, m', g2, g3, g4⟩
      · rw [h2] at hb; rw [g2] at hc; exact hH.inj _ _ _ _ _ _ _ _ _ hb hc
      · rw [h2] at hb; rw [g2] at hc; exact hH.inj _ _ _ _ _ _ _ _ _ hb hc
      · rw [h2] at hb; rw [g4] at hc; subst hc
        have := (htk b1 (htkn g3)).1; have := hsb hb; omega
      · rw [h2] at hb; rw [g2] at hc; exact hH.inj _ _ _ _ _ _ _ _ _ hb hc
      · rw [h2] at hb; rw [g2] at hc; exact hH.inj _ _ _ _ _ _ _ _ _ hb hc
      · rw [h2] at hb; rw [g4] at hc; subst hc
        have := (htk b1 (htkn g3)).1; have := hsb hb; omega
      · rw [h4] at hb; subst hb; rw [g2] at hc
        have := (htk b1 (htkn h3)).1; have := hsb hc; omega
      · rw [h4] at hb; subst hb; rw [g2] at hc
        have := (htk b1 (htkn h3)).1; have := hsb hc; omega
      · rw [h4] at hb; subst hb; rw [g4] at hc; subst hc
        rw [h2, g2, hent.inj hnd i j h3 g3]
    · intro β b o n sz hb
      rcases cases3 β with ⟨h1, h2⟩ | ⟨h1, h2⟩ | ⟨i, m, h2, h3, h4⟩
      · rw [h2] at hb; have := hsb hb; omega
      · rw [h2] at hb; have := hsb hb; omega
      · rw [h4] at hb; subst hb; exact (htk b (htkn h3)).2
    · intro b hb; have := hH.resl b hb; omega
    · intro β b o n sz hb hr
      rcases cases3 β with ⟨h1, h2⟩ | ⟨h1, h2⟩ | ⟨i, m, h2, h3, h4⟩
      · rw [h2] at hb; exact hH.resf _ _ _ _ _ hb hr
      · rw [h2] at hb; exact hH.resf _ _ _ _ _ hb hr
      · rw [h4] at hb; subst hb
        have := (htk b (htkn h3)).1; have := hH.resl b hr; omega
  · exact resV_rel (hvr (ρ.add H.length ms) (fun i m hm => by
      obtain ⟨m', h1, h2⟩ := hge (List.getElem?_eq_some_iff.1 hm).1
      rw [hm] at h1; cases h1
      rw [hl1]; exact h2) hfree)
  · rw [hH']; simp
  · intro γ hb hc
    rcases cases3 γ with ⟨_, h2⟩ | ⟨_, h2⟩ | ⟨i, m, h2, h3, h4⟩
    · rw [h2]; exact hb
    · rw [h2]; exact hb
    · exfalso
      rw [hH'] at hc
      have := (List.getElem?_eq_some_iff.1 h3).1
      simp at hc; omega
end
end Go.Proofs.Ytjnkefbdpcbkmaa.Den
