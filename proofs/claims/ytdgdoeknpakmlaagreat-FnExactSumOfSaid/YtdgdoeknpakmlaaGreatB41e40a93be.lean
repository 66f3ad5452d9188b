/- Part 5 of the texts behind the row. -/
import Derived.Test.YtdgdoeknpakmlaaGreatBfc0bc85484
set_option linter.unusedVariables false
set_option linter.unusedSimpArgs false
namespace Go.Proofs.YtdgdoeknpakmlaaGreat.Den
open Go Go.RowKit
set_option linter.unusedVariables false
set_option linter.unusedSimpArgs false
section
variable {w : World} {ρ : Map} {H : Heap}
theorem te_soundT {P : Program} {f : FuncId} {tf : TFT} (h : FnSpecT P f tf) : TESound P f tf.te := by
  intro ρ H w args vs x y v H' hH hv hun hview hfn hput
  change List tf.e.T × CsT tf.cs × tf.ps.T at x
  change List tf.e.T × PsT tf.rs at y
  obtain ⟨a, r, β, ss, c, d, xx, rfl, hfo, hc, hdd, hxx, rfl⟩ : ∃ a r β ss c d xx, args = a :: r ∧ firstOf tf.ag a = some (β, ss) ∧ Rf.view [] (.arr tf.e 0) H[β]? = some c ∧ viewCs [] tf.cs ss = some d ∧ viewS [] tf.ps r = some xx ∧ x = (c, d, xx) := by
    change (match (generalizing := false) args with
      | a :: r => (match firstOf tf.ag a with
        | some (β, ss) => (match Rf.view [] (.arr tf.e 0) H[β]?, viewCs [] tf.cs ss, viewS [] tf.ps r with
          | some c, some d, some x => some (c, d, x)
          | _, _, _ => none)
        | none => none)
      | _ => none) = some x at hview
    split at hview
    · rename_i a r
      split at hview
      · rename_i β ss hfo
        split at hview
        · rename_i c d xx h1 h2 h3
          simp only [Option.some.injEq] at hview
          exact ⟨a, r, β, ss, c, d, xx, rfl, hfo, h1, h2, h3, hview.symm⟩
        · simp at hview
      · simp at hview
    · simp at hview
  obtain ⟨c', yy⟩ := y
  obtain ⟨hfa, hss⟩ := firstOf_some hfo
  have hput' : (tf.al = true → v = .own β ∧ H' = H.set β (.arr tf.e c' 0)) ∧ (tf.al = false → v = resV (putPs tf.rs yy (H.set β (.arr tf.e c' 0))).1 ∧ H' = (putPs tf.rs yy (H.set β (.arr tf.e c' 0))).2) := by
    simp only [TFT.te, hfo] at hput
    constructor
    · intro e
      rw [e] at hput
      simp only [Option.some.injEq, Prod.mk.injEq] at hput
      exact ⟨hput.1.symm, hput.2.symm⟩
    · intro e
      rw [e] at hput
      simp only [Option.some.injEq, Prod.mk.injEq] at hput
      exact ⟨hput.1.symm, hput.2.symm⟩
  clear hput
  simp only [VRels] at hv
  obtain ⟨v0, vs', rfl, hv0, hv'⟩ := hv
  obtain ⟨y0, hy0, hnd0⟩ := Rf.view_some hc
  obtain ⟨u0, us2, rfl, hu0, hus2⟩ : ∃ u0 us2, v0 = firstU tf.ag u0 us2 ∧ VRel ρ w (.own β) u0 ∧ VRels ρ w ss us2 := by
    subst hfa
    cases hag : tf.ag with
    | true =>
      rw [hag] at hv0
      simp only [firstV, VRel, VRels] at hv0
      obtain ⟨us, rfl, u0, us2, e, h1, h2⟩ := hv0
      refine ⟨u0, us2, ?_, by simp only [VRel]; exact h1, h2⟩
      simp only [firstU]
      rw [← e]
    | false =>
      rw [hag] at hv0
      simp only [firstV] at hv0
      rw [hss hag]
      exact ⟨v0, [], by simp [firstU], hv0, by simp [VRels]⟩
  let m := ρ β
  have hm : ρ β = m := rfl
  let res : Nat → Prop := fun b' => ρ.res b' ∨ (¬ m.has b' ∧ ∃ β o n sz, ρ β = .at b' o n sz)
  have hres : ∀ b, res b → b < w.heap.size := by
    rintro b (hb | ⟨_, β, o, n, sz, hb⟩)
    · exact hH.resl b hb
    · exact hH.lt _ _ _ _ _ hb
  have hrb : ∀ b o n sz, ρ β = .at b o n sz → ¬ res b := by
    rintro b o n sz hr (hb | ⟨hb, _⟩)
    · exact hH.resf _ _ _ _ _ hr hb
    · exact hb ⟨_, _, _, hr⟩
  have hfB : ∀ b', Free ρ w b' → b' < w.heap.size ∧ ¬ res b' ∧ ¬ m.has b' := fun b' hb => ⟨hb.1, fun h3 => by
    rcases h3 with h3 | ⟨_, β, o, n, sz, h3⟩
    · exact hb.2.1 h3
    · exact hb.2.2 _ _ _ _ h3, fun ⟨_, _, _, e⟩ => hb.2.2 _ _ _ _ (hm.trans e)⟩
  have hd : ∀ {K : Kd} {s : SV} {x : K.T} {u : Value}, decH true [] K [s] = some x → VRel ρ w s u → CRel w (fun b' => b' < w.heap.size ∧ ¬ res b' ∧ ¬ m.has b') K x [u] := fun h1 h2 =>
    CRel.mono hfB (fun _ _ => rfl) (decC_rel h1 (VRels.single h2))
  have hsl := HRel.sliceIn hH hc hu0 hrb hfB
  have hβl : β < H.length := (List.getElem?_eq_some_iff.1 hy0).1
  refine Calls.mono (h w res u0 us2 vs' m c c' d xx yy hres hsl (CsRel.of_view hd hdd hus2) (ShRel.of_view hd hxx hv') hfn) fun e w' he => ?_
  obtain ⟨us, tk, rfl, hos, htape, hout, hsize, hkept, hshape, hnd, htk, hps', hso⟩ := he
  obtain ⟨bs, ms, hent, hH', hvr⟩ : ∃ bs ms, Ent w' (fun b' => b' < w'.heap.size ∧ ¬ res b' ∧ ¬ m.has b' ∧ b' ∉ tk) bs ms tk ∧ H' = H.set β (.arr tf.e c' 0) ++ bs ∧
      ∀ ρ' : Map, Agree ρ' H.length ms → (∀ γ, γ < H.length → ρ' γ = ρ γ) → (∀ b', (b' < w'.heap.size ∧ ¬ res b' ∧ ¬ m.has b' ∧ b' ∉ tk) → Free ρ' w' b') → VRel ρ' w' v (resU us) := by
    cases hal : tf.al with
    | true =>
      rw [hal] at hps'
      obtain ⟨rfl, u, rfl, hou⟩ := hps'
      obtain ⟨rfl, rfl⟩ := hput'.1 hal
      refine ⟨[], [], rfl, by simp, fun ρ' _ h2 _ => ?_⟩
      have e : resU #[u] = u := by simp [resU]
      rw [e]
      exact hou.vrel (h2 β hβl)
    | false =>
      rw [hal] at hps'
      obtain ⟨rfl, rfl⟩ := hput'.2 hal
      obtain ⟨bs, ms, hent, hputs⟩ := putPs_ent hps'
      obtain ⟨h1, h2⟩ := hputs (H.set β (.arr tf.e c' 0))
      exact ⟨bs, ms, hent, h1, fun ρ' h3 _ h5 => resV_rel (h2 ρ' (by simpa using h3) h5)⟩
  clear hput' hps'
  have hl1 : (H.set β (.arr tf.e c' 0)).length = H.length := by simp
  have hml := hent.length
  have hlt' : ∀ {β}, β < H.length → (ρ.add H.length ms) β = ρ β := fun h => by simp [Map.add, h]
  have hge : ∀ {i}, i < ms.length → ∃ m, ms[i]? = some m ∧ (ρ.add H.length ms) (H.length + i) = m := fun {i} h => by
    refine ⟨ms[i], List.getElem?_eq_getElem h, ?_⟩
    simp only [Map.add]; rw [if_neg (by omega), Nat.add_sub_cancel_left, List.getElem?_eq_getElem h]
  have hgt : ∀ {β}, H.length + ms.length ≤ β → (ρ.add H.length ms) β = ρ β := fun {β} h => by
    simp only [Map.add]; rw [if_neg (by omega), List.getElem?_eq_none (by omega)]
  have cases3 : ∀ β, (β < H.length ∧ (ρ.add H.length ms) β = ρ β) ∨ (H.length + ms.length ≤ β ∧ (ρ.add H.length ms) β = ρ β) ∨ ∃ i m, β = H.length + i ∧ ms[i]? = some m ∧ (ρ.add H.length ms) β = m := by
    intro β
    rcases Nat.lt_or_ge β H.length with h1 | h1
    · exact .inl ⟨h1, hlt' h1⟩
    · rcases Nat.lt_or_ge β (H.length + ms.length) with h2 | h2
      · obtain ⟨m, h3, h4⟩ := hge (i := β - H.length) (by omega)
        rw [show H.length + (β - H.length) = β by omega] at h4
        exact .inr (.inr ⟨β - H.length, m, by omega, h3, h4⟩)
      · exact .inr (.inl ⟨h2, hgt h2⟩)
  have htkn : ∀ {i : Nat} {b o n sz : Nat}, ms[i]? = some (.at b o n sz) → b ∈ tk := fun hm => by
    obtain ⟨_, t, _, h6, h7⟩ := hent.get _ _ hm
    exact h7 _ h6.at_
  have hub : ∀ β, H.length ≤ β → β < H.length + ms.length → ρ β = .unborn := fun β h1 h2 => hun β h1 (by rw [hH']; simp; omega)
  have hsb : ∀ {β b o n sz}, ρ β = .at b o n sz → b < w.heap.size := fun h => hH.lt _ _ _ _ _ h
  have hstep : Step ρ w (ρ.add H.length ms) w' := {
    os := hos, tape := htape, output := hout, size := hsize
    kept := fun b' hb hn => hkept b' hb (fun ⟨_, _, _, e⟩ => hn _ _ _ _ (hm.trans e))
    shape := hshape
    img := fun β b o n sz hb => by
      rcases cases3 β with ⟨_, h2⟩ | ⟨_, h2⟩ | ⟨i, m, _, h3, h4⟩
      · rw [h2] at hb; exact .inl ⟨β, o, n, sz, hb⟩
      · rw [h2] at hb; exact .inl ⟨β, o, n, sz, hb⟩
      · rw [h4] at hb; subst hb
        exact .inr (htk b (htkn h3)).1
    ref := fun β hb => by
      rcases cases3 β with ⟨_, h2⟩ | ⟨_, h2⟩ | ⟨i, m, h2, h3, _⟩
      · exact .inl h2
      · exact .inl h2
      · exact absurd (hub β (by omega) (by have := (List.getElem?_eq_some_iff.1 h3).1; omega)) hb
    res := rfl }
  have hfree : ∀ b', (b' < w'.heap.size ∧ ¬ res b' ∧ ¬ m.has b' ∧ b' ∉ tk) → Free (ρ.add H.length ms) w' b' := fun b' hb => ⟨hb.1, fun h3 => hb.2.1 (.inl h3), fun β o n sz h1 => by
    rcases cases3 β with ⟨_, h2⟩ | ⟨_, h2⟩ | ⟨i, m, _, h3, h4⟩
    · rw [h2] at h1; exact hb.2.1 (.inr ⟨hb.2.2.1, _, _, _, _, h1⟩)
    · rw [h2] at h1; exact hb.2.1 (.inr ⟨hb.2.2.1, _, _, _, _, h1⟩)
    · rw [h4] at h1; subst h1; exact hb.2.2.2 (htkn h3)⟩
  have hget : ∀ {γ}, γ < H.length → γ ≠ β → (H.set β (.arr tf.e c' 0) ++ bs)[γ]? = H[γ]? := fun {γ} h1 h2 => by
    rw [List.getElem?_append_left (by rw [hl1]; exact h1), List.getElem?_set_ne (Ne.symm h2)]
  have hbr : ∀ b o n sz, ρ β = .at b o n sz → BRel (ρ.add H.length ms) w' b o n sz (.arr tf.e c' 0) := by
    intro b o n sz hr
    rcases hso with ⟨h1, _⟩ | ⟨b1, o1, n1, sz1, h1, h2, h3⟩
    · rw [hm, h1] at hr; cases hr
    · rw [hm, h1] at hr
      injection hr with e1 e2 e3 e4
      subst e1; subst e2; subst e3; subst e4
      rcases hsl with ⟨h4, _⟩ | ⟨b2, o2, cp, h4, _⟩
      · rw [hm, h1] at h4; cases h4
      · rw [hm, h1] at h4
        injection h4 with e1 e2 e3 e4
        exact h2.brel (rf := .arr tf.e 0) hfree e4.symm (by simp only [Rf.len]; rw [h3, e3]) fun _ _ _ => by simp only [Rf.len]; rw [h3, e3]
  refine ⟨resU us, ρ.add H.length ms, rfl, hstep, ?_, ?_, ?_, ?_, by simp [TFT.te]⟩
  · rw [hH']
    constructor
    · intro γ hl hgd
      rcases cases3 γ with ⟨h1, h2⟩ | ⟨h1, h2⟩ | ⟨i, m, h2, h3, h4⟩
      · rw [h2] at hgd
        rw [hget h1 (fun e => by subst e; exact live_of hH hy0 hnd0 hgd)]
        exact hH.dead γ h1 hgd
      · simp at hl; omega
      · rw [h4] at hgd; subst hgd
        obtain ⟨_, t, _, h6, _⟩ := hent.get _ _ h3
        rcases h6 with ⟨h6, _⟩ | ⟨_, _, _, _, _, _, _, _, h6, _⟩ <;> cases h6
    · intro γ hl hgd
      rcases cases3 γ with ⟨h1, h2⟩ | ⟨h1, h2⟩ | ⟨i, m, h2, h3, h4⟩
      · rw [h2] at hgd
        by_cases e : γ = β
        · subst e
          rcases hso with ⟨_, h5⟩ | ⟨_, _, _, _, h5, _⟩
          · subst h5
            refine .inl ⟨tf.e, 0, ?_⟩
            rw [List.getElem?_append_left (by rw [hl1]; exact h1)]
            exact List.getElem?_set_self h1
          · rw [hm, h5] at hgd; cases hgd
        · rw [hget h1 e]
          exact hH.none_ γ h1 hgd
      · simp at hl; omega
      · rw [h4] at hgd; subst hgd; subst h2
        obtain ⟨x, t, h5, h6, _⟩ := hent.get _ _ h3
        rcases h6 with ⟨_, _, e, h6⟩ | ⟨_, _, _, _, _, _, _, _, h6, _⟩
        · subst h6
          exact .inl ⟨e, 0, by rw [List.getElem?_append_right (by omega), hl1, Nat.add_sub_cancel_left]; exact h5⟩
        · cases h6
    · intro γ hl b1 o1 n1 sz1 hq
      rcases cases3 γ with ⟨h1, h2⟩ | ⟨h1, h2⟩ | ⟨i, m, h2, h3, h4⟩
      · rw [h2] at hq
        by_cases e : γ = β
        · subst e
          refine ⟨_, ?_, hbr _ _ _ _ hq⟩
          rw [List.getElem?_append_left (by rw [hl1]; exact h1)]
          simp [h1]
        · obtain ⟨x, h5, h6⟩ := hH.at_ γ h1 _ _ _ _ hq
          refine ⟨x, by rw [hget h1 e]; exact h5, h6.keep hstep (hkept b1 (hsb hq) fun ⟨_, _, _, e2⟩ => ?_)⟩
          exact e (hH.inj _ _ _ _ _ _ _ _ _ hq (hm.trans e2))
      · simp at hl; omega
      · rw [h4] at hq; subst hq; subst h2
        obtain ⟨x, t, h5, h6, _⟩ := hent.get _ _ h3
        rcases h6 with ⟨h6, _⟩ | ⟨b', o', n', sz', e, xs, C, tC, h6, h7, h8, h9, h10, h11, h12, h13⟩
        · cases h6
        · cases h6; subst h8
          refine ⟨_, by rw [List.getElem?_append_right (by omega), hl1, Nat.add_sub_cancel_left]; exact h5, ?_⟩
          simp only [BRel]
          exact ⟨h9, h10, C, tC, h11, h12, fun i x hx => by
            obtain ⟨es, h14, h15⟩ := h13 i x hx
            exact ⟨es, CRel.mono hfree (fun _ _ => rfl) h14, h15⟩⟩
    · intro β1 γ b1 o1 n1 sz1 o' n' sz' hb hc
      rcases cases3 β1 with ⟨h1, h2⟩ | ⟨h1, h2⟩ | ⟨i, m, h2, h3, h4⟩ <;> rcases cases3 γ with ⟨g1, g2⟩ | ⟨g1, g2⟩ | ⟨j, m', g2, g3, g4⟩
      · rw [h2] at hb; rw [g2] at hc; exact hH.inj _ _ _ _ _ _ _ _ _ hb hc
      · rw [h2] at hb; rw [g2] at hc; exact hH.inj _ _ _ _ _ _ _ _ _ hb hc
      · rw [h2] at hb; rw [g4] at hc; subst hc
        have := (htk b1 (htkn g3)).1; have := hsb hb; omega
      · rw [h2] at hb; rw [g2] at hc; exact hH.inj _ _ _ _ _ _ _ _ _ hb hc
      · rw [h2] at hb; rw [g2] at hc; exact hH.inj _ _ _ _ _ _ _ _ _ hb hc
      · rw [h2] at hb; rw [g4] at hc; subst hc
        have := (htk b1 (htkn g3)).1; have := hsb hb; omega
      · rw [h4] at hb; subst hb; rw [g2] at hc
        have := (htk b1 (htkn h3)).1; have := hsb hc; omega
      · rw [h4] at hb; subst hb; rw [g2] at hc
        have := (htk b1 (htkn h3)).1; have := hsb hc; omega
      · rw [h4] at hb; subst hb; rw [g4] at hc; subst hc
        rw [h2, g2, hent.inj hnd i j h3 g3]
    · intro β b o n sz hb
      rcases cases3 β with ⟨h1, h2⟩ | ⟨h1, h2⟩ | ⟨i, m, h2, h3, h4⟩
      · rw [h2] at hb; have := hsb hb; omega
      · rw [h2] at hb; have := hsb hb; omega
      · rw [h4] at hb; subst hb; exact (htk b (htkn h3)).2
    · intro b hb; have := hH.resl b hb; omega
    · intro β b o n sz hb hr
      rcases cases3 β with ⟨h1, h2⟩ | ⟨h1, h2⟩ | ⟨i, m, h2, h3, h4⟩
      · rw [h2] at hb; exact hH.resf _ _ _ _ _ hb hr
      · rw [h2] at hb; exact hH.resf _ _ _ _ _ hb hr
      · rw [h4] at hb; subst hb
        have := (htk b (htkn h3)).1; have := hH.resl b hr; omega
  · exact hvr (ρ.add H.length ms) (fun i m hm => by
      obtain ⟨m', h1, h2⟩ := hge (List.getElem?_eq_some_iff.1 hm).1
      rw [hm] at h1; cases h1; exact h2) (fun γ h => hlt' h) hfree
  · rw [hH']; simp
  · intro γ hb hc
    rcases cases3 γ with ⟨_, h2⟩ | ⟨_, h2⟩ | ⟨i, m, h2, h3, h4⟩
    · rw [h2]; exact hb
    · rw [h2]; exact hb
    · exfalso
      rw [hH'] at hc
      have := (List.getElem?_eq_some_iff.1 h3).1
      simp at hc; omega
theorem EntryOK.tft {P : Program} {f : Nat} {tf : TFT} (h : FnSpecT P f tf) (hf : ∃ fn, P.funcs[f]? = some fn ∧ fn.name ≠ "runtime.NumGoroutine" ∧ fn.body.isSome = true) : EntryOK P f tf.te where
  snd := te_soundT h
  fn := hf
  ext hm := by simp [TFT.te] at hm
  tch x y args H v H' hv hp := by
    change List tf.e.T × PsT tf.rs at y
    simp only [TFT.te] at hp
    split at hp
    · rename_i a r
      split at hp
      · rename_i β ss hfo
        have hm : β ∈ (List.headD (a :: r) .junk).refs := by
          rw [(firstOf_some hfo).1]
          unfold firstV
          split <;> simp [SV.refs, SV.refsL]
        split at hp
        · have h2 : H.set β (.arr tf.e y.1 0) = H' := congrArg Prod.snd (Option.some.inj hp)
          rw [← h2]
          have := set_ext_tch (H := H) (Δ := []) (x := .arr tf.e y.1 0) hm
          simpa using this
        · have h2 : (putPs tf.rs y.2 (H.set β (.arr tf.e y.1 0))).2 = H' := congrArg Prod.snd (Option.some.inj hp)
          obtain ⟨Δ, h3⟩ := putPs_ext (ps := tf.rs) (y := y.2) (H := H.set β (.arr tf.e y.1 0))
          rw [← h2, h3]
          exact set_ext_tch hm
      · simp at hp
    · simp at hp
end
end Go.Proofs.YtdgdoeknpakmlaaGreat.Den
namespace Go.Proofs.YtdgdoeknpakmlaaGreat.Den
open Go Go.RowKit
set_option linter.unusedVariables false
set_option linter.unusedSimpArgs false
section
variable {R : Type}
theorem runR_nat (T : Tab) : ∀ (gs : List GI) (τ : Env) (H : Heap) (k : Env → Heap → Option R), runR T gs τ H k = (runR T gs τ H fun τ H => some (τ, H)).bind fun p => k p.1 p.2
  | [], τ, H, k => rfl
  | gi :: r, τ, H, k => by
    rw [runR_cons]; conv => rhs; rw [runR_cons]
    rw [Option.bind_assoc]
    congr 1; funext p; exact runR_nat T r p.1 p.2 k
theorem runRD_nat (T : Tab) : ∀ (gs : List GI) (tc rd : List Nat) (τ : Env) (H : Heap) (k : Env → Heap → Option R), runRD T gs tc rd τ H k = (runRD T gs tc rd τ H fun τ H => some (τ, H)).bind fun p => k p.1 p.2
  | [], tc, rd, τ, H, k => rfl
  | gi :: r, tc, rd, τ, H, k => by
    simp only [runRD]
    rw [cond_bind]
    congr 1
    rw [runG_nat]; conv => rhs; rw [runG_nat]
    rw [Option.bind_assoc]
    congr 1; funext p; exact runRD_nat T r _ _ p.1 p.2 k
abbrev ES := Ex × Env × Heap
theorem seqK_nat {f : Env → Heap → (Ex → Env → Heap → Option R) → Option R} {f' : Env → Heap → (Ex → Env → Heap → Option ES) → Option ES} {k : Ex → Env → Heap → Option R}
    (h : ∀ τ H, f τ H k = (f' τ H fun e τ H => some (e, τ, H)).bind fun p => k p.1 p.2.1 p.2.2) (e : Ex) (τ : Env) (H : Heap) :
    seqK f k e τ H = (seqK f' (fun e τ H => some (e, τ, H)) e τ H).bind fun p => k p.1 p.2.1 p.2.2 := by
  cases e with
  | normal => exact h τ H
  | exit i => rfl
  | ret => rfl
theorem blkK_nat {id : Nat} {k : Ex → Env → Heap → Option R} (e : Ex) (τ : Env) (H : Heap) :
    blkK id k e τ H = (blkK id (fun e τ H => some ((e, τ, H) : ES)) e τ H).bind fun p => k p.1 p.2.1 p.2.2 := by
  cases e with
  | exit i => simp only [blkK]; rw [cond_bind]; rfl
  | normal => rfl
  | ret => rfl
theorem normK_nat {n0 : Nat} {nm : Norm} {G : Env → Heap → Option R} {G' : Env → Heap → Option ES} {k : Ex → Env → Heap → Option R}
    (h : ∀ τ H, G τ H = (G' τ H).bind fun p => k p.1 p.2.1 p.2.2) (τ : Env) (H : Heap) : normK n0 nm G τ H = (normK n0 nm G' τ H).bind fun p => k p.1 p.2.1 p.2.2 := by
  unfold normK
  split
  · exact h _ _
  · rfl
theorem loopK_nat {n0 : Nat} {nm : Norm} {G : Env → Heap → Option R} {G' : Env → Heap → Option ES} {k : Ex → Env → Heap → Option R}
    (h : ∀ τ H, G τ H = (G' τ H).bind fun p => k p.1 p.2.1 p.2.2) (e : Ex) (τ : Env) (H : Heap) :
    loopK n0 nm G k e τ H = (loopK n0 nm G' (fun e τ H => some (e, τ, H)) e τ H).bind fun p => k p.1 p.2.1 p.2.2 := by
  cases e with
  | normal => exact normK_nat h τ H
  | exit i => rfl
  | ret => rfl
theorem body_nat {f : (R : Type) → Env → Heap → (Ex → Env → Heap → Option R) → Option R} (hf : ∀ (R : Type) (τ : Env) (H : Heap) (k : Ex → Env → Heap → Option R), f R τ H k = (f ES τ H fun e τ H => some (e, τ, H)).bind fun p => k p.1 p.2.1 p.2.2)
    {τ : Env} {H : Heap} {k : Ex → Env → Heap → Option R} {k' : Ex → Env → Heap → Option ES} {k2 : Ex → Env → Heap → Option R} (h : ∀ e τ H, k e τ H = (k' e τ H).bind fun p => k2 p.1 p.2.1 p.2.2) :
    f R τ H k = (f ES τ H k').bind fun p => k2 p.1 p.2.1 p.2.2 := by
  rw [hf R]; conv => rhs; rw [hf ES]
  rw [Option.bind_assoc]
  congr 1; funext p; exact h _ _ _
theorem loopN_nat {n0 : Nat} {nm : Norm} {f : (R : Type) → Env → Heap → (Ex → Env → Heap → Option R) → Option R} (hf : ∀ (R : Type) (τ : Env) (H : Heap) (k : Ex → Env → Heap → Option R), f R τ H k = (f ES τ H fun e τ H => some (e, τ, H)).bind fun p => k p.1 p.2.1 p.2.2) :
    ∀ (n : Nat) (τ : Env) (H : Heap) (k : Ex → Env → Heap → Option R), loopN (f R) n0 nm n τ H k = (loopN (f ES) n0 nm n τ H fun e τ H => some (e, τ, H)).bind fun p => k p.1 p.2.1 p.2.2
  | 0, τ, H, k => rfl
  | n + 1, τ, H, k => by
    simp only [loopN]
    exact body_nat hf fun e τ H => loopK_nat (fun τ H => loopN_nat hf n τ H k) e τ H
end
theorem run_nat (T : Tab) (n0 fuel : Nat) : ∀ (c : C) (R : Type) (τ : Env) (H : Heap) (k : Ex → Env → Heap → Option R), run T n0 fuel c τ H k = (run T n0 fuel c τ H fun e τ H => some ((e, τ, H) : ES)).bind fun p => k p.1 p.2.1 p.2.2
  | .skip, R, τ, H, k => rfl
  | .exit _, R, τ, H, k => rfl
  | .ret, R, τ, H, k => rfl
  | .bad, R, τ, H, k => rfl
  | .cut nm, R, τ, H, k => by
    simp only [run]
    exact normK_nat (G := k .normal) (G' := fun τ H => some ((Ex.normal, τ, H) : ES)) (k := k) (fun _ _ => rfl) τ H
  | .reg d gs, R, τ, H, k => by
    cases d with
    | true =>
      simp only [run]
      rw [runRD_nat]; conv => rhs; rw [runRD_nat]
      rw [Option.bind_assoc]; rfl
    | false =>
      simp only [run]
      rw [runR_nat]; conv => rhs; rw [runR_nat]
      rw [Option.bind_assoc]; rfl
  | .seq a b, R, τ, H, k => by
    simp only [run]
    exact body_nat (f := fun R => run (R := R) T n0 fuel a) (fun R => run_nat T n0 fuel a R) fun e τ H => seqK_nat (fun τ H => run_nat T n0 fuel b R τ H k) e τ H
  | .cnd s a b, R, τ, H, k => by
    simp only [run]
    split
    · rw [cond_bind, run_nat T n0 fuel a R, run_nat T n0 fuel b R]
    · rfl
  | .blk id a, R, τ, H, k => by
    simp only [run]
    exact body_nat (f := fun R => run (R := R) T n0 fuel a) (fun R => run_nat T n0 fuel a R) fun e τ H => blkK_nat e τ H
  | .loop nm a, R, τ, H, k => by
    simp only [run]
    exact normK_nat (fun τ H => loopN_nat (f := fun R => run (R := R) T n0 fuel a) (fun R => run_nat T n0 fuel a R) fuel τ H k) τ H
def inlEnd {R : Type} (n : Nat) (rv : List (Nat × Option (Nat × Bool))) (k : SV → Heap → Option R) (ex : Ex) (τ : Env) (H : Heap) : Option R :=
  match ex with
  | .exit _ => none
  | _ => match evalRes τ H rv with
    | some ss => cond (Nat.ble n H.length) (k (resV ss) H) none
    | none => none
def inlGo (np : Nat) (T : Tab) (fuel : Nat) (c : C) (rv : List (Nat × Option (Nat × Bool))) (R : Type) (args : List SV) (H : Heap) (k : SV → Heap → Option R) : Option R :=
  cond (Nat.beq args.length np) (run T H.length fuel c (env0 args 0) H (inlEnd H.length rv k)) none
theorem inlEnd_nat {R : Type} {n : Nat} {rv : List (Nat × Option (Nat × Bool))} {k : SV → Heap → Option R} (ex : Ex) (τ : Env) (H : Heap) :
    inlEnd n rv k ex τ H = (inlEnd n rv (fun v H => some (v, H)) ex τ H).bind fun p => k p.1 p.2 := by
  unfold inlEnd
  cases ex with
  | exit i => rfl
  | normal => simp only; split <;> first | rfl | (rw [cond_bind]; rfl)
  | ret => simp only; split <;> first | rfl | (rw [cond_bind]; rfl)
theorem inlGo_nat (np : Nat) (T : Tab) (fuel : Nat) (c : C) (rv : List (Nat × Option (Nat × Bool))) (R : Type) (args : List SV) (H : Heap) (k : SV → Heap → Option R) :
    inlGo np T fuel c rv R args H k = (inlGo np T fuel c rv (SV × Heap) args H fun v H => some (v, H)).bind fun p => k p.1 p.2 := by
  unfold inlGo
  rw [cond_bind, run_nat T H.length fuel c R]; conv => rhs; rw [run_nat T H.length fuel c (SV × Heap)]
  rw [Option.bind_assoc]
  congr 1
  congr 1; funext p
  exact inlEnd_nat p.1 p.2.1 p.2.2
def inlIE (np : Nat) (T : Tab) (fuel : Nat) (c : C) (rv : List (Nat × Option (Nat × Bool))) : IE := ⟨inlGo np T fuel c rv, inlGo_nat np T fuel c rv⟩
theorem inl_sound {P : Program} {T : Tab} {f : FuncId} {fn : Func} {c : Code} {np : Nat} {frz : List Nat} {ann : List Norm} {cuts : List (Nat × Norm)} {ci : C} {j fuel : Nat} {rv : List (Nat × Option (Nat × Bool))} (hT : TabOK P T) (hmix : P.follows .mixedOrders = true)
    (hf : P.funcs[f]? = some fn) (hb : fn.body = some c) (hl : lightC P frz fn.ntmps ann cuts 0 c = some (ci, j)) (ho : okC T c ci = true) (hn : np ≤ fn.ntmps) (hrv : lightRes P fn.results.toList = some rv)
    (hfn : ∃ fn, P.funcs[f]? = some fn ∧ fn.name ≠ "runtime.NumGoroutine" ∧ fn.body.isSome = true) : ISound P f (inlIE np T fuel ci rv) where
  fn := hfn
  snd := by
    intro ρ H w args vs v H' hH hu hv he
    simp only [inlIE, inlGo] at he
    obtain ⟨hnp, he⟩ := (cond_some he).resolve_right (by simp)
    have hnp := Nat.eq_of_beq_eq_true hnp
    have hvl := hv.length
    refine calls_of_wp hf hb ?_
    have hat : At P fn.ntmps ρ H w (env0 args 0) { tmps := vs.toArray ++ Array.replicate (fn.ntmps - vs.toArray.size) undef, defers := [] } := by
      refine ⟨⟨by simp; omega, rfl, fun n => ?_⟩, hH, hu⟩
      rw [env0_get]
      simp only [Nat.zero_le, if_true, Nat.sub_zero]
      split
      · rename_i s hs
        obtain ⟨u, h1, h2⟩ := hv.get n s hs
        have : (vs.toArray ++ Array.replicate (fn.ntmps - vs.toArray.size) undef).getD n undef = u := by
          rw [Array.getD_eq_getD_getElem?, Array.getElem?_append_left (by have := (List.getElem?_eq_some_iff.1 h1).1; simpa using this), List.getElem?_toArray, h1]
          rfl
        rw [this]; exact h2
      · simp [VRel]
    refine code_sound hT hmix c hl ho hat he fun ex τ' H2 ρ' a' w' h1 h2 h3 => ?_
    have hend : ∃ ss, evalRes τ' H2 rv = some ss ∧ H.length ≤ H2.length ∧ v = resV ss ∧ H' = H2 ∧ (ex = .normal ∨ ex = .ret) := by
      unfold inlEnd at h3
      cases ex with
      | exit i => cases h3
      | normal =>
        simp only at h3
        split at h3
        · rename_i ss h4
          obtain ⟨h5, h6⟩ := (cond_some h3).resolve_right (by simp)
          simp only [Option.some.injEq, Prod.mk.injEq] at h6
          exact ⟨ss, h4, Nat.le_of_ble_eq_true h5, h6.1.symm, h6.2.symm, .inl rfl⟩
        · cases h3
      | ret =>
        simp only at h3
        split at h3
        · rename_i ss h4
          obtain ⟨h5, h6⟩ := (cond_some h3).resolve_right (by simp)
          simp only [Option.some.injEq, Prod.mk.injEq] at h6
          exact ⟨ss, h4, Nat.le_of_ble_eq_true h5, h6.1.symm, h6.2.symm, .inr rfl⟩
        · cases h3
    obtain ⟨ss, h4, hlen, rfl, rfl, hex⟩ := hend
    obtain ⟨us, h8, h9⟩ := results_sound h1.t h1.h hrv h4
    have hst : Step ρ w ρ' w' := ⟨h2.os, h2.tape, h2.output, h2.size, h2.kept, h2.shape, h2.img, fun β hβ => h2.ref β (by
      rcases Nat.lt_or_ge β H.length with h | h
      · exact h
      · exact absurd (hu β h) hβ) hβ, h2.res⟩
    have hpost : a'.defers = [] ∧ ∃ v', (results fn a'.tmps).run P w' = .ok v' w' ∧ (fun e w' => ∃ u ρ', e = Ending.returned u ∧ Good false ρ H w (resV ss) H' u w' ρ') (Ending.returned v') w' := by
      exact ⟨h1.t.2.1, resU us, h8, resU us, ρ', rfl, hst, h1.h, resV_rel h9, hlen, fun β _ h => h1.u β h, by simp⟩
    rcases hex with rfl | rfl
    · exact hpost
    · exact hpost
def teIE (te : TE) : IE := ⟨fun R args H k => callL [te] args H k, fun R args H k => by
  simp only [callL]
  split
  · rfl
  · rename_i x _
    cases te.fn x with
    | none => rfl
    | some y =>
      simp only [Option.bind_some]
      split <;> rfl⟩
def orGo (n : Nat) (a b : IE) (R : Type) (args : List SV) (H : Heap) (k : SV → Heap → Option R) : Option R :=
  match args with
  | .agg (c :: _) :: _ => match lenOf H c with
    | some m => cond (decide ((m : Int) ≤ (n : Int))) (a.go R args H k) (b.go R args H k)
    | none => none
  | _ => none
theorem orGo_or {n : Nat} {a b : IE} {args : List SV} {H : Heap} : (∀ (R : Type) (k : SV → Heap → Option R), orGo n a b R args H k = a.go R args H k) ∨ (∀ (R : Type) (k : SV → Heap → Option R), orGo n a b R args H k = b.go R args H k) ∨ (∀ (R : Type) (k : SV → Heap → Option R), orGo n a b R args H k = none) := by
  unfold orGo
  split
  · split
    · rename_i m _
      cases decide ((m : Int) ≤ (n : Int))
      · exact .inr (.inl fun _ _ => rfl)
      · exact .inl fun _ _ => rfl
    · exact .inr (.inr fun _ _ => rfl)
  · exact .inr (.inr fun _ _ => rfl)
def orIE (n : Nat) (a b : IE) : IE := ⟨orGo n a b, fun R args H k => by
  rcases orGo_or (n := n) (a := a) (b := b) (args := args) (H := H) with h | h | h
  · rw [h, h]; exact a.nat R args H k
  · rw [h, h]; exact b.nat R args H k
  · rw [h, h]; rfl⟩
theorem teIE_sound {P : Program} {f : Nat} {te : TE} (h : EntryOK P f te) : ISound P f (teIE te) where
  fn := h.fn
  snd := by
    intro ρ H w args vs v H' hH hu hv he
    simp only [teIE, callL] at he
    split at he
    · cases he
    · rename_i x hx
      rw [Option.bind_eq_some_iff] at he
      obtain ⟨y, hy, he⟩ := he
      split at he
      · rename_i v2 H2 hp
        simp only [Option.some.injEq, Prod.mk.injEq] at he
        obtain ⟨rfl, rfl⟩ := he
        refine Calls.mono (h.snd ρ H w args vs x y v2 H2 hH hv (fun β h1 _ => hu β h1) hx hy hp) fun e w' hg => ?_
        obtain ⟨u, ρ', e1, g⟩ := hg
        exact ⟨u, ρ', e1, ⟨g.step, g.hrel, g.vrel, g.len, g.unb, by simp⟩⟩
      · cases he
theorem orIE_sound {P : Program} {f : Nat} {n : Nat} {a b : IE} (ha : ISound P f a) (hb : ISound P f b) : ISound P f (orIE n a b) where
  fn := ha.fn
  snd := by
    intro ρ H w args vs v H' hH hu hv he
    have he : orGo n a b (SV × Heap) args H (fun v H => some (v, H)) = some (v, H') := he
    rcases orGo_or (n := n) (a := a) (b := b) (args := args) (H := H) with h | h | h
    · rw [h] at he; exact ha.snd ρ H w args vs v H' hH hu hv he
    · rw [h] at he; exact hb.snd ρ H w args vs v H' hH hu hv he
    · rw [h] at he; cases he
theorem inlNil {P : Program} : ∀ p ∈ ([] : List (Nat × IE)), ISound P p.1 p.2 := fun _ h => nomatch h
theorem inlCons {P : Program} {f : Nat} {ie : IE} {l : List (Nat × IE)} (h : ISound P f ie) (t : ∀ p ∈ l, ISound P p.1 p.2) : ∀ p ∈ (f, ie) :: l, ISound P p.1 p.2 := List.forall_mem_cons.2 ⟨h, t⟩
end Go.Proofs.YtdgdoeknpakmlaaGreat.Den
