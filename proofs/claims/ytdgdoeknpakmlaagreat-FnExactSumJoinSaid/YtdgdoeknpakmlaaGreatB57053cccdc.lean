/- Part 5 of the texts behind the row. -/
import Derived.Test.YtdgdoeknpakmlaaGreatB6718da6dfe
set_option linter.unusedVariables false
set_option linter.unusedSimpArgs false
namespace Go.Proofs.YtdgdoeknpakmlaaGreat.Den
open Go Go.RowKit
section
variable {w : World} {ρ : Map} {H : Heap}
theorem zN4 {P : Program} {f : FuncId} {tf : TFT} (h : FnSpecT P f tf) : TESound P f tf.te := by
  intro ρ H w args vs x y v H' hH hv hun hview hfn hput
  change List tf.e.T × CsT tf.cs × tf.ps.T at x
  change List tf.e.T × PsT tf.rs at y
  obtain ⟨a, r, β, ss, c, d, xx, rfl, hfo, hc, hdd, hxx, rfl⟩ : ∃ a r β ss c d xx, args = a :: r ∧ firstOf tf.ag a = some (β, ss) ∧ Rf.view [] (.arr tf.e 0) H[β]? = some c ∧ viewCs [] tf.cs ss = some d ∧ viewS [] tf.ps r = some xx ∧ x = (c, d, xx) := by
    change (match (generalizing := false) args with
      | a :: r => (match firstOf tf.ag a with
        | some (β, ss) => (match Rf.view [] (.arr tf.e 0) H[β]?, viewCs [] tf.cs ss, viewS [] tf.ps r with
          | some c, some d, some x => some (c, d, x)
          | _, _, _ => none)
        | none => none)
      | _ => none) = some x at hview
    split at hview
    · rename_i a r
      split at hview
      · rename_i β ss hfo
        split at hview
        · rename_i c d xx h1 h2 h3
          simp only [Option.some.injEq] at hview
          exact ⟨a, r, β, ss, c, d, xx, rfl, hfo, h1, h2, h3, hview.symm⟩
        · simp at hview
      · simp at hview
    · simp at hview
  obtain ⟨c', yy⟩ := y
  obtain ⟨hfa, hss⟩ := zl8 hfo
  have hput' : (tf.al = true → v = .own β ∧ H' = H.set β (.arr tf.e c' 0)) ∧ (tf.al = false → v = resV (putPs tf.rs yy (H.set β (.arr tf.e c' 0))).1 ∧ H' = (putPs tf.rs yy (H.set β (.arr tf.e c' 0))).2) := by
    simp only [TFT.te, hfo] at hput
    constructor
    · intro e
      rw [e] at hput
      simp only [Option.some.injEq, Prod.mk.injEq] at hput
      exact ⟨hput.1.symm, hput.2.symm⟩
    · intro e
      rw [e] at hput
      simp only [Option.some.injEq, Prod.mk.injEq] at hput
      exact ⟨hput.1.symm, hput.2.symm⟩
  clear hput
  simp only [VRels] at hv
  obtain ⟨v0, vs', rfl, hv0, hv'⟩ := hv
  obtain ⟨y0, hy0, hnd0⟩ := Rf.view_some hc
  obtain ⟨u0, us2, rfl, hu0, hus2⟩ : ∃ u0 us2, v0 = firstU tf.ag u0 us2 ∧ VRel ρ w (.own β) u0 ∧ VRels ρ w ss us2 := by
    subst hfa
    cases hag : tf.ag with
    | true =>
      rw [hag] at hv0
      simp only [firstV, VRel, VRels] at hv0
      obtain ⟨us, rfl, u0, us2, e, h1, h2⟩ := hv0
      refine ⟨u0, us2, ?_, by simp only [VRel]; exact h1, h2⟩
      simp only [firstU]
      rw [← e]
    | false =>
      rw [hag] at hv0
      simp only [firstV] at hv0
      rw [hss hag]
      exact ⟨v0, [], by simp [firstU], hv0, by simp [VRels]⟩
  let m := ρ β
  have hm : ρ β = m := rfl
  let res : Nat → Prop := fun b' => ρ.res b' ∨ (¬ m.has b' ∧ ∃ β o n sz, ρ β = .at b' o n sz)
  have hres : ∀ b, res b → b < w.heap.size := by
    rintro b (hb | ⟨_, β, o, n, sz, hb⟩)
    · exact hH.resl b hb
    · exact hH.lt _ _ _ _ _ hb
  have hrb : ∀ b o n sz, ρ β = .at b o n sz → ¬ res b := by
    rintro b o n sz hr (hb | ⟨hb, _⟩)
    · exact hH.resf _ _ _ _ _ hr hb
    · exact hb ⟨_, _, _, hr⟩
  have hfB : ∀ b', Free ρ w b' → b' < w.heap.size ∧ ¬ res b' ∧ ¬ m.has b' := fun b' hb => ⟨hb.1, fun h3 => by
    rcases h3 with h3 | ⟨_, β, o, n, sz, h3⟩
    · exact hb.2.1 h3
    · exact hb.2.2 _ _ _ _ h3, fun ⟨_, _, _, e⟩ => hb.2.2 _ _ _ _ (hm.trans e)⟩
  have hd : ∀ {K : Kd} {s : SV} {x : K.T} {u : Value}, decH true [] K [s] = some x → VRel ρ w s u → CRel w (fun b' => b' < w.heap.size ∧ ¬ res b' ∧ ¬ m.has b') K x [u] := fun h1 h2 =>
    CRel.mono hfB (fun _ _ => rfl) (zg h1 (VRels.single h2))
  have hsl := HRel.sliceIn hH hc hu0 hrb hfB
  have hβl : β < H.length := (List.getElem?_eq_some_iff.1 hy0).1
  refine Calls.mono (h w res u0 us2 vs' m c c' d xx yy hres hsl (CsRel.of_view hd hdd hus2) (ShRel.of_view hd hxx hv') hfn) fun e w' he => ?_
  obtain ⟨us, tk, rfl, hos, htape, hout, hsize, hkept, hshape, hnd, htk, hps', hso⟩ := he
  obtain ⟨bs, ms, hent, hH', hvr⟩ : ∃ bs ms, Ent w' (fun b' => b' < w'.heap.size ∧ ¬ res b' ∧ ¬ m.has b' ∧ b' ∉ tk) bs ms tk ∧ H' = H.set β (.arr tf.e c' 0) ++ bs ∧
      ∀ ρ' : Map, Agree ρ' H.length ms → (∀ γ, γ < H.length → ρ' γ = ρ γ) → (∀ b', (b' < w'.heap.size ∧ ¬ res b' ∧ ¬ m.has b' ∧ b' ∉ tk) → Free ρ' w' b') → VRel ρ' w' v (resU us) := by
    cases hal : tf.al with
    | true =>
      rw [hal] at hps'
      obtain ⟨rfl, u, rfl, hou⟩ := hps'
      obtain ⟨rfl, rfl⟩ := hput'.1 hal
      refine ⟨[], [], rfl, by simp, fun ρ' _ h2 _ => ?_⟩
      have e : resU #[u] = u := by simp [resU]
      rw [e]
      exact hou.vrel (h2 β hβl)
    | false =>
      rw [hal] at hps'
      obtain ⟨rfl, rfl⟩ := hput'.2 hal
      obtain ⟨bs, ms, hent, hputs⟩ := zhT hps'
      obtain ⟨h1, h2⟩ := hputs (H.set β (.arr tf.e c' 0))
      exact ⟨bs, ms, hent, h1, fun ρ' h3 _ h5 => zdt (h2 ρ' (by simpa using h3) h5)⟩
  clear hput' hps'
  have hl1 : (H.set β (.arr tf.e c' 0)).length = H.length := by simp
  have hml := hent.length
  have hlt' : ∀ {β}, β < H.length → (ρ.add H.length ms) β = ρ β := fun h => by simp [Map.add, h]
  have hge : ∀ {i}, i < ms.length → ∃ m, ms[i]? = some m ∧ (ρ.add H.length ms) (H.length + i) = m := fun {i} h => by
    refine ⟨ms[i], List.getElem?_eq_getElem h, ?_⟩
    simp only [Map.add]; rw [if_neg (by omega), Nat.add_sub_cancel_left, List.getElem?_eq_getElem h]
  have hgt : ∀ {β}, H.length + ms.length ≤ β → (ρ.add H.length ms) β = ρ β := fun {β} h => by
    simp only [Map.add]; rw [if_neg (by omega), List.getElem?_eq_none (by omega)]
  have cases3 : ∀ β, (β < H.length ∧ (ρ.add H.length ms) β = ρ β) ∨ (H.length + ms.length ≤ β ∧ (ρ.add H.length ms) β = ρ β) ∨ ∃ i m, β = H.length + i ∧ ms[i]? = some m ∧ (ρ.add H.length ms) β = m := by
    intro β
    rcases Nat.lt_or_ge β H.length with h1 | h1
    · exact .inl ⟨h1, hlt' h1⟩
    · rcases Nat.lt_or_ge β (H.length + ms.length) with h2 | h2
      · obtain ⟨m, h3, h4⟩ := hge (i := β - H.length) (by omega)
        rw [show H.length + (β - H.length) = β by omega] at h4
        exact .inr (.inr ⟨β - H.length, m, by omega, h3, h4⟩)
      · exact .inr (.inl ⟨h2, hgt h2⟩)
  have htkn : ∀ {i : Nat} {b o n sz : Nat}, ms[i]? = some (.at b o n sz) → b ∈ tk := fun hm => by
    obtain ⟨_, t, _, h6, h7⟩ := hent.get _ _ hm
    exact h7 _ h6.at_
  have hub : ∀ β, H.length ≤ β → β < H.length + ms.length → ρ β = .unborn := fun β h1 h2 => hun β h1 (by rw [hH']; simp; omega)
  have hsb : ∀ {β b o n sz}, ρ β = .at b o n sz → b < w.heap.size := fun h => hH.lt _ _ _ _ _ h
  have hstep : Step ρ w (ρ.add H.length ms) w' := {
    os := hos, tape := htape, output := hout, size := hsize
    kept := fun b' hb hn _ => hkept b' hb (fun ⟨_, _, _, e⟩ => hn _ _ _ _ (hm.trans e))
    shape := hshape
    img := fun β b o n sz hb => by
      rcases cases3 β with ⟨_, h2⟩ | ⟨_, h2⟩ | ⟨i, m, _, h3, h4⟩
      · rw [h2] at hb; exact .inl ⟨β, o, n, sz, hb⟩
      · rw [h2] at hb; exact .inl ⟨β, o, n, sz, hb⟩
      · rw [h4] at hb; subst hb
        exact .inr (htk b (htkn h3)).1
    ref := fun β hb => by
      rcases cases3 β with ⟨_, h2⟩ | ⟨_, h2⟩ | ⟨i, m, h2, h3, _⟩
      · exact .inl h2
      · exact .inl h2
      · exact absurd (hub β (by omega) (by have := (List.getElem?_eq_some_iff.1 h3).1; omega)) hb
    res := rfl
    vl := fun _ _ => rfl }
  have hfree : ∀ b', (b' < w'.heap.size ∧ ¬ res b' ∧ ¬ m.has b' ∧ b' ∉ tk) → Free (ρ.add H.length ms) w' b' := fun b' hb => ⟨hb.1, fun h3 => hb.2.1 (.inl h3), fun β o n sz h1 => by
    rcases cases3 β with ⟨_, h2⟩ | ⟨_, h2⟩ | ⟨i, m, _, h3, h4⟩
    · rw [h2] at h1; exact hb.2.1 (.inr ⟨hb.2.2.1, _, _, _, _, h1⟩)
    · rw [h2] at h1; exact hb.2.1 (.inr ⟨hb.2.2.1, _, _, _, _, h1⟩)
    · rw [h4] at h1; subst h1; exact hb.2.2.2 (htkn h3)⟩
  have hget : ∀ {γ}, γ < H.length → γ ≠ β → (H.set β (.arr tf.e c' 0) ++ bs)[γ]? = H[γ]? := fun {γ} h1 h2 => by
    rw [List.getElem?_append_left (by rw [hl1]; exact h1), List.getElem?_set_ne (Ne.symm h2)]
  have hbr : ∀ b o n sz, ρ β = .at b o n sz → BRel (ρ.add H.length ms) w' b o n sz (.arr tf.e c' 0) := by
    intro b o n sz hr
    rcases hso with ⟨h1, _⟩ | ⟨b1, o1, n1, sz1, h1, h2, h3⟩
    · rw [hm, h1] at hr; cases hr
    · rw [hm, h1] at hr
      injection hr with e1 e2 e3 e4
      subst e1; subst e2; subst e3; subst e4
      rcases hsl with ⟨h4, _⟩ | ⟨b2, o2, cp, h4, _⟩
      · rw [hm, h1] at h4; cases h4
      · rw [hm, h1] at h4
        injection h4 with e1 e2 e3 e4
        exact h2.brel (rf := .arr tf.e 0) hfree e4.symm (by simp only [Rf.len]; rw [h3, e3]) fun _ _ _ => by simp only [Rf.len]; rw [h3, e3]
  refine ⟨resU us, ρ.add H.length ms, rfl, hstep, ?_, ?_, ?_, ?_, by simp [TFT.te]⟩
  · rw [hH']
    constructor
    · intro γ hl hgd
      rcases cases3 γ with ⟨h1, h2⟩ | ⟨h1, h2⟩ | ⟨i, m, h2, h3, h4⟩
      · rw [h2] at hgd
        rw [hget h1 (fun e => by subst e; exact live_of hH hy0 hnd0 hgd)]
        exact hH.dead γ h1 hgd
      · simp at hl; omega
      · rw [h4] at hgd; subst hgd
        obtain ⟨_, t, _, h6, _⟩ := hent.get _ _ h3
        rcases h6 with ⟨h6, _⟩ | ⟨_, _, _, _, _, _, _, _, h6, _⟩ <;> cases h6
    · intro γ hl hgd
      rcases cases3 γ with ⟨h1, h2⟩ | ⟨h1, h2⟩ | ⟨i, m, h2, h3, h4⟩
      · rw [h2] at hgd
        by_cases e : γ = β
        · subst e
          rcases hso with ⟨_, h5⟩ | ⟨_, _, _, _, h5, _⟩
          · subst h5
            refine .inl ⟨tf.e, 0, ?_⟩
            rw [List.getElem?_append_left (by rw [hl1]; exact h1)]
            exact List.getElem?_set_self h1
          · rw [hm, h5] at hgd; cases hgd
        · rw [hget h1 e]
          exact hH.none_ γ h1 hgd
      · simp at hl; omega
      · rw [h4] at hgd; subst hgd; subst h2
        obtain ⟨x, t, h5, h6, _⟩ := hent.get _ _ h3
        rcases h6 with ⟨_, _, e, h6⟩ | ⟨_, _, _, _, _, _, _, _, h6, _⟩
        · subst h6
          exact .inl ⟨e, 0, by rw [List.getElem?_append_right (by omega), hl1, Nat.add_sub_cancel_left]; exact h5⟩
        · cases h6
    · intro γ hl b1 o1 n1 sz1 hq
      rcases cases3 γ with ⟨h1, h2⟩ | ⟨h1, h2⟩ | ⟨i, m, h2, h3, h4⟩
      · rw [h2] at hq
        by_cases e : γ = β
        · subst e
          refine ⟨_, ?_, hbr _ _ _ _ hq⟩
          rw [List.getElem?_append_left (by rw [hl1]; exact h1)]
          simp [h1]
        · obtain ⟨x, h5, h6⟩ := hH.at_ γ h1 _ _ _ _ hq
          refine ⟨x, by rw [hget h1 e]; exact h5, h6.keep hstep (hkept b1 (hsb hq) fun ⟨_, _, _, e2⟩ => ?_) fun b2 hb2 => ⟨hH.vlt hb2, hkept b2 (hH.vlt hb2) fun ⟨_, _, _, e2⟩ => ?_⟩⟩
          · exact e (hH.inj _ _ _ _ _ _ _ _ _ hq (hm.trans e2))
          · exact hH.resf _ _ _ _ _ (hm.trans e2) (.inr (by rw [hb2]; simp))
      · simp at hl; omega
      · rw [h4] at hq; subst hq; subst h2
        obtain ⟨x, t, h5, h6, _⟩ := hent.get _ _ h3
        rcases h6 with ⟨h6, _⟩ | ⟨b', o', n', sz', e, xs, C, tC, h6, h7, h8, h9, h10, h11, h12, h13⟩
        · cases h6
        · cases h6; subst h8
          refine ⟨_, by rw [List.getElem?_append_right (by omega), hl1, Nat.add_sub_cancel_left]; exact h5, ?_⟩
          simp only [BRel]
          exact ⟨h9, h10, C, tC, h11, h12, fun i x hx => by
            obtain ⟨es, h14, h15⟩ := h13 i x hx
            exact ⟨es, CRel.mono hfree (fun _ _ => rfl) h14, h15⟩⟩
    · intro β1 γ b1 o1 n1 sz1 o' n' sz' hb hc
      rcases cases3 β1 with ⟨h1, h2⟩ | ⟨h1, h2⟩ | ⟨i, m, h2, h3, h4⟩ <;> rcases cases3 γ with ⟨g1, g2⟩ | ⟨g1, g2⟩ | ⟨j, m', g2, g3, g4⟩
      · rw [h2] at hb; rw [g2] at hc; exact hH.inj _ _ _ _ _ _ _ _ _ hb hc
      · rw [h2] at hb; rw [g2] at hc; exact hH.inj _ _ _ _ _ _ _ _ _ hb hc
      · rw [h2] at hb; rw [g4] at hc; subst hc
        have := (htk b1 (htkn g3)).1; have := hsb hb; omega
      · rw [h2] at hb; rw [g2] at hc; exact hH.inj _ _ _ _ _ _ _ _ _ hb hc
      · rw [h2] at hb; rw [g2] at hc; exact hH.inj _ _ _ _ _ _ _ _ _ hb hc
      · rw [h2] at hb; rw [g4] at hc; subst hc
        have := (htk b1 (htkn g3)).1; have := hsb hb; omega
      · rw [h4] at hb; subst hb; rw [g2] at hc
        have := (htk b1 (htkn h3)).1; have := hsb hc; omega
      · rw [h4] at hb; subst hb; rw [g2] at hc
        have := (htk b1 (htkn h3)).1; have := hsb hc; omega
      · rw [h4] at hb; subst hb; rw [g4] at hc; subst hc
        rw [h2, g2, hent.inj hnd i j h3 g3]
    · intro β b o n sz hb
      rcases cases3 β with ⟨h1, h2⟩ | ⟨h1, h2⟩ | ⟨i, m, h2, h3, h4⟩
      · rw [h2] at hb; have := hsb hb; omega
      · rw [h2] at hb; have := hsb hb; omega
      · rw [h4] at hb; subst hb; exact (htk b (htkn h3)).2
    · intro b hb; have := hH.resl b hb; omega
    · intro β b o n sz hb hr
      rcases cases3 β with ⟨h1, h2⟩ | ⟨h1, h2⟩ | ⟨i, m, h2, h3, h4⟩
      · rw [h2] at hb; exact hH.resf _ _ _ _ _ hb hr
      · rw [h2] at hb; exact hH.resf _ _ _ _ _ hb hr
      · rw [h4] at hb; subst hb
        have := (htk b (htkn h3)).1; have := hH.resl b hr; omega
  · exact hvr (ρ.add H.length ms) (fun i m hm => by
      obtain ⟨m', h1, h2⟩ := hge (List.getElem?_eq_some_iff.1 hm).1
      rw [hm] at h1; cases h1; exact h2) (fun γ h => hlt' h) hfree
  · rw [hH']; simp
  · intro γ hb hc
    rcases cases3 γ with ⟨_, h2⟩ | ⟨_, h2⟩ | ⟨i, m, h2, h3, h4⟩
    · rw [h2]; exact hb
    · rw [h2]; exact hb
    · exfalso
      rw [hH'] at hc
      have := (List.getElem?_eq_some_iff.1 h3).1
      simp at hc; omega
theorem EntryOK.tft {P : Program} {f : Nat} {tf : TFT} (h : FnSpecT P f tf) (hf : ∃ fn, P.funcs[f]? = some fn ∧ fn.name ≠ "runtime.NumGoroutine" ∧ fn.body.isSome = true) : EntryOK P f tf.te where
  snd := zN4 h
  fn := hf
  ext hm := by simp [TFT.te] at hm
  tch x y args H v H' hv hp := by
    change List tf.e.T × PsT tf.rs at y
    simp only [TFT.te] at hp
    split at hp
    · rename_i a r
      split at hp
      · rename_i β ss hfo
        have hm : β ∈ (List.headD (a :: r) .junk).refs := by
          rw [(zl8 hfo).1]
          unfold firstV
          split <;> simp [SV.refs, SV.refsL]
        split at hp
        · have h2 : H.set β (.arr tf.e y.1 0) = H' := congrArg Prod.snd (Option.some.inj hp)
          rw [← h2]
          have := zdu (H := H) (Δ := []) (x := .arr tf.e y.1 0) hm
          simpa using this
        · have h2 : (putPs tf.rs y.2 (H.set β (.arr tf.e y.1 0))).2 = H' := congrArg Prod.snd (Option.some.inj hp)
          obtain ⟨Δ, h3⟩ := zhW (ps := tf.rs) (y := y.2) (H := H.set β (.arr tf.e y.1 0))
          rw [← h2, h3]
          exact zdu hm
      · simp at hp
    · simp at hp
end
end Go.Proofs.YtdgdoeknpakmlaaGreat.Den
namespace Go.Proofs.YtdgdoeknpakmlaaGreat.Den
open Go Go.RowKit
section
variable {R : Type}
theorem zq8 (T : Tab) : ∀ (gs : List GI) (τ : Env) (H : Heap) (k : Env → Heap → Option R), runR T gs τ H k = (runR T gs τ H fun τ H => some (τ, H)).bind fun p => k p.1 p.2
  | [], τ, H, k => rfl
  | gi :: r, τ, H, k => by
    rw [zqV]; conv => rhs; rw [zqV]
    rw [Option.bind_assoc]
    congr 1; funext p; exact zq8 T r p.1 p.2 k
theorem zq9 (T : Tab) : ∀ (gs : List GI) (tc rd : List Nat) (τ : Env) (H : Heap) (k : Env → Heap → Option R), runRD T gs tc rd τ H k = (runRD T gs tc rd τ H fun τ H => some (τ, H)).bind fun p => k p.1 p.2
  | [], tc, rd, τ, H, k => rfl
  | gi :: r, tc, rd, τ, H, k => by
    simp only [runRD]
    rw [zH]
    congr 1
    rw [zlU]; conv => rhs; rw [zlU]
    rw [Option.bind_assoc]
    congr 1; funext p; exact zq9 T r _ _ p.1 p.2 k
abbrev ES := Ex × Env × Heap
theorem zN5 {f : Env → Heap → (Ex → Env → Heap → Option R) → Option R} {f' : Env → Heap → (Ex → Env → Heap → Option ES) → Option ES} {k : Ex → Env → Heap → Option R}
    (h : ∀ τ H, f τ H k = (f' τ H fun e τ H => some (e, τ, H)).bind fun p => k p.1 p.2.1 p.2.2) (e : Ex) (τ : Env) (H : Heap) :
    seqK f k e τ H = (seqK f' (fun e τ H => some (e, τ, H)) e τ H).bind fun p => k p.1 p.2.1 p.2.2 := by
  cases e with
  | normal => exact h τ H
  | exit i => rfl
  | ret => rfl
theorem zN6 {id : Nat} {k : Ex → Env → Heap → Option R} (e : Ex) (τ : Env) (H : Heap) :
    blkK id k e τ H = (blkK id (fun e τ H => some ((e, τ, H) : ES)) e τ H).bind fun p => k p.1 p.2.1 p.2.2 := by
  cases e with
  | exit i => simp only [blkK]; rw [zH]; rfl
  | normal => rfl
  | ret => rfl
theorem zra {n0 : Nat} {nm : Norm} {G : Env → Heap → Option R} {G' : Env → Heap → Option ES} {k : Ex → Env → Heap → Option R}
    (h : ∀ τ H, G τ H = (G' τ H).bind fun p => k p.1 p.2.1 p.2.2) (τ : Env) (H : Heap) : normK n0 nm G τ H = (normK n0 nm G' τ H).bind fun p => k p.1 p.2.1 p.2.2 := by
  unfold normK
  split
  · exact h _ _
  · rfl
theorem zN7 {n0 : Nat} {nm : Norm} {G : Env → Heap → Option R} {G' : Env → Heap → Option ES} {k : Ex → Env → Heap → Option R}
    (h : ∀ τ H, G τ H = (G' τ H).bind fun p => k p.1 p.2.1 p.2.2) (e : Ex) (τ : Env) (H : Heap) :
    loopK n0 nm G k e τ H = (loopK n0 nm G' (fun e τ H => some (e, τ, H)) e τ H).bind fun p => k p.1 p.2.1 p.2.2 := by
  cases e with
  | normal => exact zra h τ H
  | exit i => rfl
  | ret => rfl
theorem zrb {f : (R : Type) → Env → Heap → (Ex → Env → Heap → Option R) → Option R} (hf : ∀ (R : Type) (τ : Env) (H : Heap) (k : Ex → Env → Heap → Option R), f R τ H k = (f ES τ H fun e τ H => some (e, τ, H)).bind fun p => k p.1 p.2.1 p.2.2)
    {τ : Env} {H : Heap} {k : Ex → Env → Heap → Option R} {k' : Ex → Env → Heap → Option ES} {k2 : Ex → Env → Heap → Option R} (h : ∀ e τ H, k e τ H = (k' e τ H).bind fun p => k2 p.1 p.2.1 p.2.2) :
    f R τ H k = (f ES τ H k').bind fun p => k2 p.1 p.2.1 p.2.2 := by
  rw [hf R]; conv => rhs; rw [hf ES]
  rw [Option.bind_assoc]
  congr 1; funext p; exact h _ _ _
theorem zCk {n0 : Nat} {nm : Norm} {f : (R : Type) → Env → Heap → (Ex → Env → Heap → Option R) → Option R} (hf : ∀ (R : Type) (τ : Env) (H : Heap) (k : Ex → Env → Heap → Option R), f R τ H k = (f ES τ H fun e τ H => some (e, τ, H)).bind fun p => k p.1 p.2.1 p.2.2) :
    ∀ (n : Nat) (τ : Env) (H : Heap) (k : Ex → Env → Heap → Option R), loopN (f R) n0 nm n τ H k = (loopN (f ES) n0 nm n τ H fun e τ H => some (e, τ, H)).bind fun p => k p.1 p.2.1 p.2.2
  | 0, τ, H, k => rfl
  | n + 1, τ, H, k => by
    simp only [loopN]
    exact zrb hf fun e τ H => zN7 (fun τ H => zCk hf n τ H k) e τ H
end
theorem run_nat (T : Tab) (n0 fuel : Nat) : ∀ (c : C) (R : Type) (τ : Env) (H : Heap) (k : Ex → Env → Heap → Option R), run T n0 fuel c τ H k = (run T n0 fuel c τ H fun e τ H => some ((e, τ, H) : ES)).bind fun p => k p.1 p.2.1 p.2.2
  | .skip, R, τ, H, k => rfl
  | .exit _, R, τ, H, k => rfl
  | .ret, R, τ, H, k => rfl
  | .bad, R, τ, H, k => rfl
  | .cut nm, R, τ, H, k => by
    simp only [run]
    exact zra (G := k .normal) (G' := fun τ H => some ((Ex.normal, τ, H) : ES)) (k := k) (fun _ _ => rfl) τ H
  | .reg d gs, R, τ, H, k => by
    cases d with
    | true =>
      simp only [run]
      rw [zq9]; conv => rhs; rw [zq9]
      rw [Option.bind_assoc]; rfl
    | false =>
      simp only [run]
      rw [zq8]; conv => rhs; rw [zq8]
      rw [Option.bind_assoc]; rfl
  | .seq a b, R, τ, H, k => by
    simp only [run]
    exact zrb (f := fun R => run (R := R) T n0 fuel a) (fun R => run_nat T n0 fuel a R) fun e τ H => zN5 (fun τ H => run_nat T n0 fuel b R τ H k) e τ H
  | .cnd s a b, R, τ, H, k => by
    simp only [run]
    split
    · rw [zH, run_nat T n0 fuel a R, run_nat T n0 fuel b R]
    · rfl
  | .blk id a, R, τ, H, k => by
    simp only [run]
    exact zrb (f := fun R => run (R := R) T n0 fuel a) (fun R => run_nat T n0 fuel a R) fun e τ H => zN6 e τ H
  | .loop nm a, R, τ, H, k => by
    simp only [run]
    exact zra (fun τ H => zCk (f := fun R => run (R := R) T n0 fuel a) (fun R => run_nat T n0 fuel a R) fuel τ H k) τ H
def inlEnd {R : Type} (n : Nat) (rv : List (Nat × Option (Nat × Bool))) (k : SV → Heap → Option R) (ex : Ex) (τ : Env) (H : Heap) : Option R :=
  match ex with
  | .exit _ => none
  | _ => match evalRes τ H rv with
    | some ss => cond (Nat.ble n H.length) (k (resV ss) H) none
    | none => none
def inlGo (np : Nat) (T : Tab) (fuel : Nat) (c : C) (rv : List (Nat × Option (Nat × Bool))) (R : Type) (args : List SV) (H : Heap) (k : SV → Heap → Option R) : Option R :=
  cond (Nat.beq args.length np) (run T H.length fuel c (env0 args 0) H (inlEnd H.length rv k)) none
theorem zN8 {R : Type} {n : Nat} {rv : List (Nat × Option (Nat × Bool))} {k : SV → Heap → Option R} (ex : Ex) (τ : Env) (H : Heap) :
    inlEnd n rv k ex τ H = (inlEnd n rv (fun v H => some (v, H)) ex τ H).bind fun p => k p.1 p.2 := by
  unfold inlEnd
  cases ex with
  | exit i => rfl
  | normal => simp only; split <;> first | rfl | (rw [zH]; rfl)
  | ret => simp only; split <;> first | rfl | (rw [zH]; rfl)
theorem zN9 (np : Nat) (T : Tab) (fuel : Nat) (c : C) (rv : List (Nat × Option (Nat × Bool))) (R : Type) (args : List SV) (H : Heap) (k : SV → Heap → Option R) :
    inlGo np T fuel c rv R args H k = (inlGo np T fuel c rv (SV × Heap) args H fun v H => some (v, H)).bind fun p => k p.1 p.2 := by
  unfold inlGo
  rw [zH, run_nat T H.length fuel c R]; conv => rhs; rw [run_nat T H.length fuel c (SV × Heap)]
  rw [Option.bind_assoc]
  congr 1
  congr 1; funext p
  exact zN8 p.1 p.2.1 p.2.2
def inlIE (np : Nat) (T : Tab) (fuel : Nat) (c : C) (rv : List (Nat × Option (Nat × Bool))) : IE := ⟨inlGo np T fuel c rv, zN9 np T fuel c rv⟩
theorem zC {P : Program} {T : Tab} {f : FuncId} {fn : Func} {c : Code} {np : Nat} {frz : List Nat} {ann : List Norm} {cuts : List (Nat × Norm)} {ci : C} {j fuel : Nat} {rv : List (Nat × Option (Nat × Bool))} (hT : TabOK P T) (hmix : P.follows .mixedOrders = true)
    (hf : P.funcs[f]? = some fn) (hb : fn.body = some c) (hl : lightC P frz fn.ntmps ann cuts 0 c = some (ci, j)) (ho : okC T c ci = true) (hn : np ≤ fn.ntmps) (hrv : lightRes P fn.results.toList = some rv)
    (hfn : ∃ fn, P.funcs[f]? = some fn ∧ fn.name ≠ "runtime.NumGoroutine" ∧ fn.body.isSome = true) : ISound P f (inlIE np T fuel ci rv) where
  fn := hfn
  snd := by
    intro ρ H w args vs v H' hH hu hv he
    simp only [inlIE, inlGo] at he
    obtain ⟨hnp, he⟩ := (zd he).resolve_right (by simp)
    have hnp := Nat.eq_of_beq_eq_true hnp
    have hvl := hv.length
    refine calls_of_wp hf hb ?_
    have hat : At P fn.ntmps ρ H w (env0 args 0) { tmps := vs.toArray ++ Array.replicate (fn.ntmps - vs.toArray.size) undef, defers := [] } := by
      refine ⟨⟨by simp; omega, rfl, fun n => ?_⟩, hH, hu⟩
      rw [zaF]
      simp only [Nat.zero_le, if_true, Nat.sub_zero]
      split
      · rename_i s hs
        obtain ⟨u, h1, h2⟩ := hv.get n s hs
        have : (vs.toArray ++ Array.replicate (fn.ntmps - vs.toArray.size) undef).getD n undef = u := by
          rw [Array.getD_eq_getD_getElem?, Array.getElem?_append_left (by have := (List.getElem?_eq_some_iff.1 h1).1; simpa using this), List.getElem?_toArray, h1]
          rfl
        rw [this]; exact h2
      · simp [VRel]
    refine zaD hT hmix c hl ho hat he fun ex τ' H2 ρ' a' w' h1 h2 h3 => ?_
    have hend : ∃ ss, evalRes τ' H2 rv = some ss ∧ H.length ≤ H2.length ∧ v = resV ss ∧ H' = H2 ∧ (ex = .normal ∨ ex = .ret) := by
      unfold inlEnd at h3
      cases ex with
      | exit i => cases h3
      | normal =>
        simp only at h3
        split at h3
        · rename_i ss h4
          obtain ⟨h5, h6⟩ := (zd h3).resolve_right (by simp)
          simp only [Option.some.injEq, Prod.mk.injEq] at h6
          exact ⟨ss, h4, Nat.le_of_ble_eq_true h5, h6.1.symm, h6.2.symm, .inl rfl⟩
        · cases h3
      | ret =>
        simp only at h3
        split at h3
        · rename_i ss h4
          obtain ⟨h5, h6⟩ := (zd h3).resolve_right (by simp)
          simp only [Option.some.injEq, Prod.mk.injEq] at h6
          exact ⟨ss, h4, Nat.le_of_ble_eq_true h5, h6.1.symm, h6.2.symm, .inr rfl⟩
        · cases h3
    obtain ⟨ss, h4, hlen, rfl, rfl, hex⟩ := hend
    obtain ⟨us, h8, h9⟩ := zaE h1.t h1.h hrv h4
    have hst : Step ρ w ρ' w' := ⟨h2.os, h2.tape, h2.output, h2.size, h2.kept, h2.shape, h2.img, fun β hβ => h2.ref β (by
      rcases Nat.lt_or_ge β H.length with h | h
      · exact h
      · exact absurd (hu β h) hβ) hβ, h2.res, h2.vl⟩
    have hpost : a'.defers = [] ∧ ∃ v', (results fn a'.tmps).run P w' = .ok v' w' ∧ (fun e w' => ∃ u ρ', e = Ending.returned u ∧ Good false ρ H w (resV ss) H' u w' ρ') (Ending.returned v') w' := by
      exact ⟨h1.t.2.1, resU us, h8, resU us, ρ', rfl, hst, h1.h, zdt h9, hlen, fun β _ h => h1.u β h, by simp⟩
    rcases hex with rfl | rfl
    · exact hpost
    · exact hpost
def teIE (te : TE) : IE := ⟨fun R args H k => callL [te] args H k, fun R args H k => by
  simp only [callL]
  split
  · rfl
  · rename_i x _
    cases te.fn x with
    | none => rfl
    | some y =>
      simp only [Option.bind_some]
      split <;> rfl⟩
def orGo (n : Nat) (a b : IE) (R : Type) (args : List SV) (H : Heap) (k : SV → Heap → Option R) : Option R :=
  match args with
  | .agg (c :: _) :: _ => match lenOf H c with
    | some m => cond (decide ((m : Int) ≤ (n : Int))) (a.go R args H k) (b.go R args H k)
    | none => none
  | _ => none
theorem orGo_or {n : Nat} {a b : IE} {args : List SV} {H : Heap} : (∀ (R : Type) (k : SV → Heap → Option R), orGo n a b R args H k = a.go R args H k) ∨ (∀ (R : Type) (k : SV → Heap → Option R), orGo n a b R args H k = b.go R args H k) ∨ (∀ (R : Type) (k : SV → Heap → Option R), orGo n a b R args H k = none) := by
  unfold orGo
  split
  · split
    · rename_i m _
      cases decide ((m : Int) ≤ (n : Int))
      · exact .inr (.inl fun _ _ => rfl)
      · exact .inl fun _ _ => rfl
    · exact .inr (.inr fun _ _ => rfl)
  · exact .inr (.inr fun _ _ => rfl)
def orIE (n : Nat) (a b : IE) : IE := ⟨orGo n a b, fun R args H k => by
  rcases orGo_or (n := n) (a := a) (b := b) (args := args) (H := H) with h | h | h
  · rw [h, h]; exact a.nat R args H k
  · rw [h, h]; exact b.nat R args H k
  · rw [h, h]; rfl⟩
theorem zCl {P : Program} {f : Nat} {te : TE} (h : EntryOK P f te) : ISound P f (teIE te) where
  fn := h.fn
  snd := by
    intro ρ H w args vs v H' hH hu hv he
    simp only [teIE, callL] at he
    split at he
    · cases he
    · rename_i x hx
      rw [Option.bind_eq_some_iff] at he
      obtain ⟨y, hy, he⟩ := he
      split at he
      · rename_i v2 H2 hp
        simp only [Option.some.injEq, Prod.mk.injEq] at he
        obtain ⟨rfl, rfl⟩ := he
        refine Calls.mono (h.snd ρ H w args vs x y v2 H2 hH hv (fun β h1 _ => hu β h1) hx hy hp) fun e w' hg => ?_
        obtain ⟨u, ρ', e1, g⟩ := hg
        exact ⟨u, ρ', e1, ⟨g.step, g.hrel, g.vrel, g.len, g.unb, by simp⟩⟩
      · cases he
theorem zOa {P : Program} {f : Nat} {n : Nat} {a b : IE} (ha : ISound P f a) (hb : ISound P f b) : ISound P f (orIE n a b) where
  fn := ha.fn
  snd := by
    intro ρ H w args vs v H' hH hu hv he
    have he : orGo n a b (SV × Heap) args H (fun v H => some (v, H)) = some (v, H') := he
    rcases orGo_or (n := n) (a := a) (b := b) (args := args) (H := H) with h | h | h
    · rw [h] at he; exact ha.snd ρ H w args vs v H' hH hu hv he
    · rw [h] at he; exact hb.snd ρ H w args vs v H' hH hu hv he
    · rw [h] at he; cases he
theorem inlNil {P : Program} : ∀ p ∈ ([] : List (Nat × IE)), ISound P p.1 p.2 := fun _ h => nomatch h
theorem inlCons {P : Program} {f : Nat} {ie : IE} {l : List (Nat × IE)} (h : ISound P f ie) (t : ∀ p ∈ l, ISound P p.1 p.2) : ∀ p ∈ (f, ie) :: l, ISound P p.1 p.2 := List.forall_mem_cons.2 ⟨h, t⟩
end Go.Proofs.YtdgdoeknpakmlaaGreat.Den
namespace Go.Proofs.YtdgdoeknpakmlaaGreat.Den
open Go Go.RowKit
structure TR where
  ps : Sh
  e : Kd
  fn : ps.T → Option (List (List e.T))
def TR.te (tr : TR) : TE where
  X := tr.ps.T
  Y := List (List tr.e.T)
  mono := true
  view args H := viewS H tr.ps args
  fn := tr.fn
  put _ y _ H := some (.own H.length, H ++ [.rows tr.e y])
def OwnRR (w : World) (e : Kd) (y : List (List e.T)) (u : Value) (tk : List Nat) : Prop :=
  (tk = [] ∧ y = [] ∧ ∃ a, u = .slice a 0 0) ∨ OwnRows w (fun _ => False) e y.length y u tk
def FnSpecR (P : Program) (f : FuncId) (tr : TR) : Prop :=
  ∀ (w : World) (res : Nat → Prop) (vs : List Value) (x : tr.ps.T) (y : List (List tr.e.T)), (∀ b, res b → b < w.heap.size) → ShRel w (fun b => b < w.heap.size ∧ ¬ res b) tr.ps x vs → tr.fn x = some y →
    Calls P f vs.toArray w fun e w' => ∃ u tk, e = .returned u ∧ w'.os = w.os ∧ w'.tape = w.tape ∧ w'.output = w.output ∧ w.heap.size ≤ w'.heap.size ∧ (∀ b, b < w.heap.size → w'.heap[b]? = w.heap[b]?) ∧
      tk.Nodup ∧ (∀ b ∈ tk, w.heap.size ≤ b ∧ b < w'.heap.size) ∧ OwnRR w' tr.e y u tk
def TR.at (tr : TR) (n : Nat) : TG := ⟨tr.ps, .cell (.list (.list tr.e)) (n + 2) .nil, true, fun x => (tr.fn x).bind fun y => if y.length = n then some (y, ()) else none⟩
theorem FnSpecR.of {P : Program} {f : FuncId} {tr : TR} (hn : tr.e.noList = true) (h : ∀ n, FnSpecG P f (tr.at n)) : FnSpecR P f tr := by
  intro w res vs x y hres hps hy
  have hfn : (tr.at y.length).fn x = some (y, ()) := by simp [TR.at, hy]
  refine Calls.mono (h y.length w res vs x (y, ()) hres hps hfn) fun e w' he => ?_
  obtain ⟨us, tk, rfl, h1, h2, h3, h4, h5, h6, h7, h8⟩ := he
  simp only [TR.at, ShOut] at h8
  obtain ⟨u, us', t1, t2, h9, rfl, h10, rfl, rfl⟩ := h8
  have hu : us = #[u] := by apply Array.ext'; simpa using h9
  subst hu
  refine ⟨u, t1, rfl, h1, h2, h3, h4, h5, by simpa using h6, by simpa using h7, ?_⟩
  obtain ⟨b, o, c, C, tC, us2, t', g1, g2, g3, g4, g5, g6, g7, g8⟩ := h10
  exact .inr ⟨b, o, c, C, tC, us2, t', g1, g2, g3, g4, g5, g6, g7, g8.keep hn fun _ _ => rfl⟩
section
variable {w : World} {ρ : Map} {H : Heap}
theorem zOb {P : Program} {f : FuncId} {tr : TR} (hne : tr.e.noList = true) (h : FnSpecR P f tr) : TESound P f tr.te := by
  intro ρ H w args vs (x : tr.ps.T) (y : List (List tr.e.T)) v H' hH hv hun hview hfn hput
  have hput' : v = .own H.length ∧ H' = H ++ [.rows tr.e y] := by
    simp only [TR.te, Option.some.injEq, Prod.mk.injEq] at hput
    exact ⟨hput.1.symm, hput.2.symm⟩
  obtain ⟨rfl, rfl⟩ := hput'
  let res : Nat → Prop := fun b => ρ.res0 b ∧ ρ.vl b = none
  have hres : ∀ b, res b → b < w.heap.size := fun b hb => hH.resl b (.inl hb.1)
  have hps : ShRel w (fun b => b < w.heap.size ∧ ¬ res b) tr.ps x vs := by
    refine ShRel.of_view (ρ := ρ) (fun {K s x u} h1 h2 => ?_) hview hv
    exact zh hH (B := fun b => b < w.heap.size ∧ ¬ res b) (fun b hb => ⟨hb.1, fun h3 => hb.2.1 (.inl h3.1)⟩) (fun _ b t hv2 => ⟨hH.vlt hv2, fun h3 => by have h4 := h3.2; rw [hv2] at h4; cases h4⟩)
      (fun γ b o n sz _ hg => ⟨hH.lt _ _ _ _ _ hg, fun h3 => hH.resf _ _ _ _ _ hg (.inl h3.1)⟩) h1 (VRels.single h2)
  refine Calls.mono (h w res vs x y hres hps hfn) fun e w' he => ?_
  obtain ⟨u, tk, rfl, hos, htape, hout, hsize, hkept, hnd, htk, hrr⟩ := he
  have hu0 : ρ H.length = .unborn := hun _ (Nat.le_refl _) (by simp)
  have hsb : ∀ {β b o n sz}, ρ β = .at b o n sz → b < w.heap.size := fun h => hH.lt _ _ _ _ _ h
  rcases hrr with ⟨rfl, hy0, a0, rfl⟩ | ⟨b, o, c, C, tC, us, t', rfl, rfl, hnc, hC, hsz, hul, hus, hown⟩
  · let ρ' : Map := ⟨fun γ => if γ = H.length then .none_ else ρ γ, ρ.res0, ρ.vl⟩
    have hnew : ρ' H.length = .none_ := by show (if H.length = H.length then _ else _) = _; rw [if_pos rfl]
    have hold : ∀ {γ}, γ ≠ H.length → ρ' γ = ρ γ := fun {γ} hγ => by show (if γ = H.length then _ else _) = _; rw [if_neg hγ]
    have hat : ∀ {γ b o n sz}, ρ' γ = .at b o n sz → γ ≠ H.length ∧ ρ γ = .at b o n sz := fun {γ b o n sz} h => by
      by_cases e : γ = H.length
      · subst e; rw [hnew] at h; cases h
      · exact ⟨e, by rw [← hold e]; exact h⟩
    have hstep : Step ρ w ρ' w' := {
      os := hos, tape := htape, output := hout, size := hsize
      kept := fun b hb _ _ => hkept b hb
      shape := fun b C t fr hb => ⟨C, by rw [hkept b (Array.getElem?_eq_some_iff.1 hb).1]; exact hb, rfl⟩
      img := fun γ b1 o1 n1 sz1 hg => .inl ⟨γ, o1, n1, sz1, (hat hg).2⟩
      ref := fun γ hg => .inl (hold fun e => hg (by rw [e]; exact hu0))
      res := rfl
      vl := fun b' hb' => rfl }
    refine ⟨_, ρ', rfl, hstep, ?_, ?_, by simp, ?_, ?_⟩
    · constructor
      · intro γ hl hd
        by_cases e : γ = H.length
        · subst e; rw [hnew] at hd; cases hd
        · rw [hold e] at hd
          have hl' : γ < H.length := by simp at hl; omega
          rw [List.getElem?_append_left hl']; exact hH.dead γ hl' hd
      · intro γ hl hd
        by_cases e : γ = H.length
        · subst e
          refine .inr (.inr ⟨tr.e, ?_⟩)
          rw [hy0]; simp
        · rw [hold e] at hd
          have hl' : γ < H.length := by simp at hl; omega
          rw [List.getElem?_append_left hl']; exact hH.none_ γ hl' hd
      · intro γ hl b1 o1 n1 sz1 hd
        obtain ⟨e, hd⟩ := hat hd
        have hl' : γ < H.length := by simp at hl; omega
        obtain ⟨z, h3, h4⟩ := hH.at_ γ hl' _ _ _ _ hd
        exact ⟨z, by rw [List.getElem?_append_left hl']; exact h3, h4.keep hstep (hkept b1 (hsb hd)) fun b' hb' => ⟨hH.vlt hb', hkept b' (hH.vlt hb')⟩⟩
      · intro γ δ b1 o1 n1 sz1 o2 n2 sz2 h1 h2
        exact hH.inj _ _ _ _ _ _ _ _ _ (hat h1).2 (hat h2).2
      · intro γ b1 o1 n1 sz1 h1
        have := hsb (hat h1).2; omega
      · intro b' h1; have := hH.resl b' h1; omega
      · intro γ b1 o1 n1 sz1 h1 h2
        exact hH.resf _ _ _ _ _ (hat h1).2 h2
    · simp only [VRel, hnew]
      exact ⟨a0, rfl⟩
    · intro γ hg hl
      have e : γ ≠ H.length := by simp at hl; omega
      rw [hold e]; exact hg
    · intro _
      refine ⟨⟨_, rfl⟩, fun γ hl => ?_, hkept⟩
      have e : γ ≠ H.length := by simp at hl; omega
      exact hold e
  have hnd' := List.nodup_cons.1 hnd
  have hb := htk b (List.mem_cons_self ..)
  have ht : ∀ b' ∈ t', w.heap.size ≤ b' ∧ b' < w'.heap.size := fun b' hb' => htk b' (List.mem_cons_of_mem _ hb')
  let ρ' : Map := ⟨fun γ => if γ = H.length then .at b o y.length 1 else ρ γ, ρ.res0, fun b' => if b' ∈ t' then some b else ρ.vl b'⟩
  have hnew : ρ' H.length = .at b o y.length 1 := by show (if H.length = H.length then _ else _) = _; rw [if_pos rfl]
  have hold : ∀ {γ}, γ ≠ H.length → ρ' γ = ρ γ := fun {γ} hγ => by show (if γ = H.length then _ else _) = _; rw [if_neg hγ]
  have hvin : ∀ {b'}, b' ∈ t' → ρ'.vl b' = some b := fun {b'} hb' => by show (if b' ∈ t' then _ else _) = _; rw [if_pos hb']
  have hvout : ∀ {b'}, b' ∉ t' → ρ'.vl b' = ρ.vl b' := fun {b'} hb' => by show (if b' ∈ t' then _ else _) = _; rw [if_neg hb']
  have hvo : ∀ {b'}, b' < w.heap.size → ρ'.vl b' = ρ.vl b' := fun {b'} hb' => hvout fun h => by have := (ht b' h).1; omega
  have hstep : Step ρ w ρ' w' := {
    os := hos, tape := htape, output := hout, size := hsize
    kept := fun b hb _ _ => hkept b hb
    shape := fun b C t fr hb => ⟨C, by rw [hkept b (Array.getElem?_eq_some_iff.1 hb).1]; exact hb, rfl⟩
    img := fun γ b1 o1 n1 sz1 hg => by
      by_cases e : γ = H.length
      · subst e; rw [hnew] at hg; injection hg with e1; subst e1; exact .inr hb.1
      · rw [hold e] at hg; exact .inl ⟨γ, o1, n1, sz1, hg⟩
    ref := fun γ hg => .inl (hold fun e => hg (by rw [e]; exact hu0))
    res := rfl
    vl := fun b' hb' => hvo hb' }
  refine ⟨_, ρ', rfl, hstep, ?_, ?_, by simp, ?_, ?_⟩
  · constructor
    · intro γ hl hd
      by_cases e : γ = H.length
      · subst e; rw [hnew] at hd; cases hd
      · rw [hold e] at hd
        have hl' : γ < H.length := by simp at hl; omega
        rw [List.getElem?_append_left hl']; exact hH.dead γ hl' hd
    · intro γ hl hd
      by_cases e : γ = H.length
      · subst e; rw [hnew] at hd; cases hd
      · rw [hold e] at hd
        have hl' : γ < H.length := by simp at hl; omega
        rw [List.getElem?_append_left hl']; exact hH.none_ γ hl' hd
    · intro γ hl b1 o1 n1 sz1 hd
      by_cases e : γ = H.length
      · subst e
        rw [hnew] at hd; injection hd with e1 e2 e3 e4
        subst e1; subst e2; subst e3; subst e4
        refine ⟨.rows tr.e y, by simp, ?_⟩
        simp only [BRel]
        rw [zdv] at hown
        exact ⟨trivial, trivial, hne, C, tC, us, t', hC, by omega, hul, hus, hown, hnd'.2, fun b' hb' => hvin hb'⟩
      · rw [hold e] at hd
        have hl' : γ < H.length := by simp at hl; omega
        obtain ⟨z, h3, h4⟩ := hH.at_ γ hl' _ _ _ _ hd
        exact ⟨z, by rw [List.getElem?_append_left hl']; exact h3, h4.keep hstep (hkept b1 (hsb hd)) fun b' hb' => ⟨hH.vlt hb', hkept b' (hH.vlt hb')⟩⟩
    · intro γ δ b1 o1 n1 sz1 o2 n2 sz2 h1 h2
      by_cases e : γ = H.length <;> by_cases e2 : δ = H.length
      · omega
      · subst e; rw [hnew] at h1; injection h1 with e1; subst e1
        rw [hold e2] at h2; have := hsb h2; omega
      · subst e2; rw [hnew] at h2; injection h2 with e1; subst e1
        rw [hold e] at h1; have := hsb h1; omega
      · rw [hold e] at h1; rw [hold e2] at h2; exact hH.inj _ _ _ _ _ _ _ _ _ h1 h2
    · intro γ b1 o1 n1 sz1 h1
      by_cases e : γ = H.length
      · subst e; rw [hnew] at h1; injection h1 with e1; subst e1; exact hb.2
      · rw [hold e] at h1; have := hsb h1; omega
    · rintro b' (h1 | h1)
      · have := hH.resl b' (.inl h1); omega
      · by_cases e : b' ∈ t'
        · exact (ht b' e).2
        · rw [hvout e] at h1; have := hH.resl b' (.inr h1); omega
    · rintro γ b1 o1 n1 sz1 h1 h2
      by_cases e : γ = H.length
      · subst e; rw [hnew] at h1; injection h1 with e1; subst e1
        rcases h2 with h2 | h2
        · have := hH.resl b (.inl h2); omega
        · rw [hvout hnd'.1] at h2; have := hH.resl b (.inr h2); omega
      · rw [hold e] at h1
        have hlt := hsb h1
        rcases h2 with h2 | h2
        · exact hH.resf _ _ _ _ _ h1 (.inl h2)
        · rw [hvo hlt] at h2; exact hH.resf _ _ _ _ _ h1 (.inr h2)
  · simp only [VRel, hnew]
    exact ⟨c, hnc, rfl, C, tC, hC, hsz⟩
  · intro γ hg hl
    have e : γ ≠ H.length := by simp at hl; omega
    rw [hold e]; exact hg
  · intro _
    refine ⟨⟨_, rfl⟩, fun γ hl => ?_, hkept⟩
    have e : γ ≠ H.length := by simp at hl; omega
    exact hold e
end
theorem EntryOK.tr {P : Program} {f : Nat} {tr : TR} (hne : tr.e.noList = true) (h : FnSpecR P f tr) (hf : ∃ fn, P.funcs[f]? = some fn ∧ fn.name ≠ "runtime.NumGoroutine" ∧ fn.body.isSome = true) : EntryOK P f tr.te where
  snd := zOb hne h
  fn := hf
  ext _ x y args H v H' hp := ⟨_, (congrArg Prod.snd (Option.some.inj hp)).symm⟩
  tch x y args H v H' _ hp := ext_tch (te := tr.te) (x := x) (y := y) (v := v) ⟨_, (congrArg Prod.snd (Option.some.inj hp)).symm⟩
end Go.Proofs.YtdgdoeknpakmlaaGreat.Den
namespace Go.Proofs.YtdgdoeknpakmlaaGreat.Den
open Go Go.RowKit
structure TM where
  e : Kd
  fn : List (List e.T) × Int → Option (List (List e.T) × Int)
def TM.te (tm : TM) : TE where
  X := List (List tm.e.T) × Int
  Y := List (List tm.e.T) × Int
  mono := false
  view args H := match args with
    | [.own β, .int .i64 k] => match H[β]? with
      | some (.rows e' xss) => if h : e' = tm.e then some (h ▸ xss, k) else none
      | _ => none
    | _ => none
  fn := tm.fn
  put _ y args H := match args with
    | .own β :: _ => some (.int .i64 y.2, H.set β (.rows tm.e y.1))
    | _ => none
def FnSpecM (P : Program) (f : FuncId) (tm : TM) : Prop :=
  ∀ (w : World) (u : Value) (tk : List Nat) (xss : List (List tm.e.T)) (k : Int) (y : List (List tm.e.T) × Int), OwnRR w tm.e xss u tk → tk.Nodup → (∀ b ∈ tk, b < w.heap.size) → tm.fn (xss, k) = some y →
    Calls P f #[u, .int .i64 k] w fun e w' => e = .returned (.int .i64 y.2) ∧ w'.os = w.os ∧ w'.tape = w.tape ∧ w'.output = w.output ∧ w.heap.size ≤ w'.heap.size ∧ (∀ b, b < w.heap.size → b ∉ tk → w'.heap[b]? = w.heap[b]?) ∧
      (∀ (b : Nat) C t fr, w.heap[b]? = some (.cells C t fr) → ∃ C', w'.heap[b]? = some (.cells C' t fr) ∧ C'.size = C.size) ∧
      ∃ tk2, OwnRR w' tm.e y.1 u tk2 ∧ tk2.Nodup ∧ ∀ b ∈ tk2, b ∈ tk
theorem zOc {P : Program} {f : FuncId} {tm : TM} (hne : tm.e.noList = true) (h : FnSpecM P f tm) : TESound P f tm.te := by
  intro ρ H w args vs (x : List (List tm.e.T) × Int) (y : List (List tm.e.T) × Int) v H' hH hv hun hview hfn hput
  obtain ⟨β, k, xss, rfl, hb, rfl⟩ : ∃ β k xss, args = [.own β, .int .i64 k] ∧ H[β]? = some (.rows tm.e xss) ∧ x = (xss, k) := by
    change (match (generalizing := false) args with
      | [.own β, .int .i64 k] => (match H[β]? with
        | some (.rows e' xss) => if h : e' = tm.e then some (h ▸ xss, k) else none
        | _ => none)
      | _ => none) = some x at hview
    split at hview
    · rename_i β k
      split at hview
      · rename_i e' xss hb
        split at hview
        · rename_i he
          subst he
          simp only [Option.some.injEq] at hview
          exact ⟨β, k, xss, rfl, hb, hview.symm⟩
        · simp at hview
      · simp at hview
    · simp at hview
  have hput' : v = .int .i64 y.2 ∧ H' = H.set β (.rows tm.e y.1) := by
    simp only [TM.te, Option.some.injEq, Prod.mk.injEq] at hput
    exact ⟨hput.1.symm, hput.2.symm⟩
  obtain ⟨rfl, rfl⟩ := hput'
  have hβl : β < H.length := (List.getElem?_eq_some_iff.1 hb).1
  simp only [VRels] at hv
  obtain ⟨u, us0, rfl, hv0, u1, us1, rfl, hv1, rfl⟩ := hv
  simp only [VRel] at hv1
  subst hv1
  have hl1 : (H.set β (.rows tm.e y.1)).length = H.length := by simp
  have hget : ∀ {γ}, γ ≠ β → (H.set β (.rows tm.e y.1))[γ]? = H[γ]? := fun {γ} h2 => List.getElem?_set_ne (Ne.symm h2)
  have hself : (H.set β (.rows tm.e y.1))[β]? = some (.rows tm.e y.1) := List.getElem?_set_self hβl
  have hsb : ∀ {β b o n sz}, ρ β = .at b o n sz → b < w.heap.size := fun h => hH.lt _ _ _ _ _ h
  have hnd0 : ρ β ≠ .dead := live_of hH hb (by simp)
  -- what lies there
  have key : ∃ tk, OwnRR w tm.e xss u tk ∧ tk.Nodup ∧ (∀ b ∈ tk, b < w.heap.size) ∧ ((ρ β = .none_ ∧ tk = []) ∨ ∃ b o n t', ρ β = .at b o n 1 ∧ tk = b :: t' ∧ (∀ b' ∈ t', ρ.vl b' = some b) ∧ ∃ c C tC, u = .slice (some ⟨b, o, none⟩) n c ∧ w.heap[b]? = some (.cells C tC (0, 0)) ∧ o + n ≤ C.size) := by
    rcases own_rel hH hb (by simp) hv0 with ⟨hr, a, rfl⟩ | ⟨b, o, n, sz, c, hr, hc, rfl, hroom⟩
    · refine ⟨[], .inl ⟨rfl, ?_, a, rfl⟩, by simp, by simp, .inl ⟨hr, rfl⟩⟩
      rcases hH.none_ β hβl hr with ⟨K, t, h1⟩ | ⟨t, z, h1⟩ | ⟨e, h1⟩
      · rw [hb] at h1; simp at h1
      · rw [hb] at h1; simp at h1
      · rw [hb] at h1
        injection h1 with h1
        injection h1 with h2 h3
        subst h2
        exact eq_of_heq h3
    · obtain ⟨x, h1, h2⟩ := hH.at_ β hβl _ _ _ _ hr
      rw [hb] at h1
      simp only [Option.some.injEq] at h1
      subst h1
      simp only [BRel] at h2
      obtain ⟨rfl, rfl, hn, C, tC, us, tk, hC, hsz, hul, hus, hown, hnd, hvl⟩ := h2
      obtain ⟨C2, t2, hC2, hroom⟩ := hroom
      rw [hC] at hC2
      simp only [Option.some.injEq, Obj.cells.injEq] at hC2
      obtain ⟨rfl, _⟩ := hC2
      have hbt : b ∉ tk := fun hbt => hH.resf _ _ _ _ _ hr (.inr (by rw [hvl b hbt]; simp))
      refine ⟨b :: tk, .inr ⟨b, o, c, C, tC, us, tk, rfl, rfl, hc, hC, hroom, hul, hus, by rw [zdv]; exact hown⟩, List.nodup_cons.2 ⟨hbt, hnd⟩, ?_, .inr ⟨b, o, _, tk, hr, rfl, hvl, c, C, tC, rfl, hC, hsz⟩⟩
      intro b' hb'
      rcases List.mem_cons.1 hb' with rfl | h3
      · exact hsb hr
      · exact hH.vlt (hvl b' h3)
  obtain ⟨tk, hrr, hnd, htk, hwhere⟩ := key
  refine Calls.mono (h w u tk xss k y hrr hnd htk hfn) fun e w' he => ?_
  obtain ⟨rfl, hos, htape, hout, hsize, hkept, hshape, tk2, hrr2, hnd2, hsub⟩ := he
  have hkv : ∀ b, ρ.vl b = none → (∀ o n sz, ρ β ≠ .at b o n sz) → b ∉ tk := by
    intro b hvb hne2 hbt
    rcases hwhere with ⟨_, rfl⟩ | ⟨b1, o1, n1, t', hr, rfl, hvl, _⟩
    · simp at hbt
    · rcases List.mem_cons.1 hbt with rfl | h3
      · exact hne2 _ _ _ hr
      · rw [hvl b h3] at hvb; cases hvb
  have hstep : Step ρ w ρ w' := {
    os := hos, tape := htape, output := hout, size := hsize
    kept := fun b hb hn hv => hkept b hb (hkv b hv fun o n sz h => hn _ _ _ _ h)
    shape := hshape
    img := fun γ b o n sz hg => .inl ⟨γ, o, n, sz, hg⟩
    ref := fun γ _ => .inl rfl
    res := rfl
    vl := fun _ _ => rfl }
  refine ⟨_, ρ, rfl, hstep, ?_, by simp [VRel], by rw [hl1]; omega, fun γ hg _ => hg, by simp [TM.te]⟩
  constructor
  · intro γ hl hd
    by_cases e : γ = β
    · subst e; exact absurd hd hnd0
    · rw [hget e]; exact hH.dead γ (by omega) hd
  · intro γ hl hd
    by_cases e : γ = β
    · subst e
      refine .inr (.inr ⟨tm.e, ?_⟩)
      rw [hself]
      rcases hwhere with ⟨_, rfl⟩ | ⟨b1, o1, n1, t', hr, _⟩
      · rcases hrr2 with ⟨_, h2, _⟩ | ⟨b, o, c, C, tC, us, t', h1, _⟩
        · rw [h2]
        · have := hsub b (by rw [h1]; simp)
          simp at this
      · rw [hr] at hd; cases hd
    · rw [hget e]; exact hH.none_ γ (by omega) hd
  · intro γ hl b1 o1 n1 sz1 hq
    by_cases e : γ = β
    · subst e
      refine ⟨_, hself, ?_⟩
      rcases hwhere with ⟨hr, _⟩ | ⟨b2, o2, n2, t', hr, rfl, hvl, c, C0, tC0, rfl, hC0, hsz0⟩
      · rw [hr] at hq; cases hq
      · rw [hr] at hq
        injection hq with e1 e2 e3 e4
        subst e1; subst e2; subst e3; subst e4
        rcases hrr2 with ⟨_, h2, a, h3⟩ | ⟨b, o, c', C, tC, us, t2, rfl, h2, hnc, hC, hsz, hul, hus, hown⟩
        · injection h3 with h4 h5 h6
          subst h5
          obtain ⟨C', h7, h8⟩ := hshape _ _ _ _ hC0
          rw [h2]
          simp only [BRel]
          exact ⟨trivial, rfl, hne, C', tC0, [], [], h7, by omega, rfl, fun i v h => by simp at h, ⟨rfl, rfl⟩, List.nodup_nil, fun b' h => by simp at h⟩
        · injection h2 with h4 h5 h6
          injection h4 with h4
          injection h4 with h7 h8
          subst h7; subst h8
          simp only [BRel]
          have hnd3 := List.nodup_cons.1 hnd2
          refine ⟨trivial, h5.symm, hne, C, tC, us, t2, hC, by omega, by omega, hus, ?_, hnd3.2, fun b' hb' => ?_⟩
          · rw [zdv] at hown; exact hown
          · rcases List.mem_cons.1 (hsub b' (by simp [hb'])) with rfl | h9
            · exact absurd hb' hnd3.1
            · exact hvl b' h9
    · obtain ⟨z, h3, h4⟩ := hH.at_ γ (by omega) _ _ _ _ hq
      have hne2 : ∀ o n sz, ρ β ≠ .at b1 o n sz := fun o n sz h5 => e (hH.inj _ _ _ _ _ _ _ _ _ hq h5)
      refine ⟨z, by rw [hget e]; exact h3, h4.keep hstep (hkept b1 (hsb hq) (hkv b1 ?_ hne2)) fun b' hb' => ⟨hH.vlt hb', hkept b' (hH.vlt hb') fun hbt => ?_⟩⟩
      · cases hvb : ρ.vl b1 with
        | none => rfl
        | some t => exact absurd (.inr (by rw [hvb]; simp)) (hH.resf _ _ _ _ _ hq)
      · rcases hwhere with ⟨_, rfl⟩ | ⟨b2, o2, n2, t', hr, rfl, hvl, _⟩
        · simp at hbt
        · rcases List.mem_cons.1 hbt with rfl | h5
          · exact hH.resf _ _ _ _ _ hr (.inr (by rw [hb']; simp))
          · rw [hvl b' h5] at hb'
            simp only [Option.some.injEq] at hb'
            subst hb'
            exact hne2 _ _ _ hr
  · exact hH.inj
  · intro γ b1 o1 n1 sz1 h1
    have := hsb h1; omega
  · intro b' h1; have := hH.resl b' h1; omega
  · exact hH.resf
theorem EntryOK.tm {P : Program} {f : Nat} {tm : TM} (hne : tm.e.noList = true) (h : FnSpecM P f tm) (hf : ∃ fn, P.funcs[f]? = some fn ∧ fn.name ≠ "runtime.NumGoroutine" ∧ fn.body.isSome = true) : EntryOK P f tm.te where
  snd := zOc hne h
  fn := hf
  ext hm := by simp [TM.te] at hm
  tch x y args H v H' hv hp := by
    change List (List tm.e.T) × Int at y
    simp only [TM.te] at hp
    split at hp
    · rename_i β r
      simp only [Option.some.injEq, Prod.mk.injEq] at hp
      have h2 := hp.2
      rw [← h2]
      have := zdu (l := ((SV.own β :: r).headD .junk).refs) (H := H) (Δ := []) (x := .rows tm.e y.1) (β := β) (by simp [SV.refs])
      simpa using this
    · cases hp
def vwGo (te : TE) (ie : IE) (R : Type) (args : List SV) (H : Heap) (k : SV → Heap → Option R) : Option R :=
  match te.view args H with
  | some _ => callL [te] args H k
  | none => ie.go R args H k
def vwIE (te : TE) (ie : IE) : IE := ⟨vwGo te ie, fun R args H k => by
  unfold vwGo
  split
  · exact (teIE te).nat R args H k
  · exact ie.nat R args H k⟩
theorem zOd {P : Program} {f : Nat} {te : TE} {ie : IE} (ha : EntryOK P f te) (hb : ISound P f ie) : ISound P f (vwIE te ie) where
  fn := ha.fn
  snd := by
    intro ρ H w args vs v H' hH hu hv he
    have he : vwGo te ie (SV × Heap) args H (fun v H => some (v, H)) = some (v, H') := he
    unfold vwGo at he
    split at he
    · exact (zCl ha).snd ρ H w args vs v H' hH hu hv he
    · exact hb.snd ρ H w args vs v H' hH hu hv he
end Go.Proofs.YtdgdoeknpakmlaaGreat.Den
namespace Go.Proofs.YtdgdoeknpakmlaaGreat.Den
open Go Go.RowKit
section
variable {P : Program} {w : World} {ρ ρ' : Map} {H H' : Heap}
def takeRR (H : Heap) (e : Kd) (v : SV) : Option (List (List e.T) × Heap) :=
  match v with
  | .own β => match H[β]? with
    | some (.cells cs _ z) => if z = 1 then takeL e cs (H.set β .dead) else none
    | _ => none
  | _ => none
def endR (rv : List (Nat × Option (Nat × Bool))) (e : Kd) (ex : Ex) (τ : Env) (H : Heap) : Option (List (List e.T)) :=
  match ex with
  | .exit _ => none
  | _ => match evalRes τ H rv with
    | some [v] => (takeRR H e v).map Prod.fst
    | _ => none
theorem zCm {e : Kd} {v : SV} {u : Value} {xs : List (List e.T)} (hne : e.noList = true) (hH : HRel ρ H w) (hu : ∀ β, H.length ≤ β → ρ β = .unborn) (hv : VRel ρ w v u) (he : takeRR H e v = some (xs, H')) :
    ∃ ρ' tk, Gave ρ H w ρ' H' tk ∧ OwnRR w e xs u tk := by
  unfold takeRR at he
  split at he
  · rename_i β
    split at he
    · rename_i cs t z hb
      split at he
      · rename_i hc
        subst hc
        have hlt : β < H.length := (List.getElem?_eq_some_iff.1 hb).1
        rcases own_rel hH hb (by simp) hv with ⟨hr, ad, rfl⟩ | ⟨b, o, n', sz, c, hr, hc, rfl, hroom⟩
        · have := zbM hH hb hr; subst this
          simp only [takeL, Option.some.injEq, Prod.mk.injEq] at he
          obtain ⟨rfl, rfl⟩ := he
          exact ⟨_, [], Gave.of_none hH hu hlt, .inl ⟨rfl, rfl, ad, rfl⟩⟩
        · obtain ⟨C, tC, hC, h1, h2, h3, h4, _⟩ := zB hH hb hr
          subst h1
          have g2 := Gave.of_take hH hu hlt hr
          obtain ⟨ρ3, tk3, g3, h5, h6⟩ := zl9 g2.h g2.u (h4.stepF g2.st) he
          obtain ⟨C2, t2, hC2, hroom⟩ := hroom
          rw [hC] at hC2
          simp only [Option.some.injEq, Obj.cells.injEq] at hC2
          obtain ⟨rfl, _⟩ := hC2
          have hxl : xs.length = n' := by omega
          subst hxl
          refine ⟨ρ3, b :: tk3, by simpa using g2.trans g3, .inr ⟨b, o, c, C, tC, (C.toList.drop o).take cs.length, tk3, rfl, rfl, hc, hC, hroom, ?_, fun i v hv => ?_, ?_⟩⟩
          · have := h4.length; omega
          · rw [List.getElem?_take] at hv
            split at hv
            · rw [List.getElem?_drop, Array.getElem?_toList] at hv; exact hv
            · simp at hv
          · rw [zdv]; exact h6.keep hne fun _ _ => rfl
      · simp at he
    · simp at he
  · simp at he
theorem zOe {T : Tab} {f : FuncId} {fn : Func} {c : Code} {tr : TR} {frz : List Nat} {ann : List Norm} {cuts : List (Nat × Norm)} {ci : C} {j : Nat} {rv : List (Nat × Option (Nat × Bool))} (hne : tr.e.noList = true) (hT : TabOK P T) (hmix : P.follows .mixedOrders = true)
    (hf : P.funcs[f]? = some fn) (hb : fn.body = some c) (hl : lightC P frz fn.ntmps ann cuts 0 c = some (ci, j)) (ho : okC T c ci = true) (hn : tr.ps.len ≤ fn.ntmps) (hrv : lightRes P fn.results.toList = some rv)
    (hrun : ∀ x y, tr.fn x = some y → ∃ fuel, run T 0 fuel ci (env0 (svS tr.ps x) 0) [] (endR rv tr.e) = some y) : FnSpecR P f tr := by
  intro w res vs x y hres hps hy
  refine calls_of_wp hf hb ?_
  let ρ0 : Map := ⟨fun _ => .unborn, res, fun _ => none⟩
  have hv : VRels ρ0 w (svS tr.ps x) vs := svS_rel (fun b hb => ⟨hb.1, fun h => hb.2 (res_new.1 h), fun _ _ _ _ h => by cases h⟩) hps
  have hvl := hv.length
  rw [svS_len] at hvl
  have hat : At P fn.ntmps ρ0 [] w (env0 (svS tr.ps x) 0) { tmps := vs.toArray ++ Array.replicate (fn.ntmps - vs.toArray.size) undef, defers := [] } := by
    refine ⟨⟨by simp; omega, rfl, fun n => ?_⟩, ?_, fun _ _ => rfl⟩
    · rw [zaF]
      simp only [Nat.zero_le, if_true, Nat.sub_zero]
      split
      · rename_i s hs
        obtain ⟨u, h1, h2⟩ := hv.get n s hs
        have : (vs.toArray ++ Array.replicate (fn.ntmps - vs.toArray.size) undef).getD n undef = u := by
          rw [Array.getD_eq_getD_getElem?, Array.getElem?_append_left (by have := (List.getElem?_eq_some_iff.1 h1).1; simpa using this)]
          simp [h1]
        rw [this]; exact h2
      · simp [VRel]
    · exact ⟨fun β h => by simp at h, fun β h => by simp at h, fun β h => by simp at h, fun _ _ _ _ _ _ _ _ _ h => by (cases h), fun _ _ _ _ _ h => by (cases h), fun b hb => hres b (res_new.1 hb), fun _ _ _ _ _ h => by (cases h)⟩
  obtain ⟨fuel, hrun'⟩ := hrun x y hy
  refine zaD hT hmix c hl ho hat hrun' fun ex τ' H' ρ' a' w' h1 h2 h3 => ?_
  have hend : ∃ v H2, evalRes τ' H' rv = some [v] ∧ takeRR H' tr.e v = some (y, H2) ∧ (ex = .normal ∨ ex = .ret) := by
    unfold endR at h3
    split at h3
    · simp at h3
    · rename_i hex
      have hex' : ex = .normal ∨ ex = .ret := by
        cases ex with
        | normal => exact .inl rfl
        | ret => exact .inr rfl
        | exit id => exact absurd rfl (hex id)
      split at h3
      · rename_i v h4
        obtain ⟨⟨y2, H2⟩, h5, rfl⟩ := Option.map_eq_some_iff.1 h3
        exact ⟨v, H2, h4, h5, hex'⟩
      · simp at h3
  obtain ⟨v, H2, h4, h5, hex⟩ := hend
  obtain ⟨us, h8, h9⟩ := zaE h1.t h1.h hrv h4
  obtain ⟨u, h10, h11⟩ := h9.single'
  have hus : us = #[u] := Array.toList_inj.1 (by simpa using h10)
  subst hus
  obtain ⟨ρ2, tk, g, h12⟩ := zCm hne h1.h h1.u h11 h5
  have hpost : a'.defers = [] ∧ ∃ v', (results fn a'.tmps).run P w' = .ok v' w' ∧ (fun e w' => ∃ u tk, e = Ending.returned u ∧ w'.os = w.os ∧ w'.tape = w.tape ∧ w'.output = w.output ∧ w.heap.size ≤ w'.heap.size ∧ (∀ b, b < w.heap.size → w'.heap[b]? = w.heap[b]?) ∧
      tk.Nodup ∧ (∀ b ∈ tk, w.heap.size ≤ b ∧ b < w'.heap.size) ∧ OwnRR w' tr.e y u tk) (Ending.returned v') w' := by
    refine ⟨h1.t.2.1, resU #[u], h8, resU #[u], tk, rfl, h2.os, h2.tape, h2.output, h2.size, fun b hb => h2.kept b hb (fun _ _ _ _ h => by (cases h)) rfl, g.nd, fun b hb => ?_, by simpa [resU] using h12⟩
    obtain ⟨_, β, o, n, sz, hg⟩ := g.tks b hb
    refine ⟨?_, h1.h.lt _ _ _ _ _ hg⟩
    rcases h2.img β b o n sz hg with ⟨_, _, _, _, h⟩ | h
    · cases h
    · exact h
  rcases hex with rfl | rfl
  · exact hpost
  · exact hpost
def endM (rv : List (Nat × Option (Nat × Bool))) (e : Kd) (n : Nat) (ex : Ex) (τ : Env) (H : Heap) : Option (List (List e.T) × Int) :=
  match ex with
  | .exit _ => none
  | _ => match evalRes τ H rv with
    | some [.int .i64 m] => if H.length = n + 1 then (takeRR H e (.own 0)).map fun p => (p.1, m) else none
    | _ => none
theorem zOf {T : Tab} {f : FuncId} {fn : Func} {c : Code} {tm : TM} {frz : List Nat} {ann : List Norm} {cuts : List (Nat × Norm)} {ci : C} {j : Nat} {rv : List (Nat × Option (Nat × Bool))} (hne : tm.e.noList = true) (hT : TabOK P T) (hmix : P.follows .mixedOrders = true)
    (hf : P.funcs[f]? = some fn) (hb : fn.body = some c) (hl : lightC P frz fn.ntmps ann cuts 0 c = some (ci, j)) (ho : okC T c ci = true) (hn : 2 ≤ fn.ntmps) (hrv : lightRes P fn.results.toList = some rv)
    (hrun0 : ∀ k y, tm.fn ([], k) = some y → y.1 = [] ∧ ∃ fuel, run T 0 fuel ci (env0 [.es (.list tm.e) [], .int .i64 k] 0) [] (fun ex τ H => match ex with
      | .exit _ => none
      | _ => evalRes τ H rv) = some [.int .i64 y.2])
    (hrun : ∀ xss k y, xss ≠ [] → tm.fn (xss, k) = some y → ∃ fuel, run T (xss.length + 1) fuel ci (env0 [.own 0, .int .i64 k] 0) (ownRow 0 xss.length :: innerB tm.e xss) (endM rv tm.e xss.length) = some y) : FnSpecM P f tm := by
  intro w u tk xss k y hrr hnd htk hy
  refine calls_of_wp hf hb ?_
  have start : ∀ {ρ0 : Map} {H0 : Heap} {s : SV}, HRel ρ0 H0 w → (∀ β, H0.length ≤ β → ρ0 β = .unborn) → VRel ρ0 w s u → At P fn.ntmps ρ0 H0 w (env0 [s, .int .i64 k] 0) { tmps := #[u, .int .i64 k] ++ Array.replicate (fn.ntmps - 2) undef, defers := [] } := by
    intro ρ0 H0 s hH hu hv
    have hv2 : VRels ρ0 w [s, .int .i64 k] [u, .int .i64 k] := by
      simp only [VRels, VRel]
      exact ⟨u, _, rfl, hv, _, _, rfl, rfl, rfl⟩
    refine ⟨⟨by simp; omega, rfl, fun n => ?_⟩, hH, hu⟩
    rw [zaF]
    simp only [Nat.zero_le, if_true, Nat.sub_zero]
    split
    · rename_i s hs
      obtain ⟨u', h1, h2⟩ := hv2.get n s hs
      have : (#[u, .int .i64 k] ++ Array.replicate (fn.ntmps - 2) undef).getD n undef = u' := by
        rw [Array.getD_eq_getD_getElem?, Array.getElem?_append_left (by have := (List.getElem?_eq_some_iff.1 h1).1; simpa using this)]
        rw [← Array.getElem?_toList, h1]
        rfl
      rw [this]; exact h2
    · simp [VRel]
  by_cases hx : xss = []
  · subst hx
    obtain ⟨hy1, fuel, hr⟩ := hrun0 k y hy
    let ρ0 : Map := ⟨fun _ => .unborn, fun b => b < w.heap.size, fun _ => none⟩
    have hat := start (ρ0 := ρ0) (H0 := []) (s := .es (.list tm.e) []) ⟨fun β h => by simp at h, fun β h => by simp at h, fun β h => by simp at h, fun _ _ _ _ _ _ _ _ _ h => by (cases h), fun _ _ _ _ _ h => by (cases h), fun b hb => (res_new (f := fun _ => .unborn) (res := fun b => b < w.heap.size)).1 hb, fun _ _ _ _ _ h => by (cases h)⟩ (fun _ _ => rfl) (by
      rcases hrr with ⟨_, _, a, rfl⟩ | ⟨b, o, c, C, tC, us, t', rfl, rfl, _⟩
      · exact ⟨a, 0, rfl, Nat.le_refl _, fun h => absurd h (by simp)⟩
      · exact ⟨_, c, rfl, Nat.zero_le _, fun h => absurd h (by simp)⟩)
    refine zaD hT hmix c hl ho hat hr fun ex τ' H' ρ' a' w' h1 h2 h3 => ?_
    have hend : evalRes τ' H' rv = some [.int .i64 y.2] ∧ (ex = .normal ∨ ex = .ret) := by
      cases ex with
      | normal => exact ⟨h3, .inl rfl⟩
      | ret => exact ⟨h3, .inr rfl⟩
      | exit id => simp at h3
    obtain ⟨h4, hex⟩ := hend
    obtain ⟨us, h8, h9⟩ := zaE h1.t h1.h hrv h4
    obtain ⟨u', h10, h11⟩ := h9.single'
    have hus : us = #[u'] := Array.toList_inj.1 (by simpa using h10)
    subst hus
    simp only [VRel] at h11
    subst h11
    have hk : ∀ b, b < w.heap.size → w'.heap[b]? = w.heap[b]? := fun b hb => h2.kept b hb (fun _ _ _ _ h => by (cases h)) rfl
    have hpost : a'.defers = [] ∧ ∃ v', (results fn a'.tmps).run P w' = .ok v' w' ∧ (fun e w' => e = Ending.returned (.int .i64 y.2) ∧ w'.os = w.os ∧ w'.tape = w.tape ∧ w'.output = w.output ∧ w.heap.size ≤ w'.heap.size ∧ (∀ b, b < w.heap.size → b ∉ tk → w'.heap[b]? = w.heap[b]?) ∧
      (∀ (b : Nat) C t fr, w.heap[b]? = some (.cells C t fr) → ∃ C', w'.heap[b]? = some (.cells C' t fr) ∧ C'.size = C.size) ∧
      ∃ tk2, OwnRR w' tm.e y.1 u tk2 ∧ tk2.Nodup ∧ ∀ b ∈ tk2, b ∈ tk) (Ending.returned v') w' := by
      refine ⟨h1.t.2.1, resU #[.int .i64 y.2], h8, by simp [resU], h2.os, h2.tape, h2.output, h2.size, fun b hb _ => hk b hb, h2.shape, tk, ?_, hnd, fun _ h => h⟩
      rw [hy1]
      rcases hrr with h | ⟨b, o, c, C, tC, us, t', rfl, rfl, g1, g2, g3, g4, g5, g6⟩
      · exact .inl h
      · exact .inr ⟨b, o, c, C, tC, us, t', rfl, rfl, g1, by rw [hk b (htk b (by simp))]; exact g2, g3, g4, g5, g6.keep hne fun b' hb' => hk b' (htk b' (by simp [hb']))⟩
    rcases hex with rfl | rfl
    · exact hpost
    · exact hpost
  · obtain ⟨fuel, hr⟩ := hrun xss k y hx hy
    have hrr0 := hrr
    rcases hrr with ⟨_, h, _⟩ | hrr
    · exact absurd h hx
    obtain ⟨ms, hE, hvr⟩ := hrr.entP 0
    rw [zdv] at hE
    let ρ0 : Map := ⟨fun β => match ms[β]? with
      | some m => m
      | none => .unborn, fun b => b < w.heap.size ∧ b ∉ tk, fun _ => none⟩
    have hml := hE.len
    have hag : Agree ρ0 0 ms := fun i m hm => by
      show (match ms[0 + i]? with | some m => m | none => .unborn) = m
      rw [Nat.zero_add, hm]
    have hget : ∀ {β m}, ρ0 β = m → m ≠ .unborn → ms[β]? = some m := by
      intro β m h1 h2
      have h1 : (match ms[β]? with | some m => m | none => .unborn) = m := h1
      split at h1
      · rename_i m' h3; rw [h3, h1]
      · exact absurd h1.symm h2
    have hfree : ∀ b, False → Free ρ0 w b := fun b h => h.elim
    have hok := hE.ok ρ0 hag hfree
    have hlen : (ownRow 0 xss.length :: innerB tm.e xss).length = xss.length + 1 := by simp [zN0]
    have hH : HRel ρ0 (ownRow 0 xss.length :: innerB tm.e xss) w := by
      refine ⟨fun β hl hd => ?_, fun β hl hd => ?_, fun β hl b o n sz hd => ?_, fun β γ b o n sz o' n' sz' h1 h2 => ?_, fun β b o n sz h1 => ?_, fun b hb => (res_new.1 hb).1, fun β b o n sz h1 h2 => ?_⟩
      · have h1 := hget hd (by simp)
        rcases hok β _ _ (List.getElem?_eq_getElem hl) h1 with ⟨h2, _⟩ | ⟨_, _, _, _, h2, _⟩ <;> cases h2
      · have h1 := hget hd (by simp)
        rcases hok β _ _ (List.getElem?_eq_getElem hl) h1 with ⟨_, e, h2⟩ | ⟨_, _, _, _, h2, _⟩
        · exact .inl ⟨e, 0, by rw [List.getElem?_eq_getElem hl, h2]⟩
        · cases h2
      · have h1 := hget hd (by simp)
        rcases hok β _ _ (List.getElem?_eq_getElem hl) h1 with ⟨h2, _⟩ | ⟨_, _, _, _, h2, h3⟩
        · cases h2
        · cases h2; exact ⟨_, List.getElem?_eq_getElem hl, h3⟩
      · exact hE.inj hnd _ _ _ _ _ _ _ _ _ (hget h1 (by simp)) (hget h2 (by simp))
      · exact htk b (hE.mem _ _ _ _ _ (hget h1 (by simp)))
      · exact (res_new.1 h2).2 (hE.mem _ _ _ _ _ (hget h1 (by simp)))
    have hun : ∀ β, (ownRow 0 xss.length :: innerB tm.e xss).length ≤ β → ρ0 β = .unborn := by
      intro β hβ
      show (match ms[β]? with | some m => m | none => .unborn) = _
      rw [List.getElem?_eq_none (by rw [hml]; exact hβ)]
    have hv0 : VRel ρ0 w (.own 0) u := hvr ρ0 hag
    have hat := start hH hun hv0
    refine zaD hT hmix c hl ho hat hr fun ex τ' H' ρ' a' w' h1 h2 h3 => ?_
    have hend : ∃ H2, evalRes τ' H' rv = some [.int .i64 y.2] ∧ H'.length = xss.length + 1 ∧ takeRR H' tm.e (.own 0) = some (y.1, H2) ∧ (ex = .normal ∨ ex = .ret) := by
      unfold endM at h3
      split at h3
      · simp at h3
      · rename_i hex
        have hex' : ex = .normal ∨ ex = .ret := by
          cases ex with
          | normal => exact .inl rfl
          | ret => exact .inr rfl
          | exit id => exact absurd rfl (hex id)
        split at h3
        · rename_i m h4
          split at h3
          · rename_i hl2
            obtain ⟨⟨y2, H2⟩, h5, rfl⟩ := Option.map_eq_some_iff.1 h3
            exact ⟨H2, h4, hl2, h5, hex'⟩
          · simp at h3
        · simp at h3
    obtain ⟨H2, h4, hl2, h5, hex⟩ := hend
    obtain ⟨us, h8, h9⟩ := zaE h1.t h1.h hrv h4
    obtain ⟨u', h10, h11⟩ := h9.single'
    have hus : us = #[u'] := Array.toList_inj.1 (by simpa using h10)
    subst hus
    simp only [VRel] at h11
    subst h11
    have hv1 : VRel ρ' w' (.own 0) u := by
      have hb0 : ∃ x, H'[0]? = some x ∧ x ≠ .dead := by
        unfold takeRR at h5
        simp only at h5
        split at h5
        · rename_i cs t z hb; exact ⟨_, hb, by simp⟩
        · simp at h5
      obtain ⟨x, hx0, hxd⟩ := hb0
      have hnd0 := live_of h1.h hx0 hxd
      have hu0 : ρ0 0 ≠ .unborn := fun h => by simp only [VRel, h] at hv0
      have e : ρ' 0 = ρ0 0 := by
        rcases h2.ref 0 (by omega) hu0 with e | e
        · exact e
        · exact absurd e hnd0
      simp only [VRel] at hv0 ⊢
      rw [e]
      rcases hr0 : ρ0 0 with _ | _ | _ | ⟨b, o, n, sz⟩ <;> rw [hr0] at hv0 <;> simp only at hv0 ⊢
      · exact hv0
      · exact hv0
      · obtain ⟨c, g1, g2, C, t, g3, g4⟩ := hv0
        obtain ⟨C', g5, g6⟩ := h2.shape _ _ _ _ g3
        exact ⟨c, g1, g2, C', t, g5, by omega⟩
    obtain ⟨ρ2, tk2, g, h12⟩ := zCm hne h1.h h1.u hv1 h5
    have hpost : a'.defers = [] ∧ ∃ v', (results fn a'.tmps).run P w' = .ok v' w' ∧ (fun e w' => e = Ending.returned (.int .i64 y.2) ∧ w'.os = w.os ∧ w'.tape = w.tape ∧ w'.output = w.output ∧ w.heap.size ≤ w'.heap.size ∧ (∀ b, b < w.heap.size → b ∉ tk → w'.heap[b]? = w.heap[b]?) ∧
      (∀ (b : Nat) C t fr, w.heap[b]? = some (.cells C t fr) → ∃ C', w'.heap[b]? = some (.cells C' t fr) ∧ C'.size = C.size) ∧
      ∃ tk2, OwnRR w' tm.e y.1 u tk2 ∧ tk2.Nodup ∧ ∀ b ∈ tk2, b ∈ tk) (Ending.returned v') w' := by
      refine ⟨h1.t.2.1, resU #[.int .i64 y.2], h8, by simp [resU], h2.os, h2.tape, h2.output, h2.size, fun b hb hbt => ?_, h2.shape, tk2, h12, g.nd, fun b hb => ?_⟩
      · exact h2.kept b hb (fun β o n sz h => hbt (hE.mem _ _ _ _ _ (hget h (by simp)))) rfl
      · obtain ⟨_, β, o, n, sz, hg⟩ := g.tks b hb
        have hβl : β < xss.length + 1 := by
          rcases Nat.lt_or_ge β (xss.length + 1) with h | h
          · exact h
          · have := h1.u β (by rw [hl2]; exact h)
            rw [this] at hg; cases hg
        have hmβ : ms[β]? = some ms[β] := List.getElem?_eq_getElem (by rw [hml, hlen]; exact hβl)
        have hnu : ρ0 β ≠ .unborn := by
          rw [show ρ0 β = ms[β] by have := hag β _ hmβ; simpa using this]
          rcases hok β _ _ (List.getElem?_eq_getElem (by rw [hlen]; exact hβl)) hmβ with ⟨h, _⟩ | ⟨_, _, _, _, h, _⟩ <;> rw [h] <;> simp
        rcases h2.ref β hβl hnu with e | e
        · rw [e] at hg; exact hE.mem _ _ _ _ _ (hget hg (by simp))
        · rw [e] at hg; cases hg
    rcases hex with rfl | rfl
    · exact hpost
    · exact hpost
end
end Go.Proofs.YtdgdoeknpakmlaaGreat.Den
