/- Contracts of any shape: the callee's side. -/
import Derived.Test.YtjnkefbdpcbkmaaD28
namespace Go.Proofs.Ytjnkefbdpcbkmaa.Den
open Go Go.RowKit
set_option linter.unusedVariables false
set_option linter.unusedSimpArgs false

def takeL (e : Kd) : List SV → Heap → Option (List (List e.T) × Heap)
  | [], H => some ([], H)
  | v :: vs, H => match v with
    | .own γ => match H[γ]? with
      | some (.arr e' xs _) => if h : e' = e then (match takeL e vs (H.set γ .dead) with
        | some (l, H2) => some ((h ▸ xs) :: l, H2)
        | none => none) else none
      | _ => none
    | _ => none

def takeR (H : Heap) (n : Nat) (e : Kd) (v : SV) : Option (List (List e.T) × Heap) :=
  match v with
  | .own β => match H[β]? with
    | some (.cells cs _ z) => if z = 1 ∧ cs.length = n ∧ n ≠ 0 then takeL e cs (H.set β .dead) else none
    | _ => none
  | _ => none

def takeS : (s : Sh) → List SV → Heap → Option (List SV × Heap)
  | .nil, [], H => some ([], H)
  | .cell (.list e) 1 r, v :: vs, H => match fixV H e true v with
    | some (.own β, H1) => match H1[β]? with
      | some (.arr e' xs t) => match takeS r vs (H1.set β .dead) with
        | some (l, H2) => some (.es e' xs :: l, H2)
        | none => none
      | _ => none
    | _ => none
  | .cell (.list (.list e)) (n + 2) r, v :: vs, H => match takeR H n e v with
    | some (xs, H1) => match takeS r vs H1 with
      | some (l, H2) => some (.es (.list e) xs :: l, H2)
      | none => none
    | none => none
  | .cell _ _ r, v :: vs, H => match takeS r vs H with
    | some (l, H2) => some (v :: l, H2)
    | none => none
  | .agg i r, v :: vs, H => match v with
    | .agg cs => match takeS i cs H with
      | some (l, H1) => match takeS r vs H1 with
        | some (ls, H2) => some (.agg l :: ls, H2)
        | none => none
      | none => none
    | _ => none
  | .ifc t i r, v :: vs, H => match v with
    | .iface t' c => if t' = t then (match takeS i [c] H with
      | some (l, H1) => match takeS r vs H1 with
        | some (ls, H2) => some (.iface t (l.headD .junk) :: ls, H2)
        | none => none
      | none => none) else none
    | _ => none
  | .fnc g r, v :: vs, H => match takeS r vs H with
    | some (l, H2) => some (v :: l, H2)
    | none => none
  | _, _, _ => none

def outS (s : Sh) (ss : List SV) (H : Heap) : Option s.T :=
  match takeS s ss H with
  | some (ls, H2) => viewS H2 s ls
  | none => none

def endG (rv : List (Nat × Option (Nat × Bool))) (rs : Sh) (ex : Ex) (τ : Env) (H : Heap) : Option rs.T :=
  match ex with
  | .exit _ => none
  | _ => match evalRes τ H rv with
    | some ss => outS rs ss H
    | none => none

def Sh.len : Sh → Nat
  | .nil => 0
  | .cell _ _ r | .agg _ r | .ifc _ _ r | .fnc _ r => r.len + 1

def TkS (ρ : Map) (w : World) : Sh → List SV → List Value → List Nat → Prop
  | .nil, l, us, tk => l = [] ∧ us = [] ∧ tk = []
  | .cell (.list e) 1 r, l, us, tk => ∃ e' xs l' u us' t1 t2, l = .es e' xs :: l' ∧ us = u :: us' ∧ tk = t1 ++ t2 ∧ OwnAt w (Free ρ w) e' xs u t1 ∧ TkS ρ w r l' us' t2
  | .cell (.list (.list e)) (n + 2) r, l, us, tk => ∃ xs l' u us' t1 t2, l = .es (.list e) xs :: l' ∧ us = u :: us' ∧ tk = t1 ++ t2 ∧ OwnRows w (Free ρ w) e n xs u t1 ∧ TkS ρ w r l' us' t2
  | .cell _ _ r, l, us, tk => ∃ s l' u us', l = s :: l' ∧ us = u :: us' ∧ VRel ρ w s u ∧ TkS ρ w r l' us' tk
  | .agg i r, l, us, tk => ∃ (l1 l' : List SV) (a : Array Value) (us' : List Value) (t1 t2 : List Nat), l = .agg l1 :: l' ∧ us = .agg a :: us' ∧ tk = t1 ++ t2 ∧ TkS ρ w i l1 a.toList t1 ∧ TkS ρ w r l' us' t2
  | .ifc t i r, l, us, tk => ∃ (l1 l' : List SV) (u : Value) (us' : List Value) (t1 t2 : List Nat), l = .iface t (l1.headD .junk) :: l' ∧ us = .iface t u :: us' ∧ tk = t1 ++ t2 ∧ TkS ρ w i l1 [u] t1 ∧ TkS ρ w r l' us' t2
  | .fnc g r, l, us, tk => ∃ s l' u us', l = s :: l' ∧ us = u :: us' ∧ VRel ρ w s u ∧ TkS ρ w r l' us' tk

section
variable {P : Program} {w : World} {ρ ρ' : Map} {H H' : Heap}

theorem TkS.plain {K : Kd} {f : Nat} {r : Sh} (hp : plainC K f = true) {l : List SV} {us : List Value} {tk : List Nat} :
    TkS ρ w (.cell K f r) l us tk ↔ ∃ s l' u us', l = s :: l' ∧ us = u :: us' ∧ VRel ρ w s u ∧ TkS ρ w r l' us' tk := by
  unfold plainC at hp
  split at hp
  · cases hp
  · cases hp
  · rename_i h1 h2
    rw [TkS]
    · exact h1
    · exact h2
theorem takeS_plain {K : Kd} {f : Nat} {r : Sh} (hp : plainC K f = true) {v : SV} {vs : List SV} {H : Heap} : takeS (.cell K f r) (v :: vs) H = (match takeS r vs H with
    | some (l, H2) => some (v :: l, H2)
    | none => none) := by
  unfold plainC at hp
  split at hp
  · cases hp
  · cases hp
  · rename_i h1 h2
    rw [takeS]
    · exact h1
    · exact h2

theorem TkS.step (h : StepF ρ w ρ' w) : ∀ {s : Sh} {l : List SV} {us : List Value} {tk : List Nat}, TkS ρ w s l us tk → TkS ρ' w s l us tk
  | .nil, _, _, _, hr => hr
  | .cell K f r, l, us, tk, hr => by
    rcases cellCases K f with hp | ⟨e, rfl, rfl⟩ | ⟨e, n, rfl, rfl⟩
    · rw [TkS.plain hp] at hr ⊢
      obtain ⟨s, l', u, us', h1, h2, h3, h4⟩ := hr
      exact ⟨s, l', u, us', h1, h2, h3.stepF h, TkS.step h h4⟩
    · simp only [TkS] at hr ⊢
      obtain ⟨e', xs, l', u, us', t1, t2, h1, h2, h3, h4, h5⟩ := hr
      exact ⟨e', xs, l', u, us', t1, t2, h1, h2, h3, h4.mono h.free, TkS.step h h5⟩
    · simp only [TkS] at hr ⊢
      obtain ⟨xs, l', u, us', t1, t2, h1, h2, h3, h4, h5⟩ := hr
      exact ⟨xs, l', u, us', t1, t2, h1, h2, h3, h4.mono (.inl h.free), TkS.step h h5⟩
  | .agg i r, l, us, tk, hr => by
    simp only [TkS] at hr ⊢
    obtain ⟨l1, l', a, us', t1, t2, h1, h2, h3, h4, h5⟩ := hr
    exact ⟨l1, l', a, us', t1, t2, h1, h2, h3, TkS.step h h4, TkS.step h h5⟩
  | .ifc t i r, l, us, tk, hr => by
    simp only [TkS] at hr ⊢
    obtain ⟨l1, l', u, us', t1, t2, h1, h2, h3, h4, h5⟩ := hr
    exact ⟨l1, l', u, us', t1, t2, h1, h2, h3, TkS.step h h4, TkS.step h h5⟩
  | .fnc g r, l, us, tk, hr => by
    simp only [TkS] at hr ⊢
    obtain ⟨s, l', u, us', h1, h2, h3, h4⟩ := hr
    exact ⟨s, l', u, us', h1, h2, h3.stepF h, TkS.step h h4⟩

theorem takeL_sound {e : Kd} : ∀ {cs : List SV} {xs : List (List e.T)} {us : List Value} {ρ : Map} {H H' : Heap}, HRel ρ H w → (∀ β, H.length ≤ β → ρ β = .unborn) → VRels ρ w cs us → takeL e cs H = some (xs, H') →
    ∃ ρ' tk, Gave ρ H w ρ' H' tk ∧ xs.length = cs.length ∧ OwnL w (Free ρ' w) e xs us tk
  | [], xs, us, ρ, H, H', hH, hu, hv, he => by
    simp only [takeL, Option.some.injEq, Prod.mk.injEq] at he
    obtain ⟨rfl, rfl⟩ := he
    simp only [VRels] at hv; subst hv
    exact ⟨ρ, [], Gave.refl hH hu, rfl, rfl, rfl⟩
  | s :: ss, xs, us, ρ, H, H', hH, hu, hv, he => by
    simp only [takeL] at he
    simp only [VRels] at hv
    obtain ⟨u, us', rfl, hv1, hv2⟩ := hv
    split at he
    · rename_i γ
      split at he
      · rename_i e' ys t hb
        have hlt : γ < H.length := (List.getElem?_eq_some_iff.1 hb).1
        split at he
        · rename_i hee
          subst hee
          split at he
          · rename_i l2 H2 h2
            simp only [Option.some.injEq, Prod.mk.injEq] at he
            obtain ⟨rfl, rfl⟩ := he
            rcases own_rel hH hb (by simp) hv1 with ⟨hr, ad, rfl⟩ | ⟨b, o, n, sz, c, hr, hc, rfl, hroom⟩
            · have := none_arr hH hb hr; subst this
              have g2 := Gave.of_none hH hu hlt
              obtain ⟨ρ3, tk3, g3, h3, h4⟩ := takeL_sound g2.h g2.u (hv2.stepF g2.st) h2
              exact ⟨ρ3, tk3, by simpa using g2.trans g3, by simp [h3], _, us', [], tk3, rfl, rfl, .inl ⟨rfl, rfl, ad, rfl⟩, h4⟩
            · have g2 := Gave.of_take hH hu hlt hr
              obtain ⟨ρ3, tk3, g3, h3, h4⟩ := takeL_sound g2.h g2.u (hv2.stepF g2.st) h2
              obtain ⟨rfl, rfl, C, tC, hC, hle, hrow⟩ := row_raw hH hb hr
              obtain ⟨C2, t2, hC2, hroom⟩ := hroom
              rw [hC] at hC2
              simp only [Option.some.injEq, Obj.cells.injEq] at hC2
              obtain ⟨rfl, _⟩ := hC2
              refine ⟨ρ3, b :: tk3, by simpa using g2.trans g3, by simp [h3], _, us', [b], tk3, rfl, rfl, .inr ⟨b, o, c, C, tC, rfl, rfl, hc, hC, hroom, fun i x hx => ?_⟩, h4⟩
              obtain ⟨es, h5, h6⟩ := hrow i x hx
              exact ⟨es, CRel.mono (fun b hb => g3.st.free b (g2.st.free b hb)) (fun _ _ => rfl) h5, h6⟩
          · simp at he
        · simp at he
      · simp at he
    · simp at he

theorem rowsN_self {α : Type} {xs : List (List α)} : rowsN xs.length xs = xs := by
  unfold rowsN
  refine List.ext_getElem (by simp) fun i h1 h2 => ?_
  simp [List.getD_eq_getElem?_getD, List.getElem?_eq_getElem h2]

theorem takeR_sound {e : Kd} {n : Nat} {v : SV} {u : Value} {xs : List (List e.T)} (hH : HRel ρ H w) (hu : ∀ β, H.length ≤ β → ρ β = .unborn) (hv : VRel ρ w v u) (he : takeR H n e v = some (xs, H')) :
    ∃ ρ' tk, Gave ρ H w ρ' H' tk ∧ OwnRows w (Free ρ' w) e n xs u tk := by
  unfold takeR at he
  split at he
  · rename_i β
    split at he
    · rename_i cs t z hb
      split at he
      · rename_i hc
        obtain ⟨rfl, hn, hn0⟩ := hc
        have hlt : β < H.length := (List.getElem?_eq_some_iff.1 hb).1
        rcases own_rel hH hb (by simp) hv with ⟨hr, ad, rfl⟩ | ⟨b, o, n', sz, c, hr, hc, rfl, hroom⟩
        · have := none_cells hH hb hr; subst this
          exact absurd hn.symm (by simpa using hn0)
        · obtain ⟨C, tC, hC, h1, h2, h3, h4, _⟩ := cells_of hH hb hr
          subst h1
          have g2 := Gave.of_take hH hu hlt hr
          obtain ⟨ρ3, tk3, g3, h5, h6⟩ := takeL_sound g2.h g2.u (h4.stepF g2.st) he
          obtain ⟨C2, t2, hC2, hroom⟩ := hroom
          rw [hC] at hC2
          simp only [Option.some.injEq, Obj.cells.injEq] at hC2
          obtain ⟨rfl, _⟩ := hC2
          have hnn : n' = n := by omega
          subst hnn
          have hxl : xs.length = n' := by omega
          refine ⟨ρ3, b :: tk3, by simpa using g2.trans g3, b, o, c, C, tC, (C.toList.drop o).take cs.length, tk3, rfl, rfl, hc, hC, hroom, ?_, fun i v hv => ?_, ?_⟩
          · have := h4.length; omega
          · rw [List.getElem?_take] at hv
            split at hv
            · rw [List.getElem?_drop, Array.getElem?_toList] at hv; exact hv
            · simp at hv
          · rw [← hxl, rowsN_self]; exact h6
      · simp at he
    · simp at he
  · simp at he

theorem takeS_sound : ∀ {s : Sh} {ss l : List SV} {us : List Value} {ρ : Map} {H H' : Heap}, HRel ρ H w → (∀ β, H.length ≤ β → ρ β = .unborn) → VRels ρ w ss us → takeS s ss H = some (l, H') →
    ∃ ρ' tk, Gave ρ H w ρ' H' tk ∧ TkS ρ' w s l us tk
  | .nil, [], l, us, ρ, H, H', hH, hu, hv, he => by
    simp only [takeS, Option.some.injEq, Prod.mk.injEq] at he
    obtain ⟨rfl, rfl⟩ := he
    simp only [VRels] at hv; subst hv
    exact ⟨ρ, [], Gave.refl hH hu, rfl, rfl, rfl⟩
  | .nil, _ :: _, l, us, ρ, H, H', hH, hu, hv, he => by simp [takeS] at he
  | .cell K f r, [], l, us, ρ, H, H', hH, hu, hv, he | .agg i r, [], l, us, ρ, H, H', hH, hu, hv, he | .ifc t i r, [], l, us, ρ, H, H', hH, hu, hv, he | .fnc g r, [], l, us, ρ, H, H', hH, hu, hv, he => by
    simp [takeS] at he
  | .cell K f r, s :: ss, l, us, ρ, H, H', hH, hu, hv, he => by
    simp only [VRels] at hv
    obtain ⟨u, us', rfl, hv1, hv2⟩ := hv
    rcases cellCases K f with hp | ⟨e, rfl, rfl⟩ | ⟨e, n, rfl, rfl⟩
    · rw [takeS_plain hp] at he
      split at he
      · rename_i l2 H2 h2
        simp only [Option.some.injEq, Prod.mk.injEq] at he
        obtain ⟨rfl, rfl⟩ := he
        obtain ⟨ρ3, tk3, g3, h3⟩ := takeS_sound hH hu hv2 h2
        refine ⟨ρ3, tk3, g3, ?_⟩
        rw [TkS.plain hp]
        exact ⟨s, l2, u, us', rfl, rfl, hv1.stepF g3.st, h3⟩
      · simp at he
    · simp only [takeS] at he
      split at he
      · rename_i β H1 hf
        obtain ⟨ρ1, hg⟩ := fixV_sound hH hv1 (hu _ (Nat.le_refl _)) hf
        have g1 := Gave.of_good hg hH hu
        split at he
        · rename_i e' xs t hb
          have hlt : β < H1.length := (List.getElem?_eq_some_iff.1 hb).1
          split at he
          · rename_i l2 H2 h2
            simp only [Option.some.injEq, Prod.mk.injEq] at he
            obtain ⟨rfl, rfl⟩ := he
            rcases own_rel hg.hrel hb (by simp) hg.vrel with ⟨hr, ad, rfl⟩ | ⟨b, o, n, sz, c, hr, hc, rfl, hroom⟩
            · have := none_arr hg.hrel hb hr; subst this
              have g2 := Gave.of_none g1.h g1.u hlt
              obtain ⟨ρ3, tk3, g3, h3⟩ := takeS_sound g2.h g2.u ((hv2.stepF g1.st).stepF g2.st) h2
              refine ⟨ρ3, tk3, by simpa using (g1.trans g2).trans g3, ?_⟩
              simp only [TkS]
              exact ⟨e', [], l2, _, us', [], tk3, rfl, rfl, rfl, .inl ⟨rfl, rfl, ad, rfl⟩, h3⟩
            · have g2 := Gave.of_take g1.h g1.u hlt hr
              obtain ⟨ρ3, tk3, g3, h3⟩ := takeS_sound g2.h g2.u ((hv2.stepF g1.st).stepF g2.st) h2
              refine ⟨ρ3, b :: tk3, by simpa using (g1.trans g2).trans g3, ?_⟩
              obtain ⟨rfl, rfl, C, tC, hC, hle, hrow⟩ := row_raw hg.hrel hb hr
              obtain ⟨C2, t2, hC2, hroom⟩ := hroom
              rw [hC] at hC2
              simp only [Option.some.injEq, Obj.cells.injEq] at hC2
              obtain ⟨rfl, _⟩ := hC2
              simp only [TkS]
              refine ⟨e', xs, l2, _, us', [b], tk3, rfl, rfl, rfl, .inr ⟨b, o, c, C, tC, rfl, rfl, hc, hC, hroom, fun i x hx => ?_⟩, h3⟩
              obtain ⟨es, h4, h5⟩ := hrow i x hx
              exact ⟨es, CRel.mono (fun b hb => g3.st.free b (g2.st.free b hb)) (fun _ _ => rfl) h4, h5⟩
          · simp at he
        · simp at he
      · simp at he
    · simp only [takeS] at he
      split at he
      · rename_i xs H1 h1
        split at he
        · rename_i l2 H2 h2
          simp only [Option.some.injEq, Prod.mk.injEq] at he
          obtain ⟨rfl, rfl⟩ := he
          obtain ⟨ρ1, t1, g1, h3⟩ := takeR_sound hH hu hv1 h1
          obtain ⟨ρ2, t2, g2, h4⟩ := takeS_sound g1.h g1.u (hv2.stepF g1.st) h2
          refine ⟨ρ2, t1 ++ t2, g1.trans g2, ?_⟩
          simp only [TkS]
          exact ⟨xs, l2, u, us', t1, t2, rfl, rfl, rfl, h3.mono (.inl g2.st.free), h4⟩
        · simp at he
      · simp at he
  | .agg i r, s :: ss, l, us, ρ, H, H', hH, hu, hv, he => by
    simp only [takeS] at he
    simp only [VRels] at hv
    obtain ⟨u, us', rfl, hv1, hv2⟩ := hv
    split at he
    · rename_i cs
      simp only [VRel] at hv1
      obtain ⟨a, rfl, hv1⟩ := hv1
      split at he
      · rename_i l1 H1 h1
        split at he
        · rename_i l2 H2 h2
          simp only [Option.some.injEq, Prod.mk.injEq] at he
          obtain ⟨rfl, rfl⟩ := he
          obtain ⟨ρ1, t1, g1, h3⟩ := takeS_sound hH hu hv1 h1
          obtain ⟨ρ2, t2, g2, h4⟩ := takeS_sound g1.h g1.u (hv2.stepF g1.st) h2
          exact ⟨ρ2, t1 ++ t2, g1.trans g2, l1, l2, a, us', t1, t2, rfl, rfl, rfl, h3.step g2.st, h4⟩
        · simp at he
      · simp at he
    · simp at he
  | .ifc t i r, s :: ss, l, us, ρ, H, H', hH, hu, hv, he => by
    simp only [takeS] at he
    simp only [VRels] at hv
    obtain ⟨u, us', rfl, hv1, hv2⟩ := hv
    split at he
    · rename_i t' c
      split at he
      · rename_i ht
        subst ht
        simp only [VRel] at hv1
        obtain ⟨a, rfl, hv1⟩ := hv1
        split at he
        · rename_i l1 H1 h1
          split at he
          · rename_i l2 H2 h2
            simp only [Option.some.injEq, Prod.mk.injEq] at he
            obtain ⟨rfl, rfl⟩ := he
            obtain ⟨ρ1, t1, g1, h3⟩ := takeS_sound hH hu (VRels.single hv1) h1
            obtain ⟨ρ2, t2, g2, h4⟩ := takeS_sound g1.h g1.u (hv2.stepF g1.st) h2
            exact ⟨ρ2, t1 ++ t2, g1.trans g2, l1, l2, a, us', t1, t2, rfl, rfl, rfl, h3.step g2.st, h4⟩
          · simp at he
        · simp at he
      · simp at he
    · simp at he
  | .fnc g r, s :: ss, l, us, ρ, H, H', hH, hu, hv, he => by
    simp only [takeS] at he
    simp only [VRels] at hv
    obtain ⟨u, us', rfl, hv1, hv2⟩ := hv
    split at he
    · rename_i l2 H2 h2
      simp only [Option.some.injEq, Prod.mk.injEq] at he
      obtain ⟨rfl, rfl⟩ := he
      obtain ⟨ρ3, tk3, g3, h3⟩ := takeS_sound hH hu hv2 h2
      exact ⟨ρ3, tk3, g3, s, l2, u, us', rfl, rfl, hv1.stepF g3.st, h3⟩
    · simp at he

theorem TkS.len : ∀ {s : Sh} {l : List SV} {us : List Value} {tk : List Nat}, TkS ρ w s l us tk → l.length = us.length
  | .nil, l, us, tk, h => by simp only [TkS] at h; rw [h.1, h.2.1]; rfl
  | .cell K f r, l, us, tk, h => by
    rcases cellCases K f with hp | ⟨e, rfl, rfl⟩ | ⟨e, n, rfl, rfl⟩
    · rw [TkS.plain hp] at h
      obtain ⟨s, l', u, us', rfl, rfl, _, h4⟩ := h
      simp [h4.len]
    · simp only [TkS] at h
      obtain ⟨e', xs, l', u, us', t1, t2, rfl, rfl, _, _, h5⟩ := h
      simp [h5.len]
    · simp only [TkS] at h
      obtain ⟨xs, l', u, us', t1, t2, rfl, rfl, _, _, h5⟩ := h
      simp [h5.len]
  | .agg i r, l, us, tk, h => by
    simp only [TkS] at h
    obtain ⟨l1, l', a, us', t1, t2, rfl, rfl, _, _, h5⟩ := h
    simp [h5.len]
  | .ifc t i r, l, us, tk, h => by
    simp only [TkS] at h
    obtain ⟨l1, l', a, us', t1, t2, rfl, rfl, _, _, h5⟩ := h
    simp [h5.len]
  | .fnc g r, l, us, tk, h => by
    simp only [TkS] at h
    obtain ⟨s, l', u, us', rfl, rfl, _, h4⟩ := h
    simp [h4.len]

theorem viewS_out {B : Nat → Prop} (hB : ∀ b, Free ρ w b → B b) (hd : ∀ {K : Kd} {s : SV} {x : K.T} {u : Value}, decH true H K [s] = some x → VRel ρ w s u → CRel w B K x [u]) :
    ∀ {s : Sh} {l : List SV} {x : s.T} {us : List Value} {tk : List Nat}, viewS H s l = some x → TkS ρ w s l us tk → ShOut w B s x us tk
  | .nil, l, x, us, tk, h, ht => by
    simp only [TkS] at ht
    exact ⟨ht.2.1, ht.2.2⟩
  | .cell K f r, l, x, us, tk, h, ht => by
    rcases cellCases K f with hp | ⟨e, rfl, rfl⟩ | ⟨e, n, rfl, rfl⟩
    · rw [TkS.plain hp] at ht
      obtain ⟨s, l', u, us', rfl, rfl, h4, h5⟩ := ht
      simp only [viewS] at h
      split at h
      · rename_i y z h1 h2
        simp only [Option.some.injEq] at h; subst h
        rw [ShOut.plain hp]
        exact ⟨u, us', rfl, hd h1 h4, viewS_out hB hd h2 h5⟩
      · simp at h
    · simp only [TkS] at ht
      obtain ⟨e', xs, l', u, us', t1, t2, rfl, rfl, rfl, h4, h5⟩ := ht
      simp only [viewS] at h
      split at h
      · rename_i y z h1 h2
        simp only [Option.some.injEq] at h; subst h
        unfold decH at h1
        simp only at h1
        split at h1
        · rename_i he
          subst he
          simp only [Option.some.injEq] at h1; subst h1
          simp only [ShOut]
          exact ⟨u, us', t1, t2, rfl, rfl, h4.mono hB, viewS_out hB hd h2 h5⟩
        · simp at h1
      · simp at h
    · simp only [TkS] at ht
      obtain ⟨xs, l', u, us', t1, t2, rfl, rfl, rfl, h4, h5⟩ := ht
      simp only [viewS] at h
      split at h
      · rename_i y z h1 h2
        simp only [Option.some.injEq] at h; subst h
        unfold decH at h1
        simp only [dite_true, Option.some.injEq] at h1
        subst h1
        simp only [ShOut]
        exact ⟨u, us', t1, t2, rfl, rfl, h4.mono (.inl hB), viewS_out hB hd h2 h5⟩
      · simp at h
  | .agg i r, l, x, us, tk, h, ht => by
    simp only [TkS] at ht
    obtain ⟨l1, l', a, us', t1, t2, rfl, rfl, rfl, h4, h5⟩ := ht
    simp only [viewS] at h
    split at h
    · rename_i y z h1 h2
      simp only [Option.some.injEq] at h; subst h
      exact ⟨a, us', t1, t2, rfl, rfl, viewS_out hB hd h1 h4, viewS_out hB hd h2 h5⟩
    · simp at h
  | .ifc t i r, l, x, us, tk, h, ht => by
    simp only [TkS] at ht
    obtain ⟨l1, l', a, us', t1, t2, rfl, rfl, rfl, h4, h5⟩ := ht
    simp only [viewS, if_true] at h
    split at h
    · rename_i y z h1 h2
      simp only [Option.some.injEq] at h; subst h
      have hl := h4.len
      match l1, hl, h4, h1 with
      | [s], _, h4, h1 => exact ⟨a, us', t1, t2, rfl, rfl, viewS_out hB hd h1 h4, viewS_out hB hd h2 h5⟩
    · simp at h
  | .fnc g r, l, x, us, tk, h, ht => by
    simp only [TkS] at ht
    obtain ⟨s, l', u, us', rfl, rfl, h4, h5⟩ := ht
    simp only [viewS] at h
    split at h
    · rename_i g'
      split at h
      · rename_i hg
        subst hg
        simp only [VRel] at h4
        obtain ⟨vf, vc, rfl, h6, h7⟩ := h4
        have e1 : vf = #[] := Array.toList_inj.1 (by simpa [VRels] using h6)
        have e2 : vc = #[] := Array.toList_inj.1 (by simpa [VRels] using h7)
        subst e1; subst e2
        exact ⟨us', rfl, viewS_out hB hd h h5⟩
      · simp at h
    · simp at h

theorem svS_len : ∀ {s : Sh} {x : s.T}, (svS s x).length = s.len
  | .nil, _ => rfl
  | .cell K f r, x => by simp [svS, Sh.len, svS_len (s := r)]
  | .agg i r, x => by simp [svS, Sh.len, svS_len (s := r)]
  | .ifc t i r, x => by simp [svS, Sh.len, svS_len (s := r)]
  | .fnc g r, x => by simp [svS, Sh.len, svS_len (s := r)]

theorem fn_specG {T : Tab} {f : FuncId} {fn : Func} {c : Code} {tf : TG} {frz : List Nat} {ann : List Norm} {cuts : List (Nat × Norm)} {ci : C} {j fuel : Nat} {rv : List (Nat × Option (Nat × Bool))} (hT : TabOK P T) (hmix : P.follows .mixedOrders = true)
    (hf : P.funcs[f]? = some fn) (hb : fn.body = some c) (hl : lightC P frz fn.ntmps ann cuts 0 c = some (ci, j)) (ho : okC T c ci = true) (hn : tf.ps.len ≤ fn.ntmps) (hrv : lightRes P fn.results.toList = some rv)
    (hrun : ∀ x y, tf.fn x = some y → run T 0 fuel ci (env0 (svS tf.ps x) 0) [] (endG rv tf.rs) = some y) : FnSpecG P f tf := by
  intro w res vs x y hres hps hy
  refine calls_of_wp hf hb ?_
  let ρ0 : Map := ⟨fun _ => .unborn, res⟩
  have hv : VRels ρ0 w (svS tf.ps x) vs := svS_rel (fun b hb => ⟨hb.1, hb.2, fun _ _ _ _ h => by cases h⟩) hps
  have hvl := hv.length
  rw [svS_len] at hvl
  have hat : At P fn.ntmps ρ0 [] w (env0 (svS tf.ps x) 0) { tmps := vs.toArray ++ Array.replicate (fn.ntmps - vs.toArray.size) undef, defers := [] } := by
    refine ⟨⟨by simp; omega, rfl, fun n => ?_⟩, ?_, fun _ _ => rfl⟩
    · rw [env0_get]
      simp only [Nat.zero_le, if_true, Nat.sub_zero]
      split
      · rename_i s hs
        obtain ⟨u, h1, h2⟩ := hv.get n s hs
        have : (vs.toArray ++ Array.replicate (fn.ntmps - vs.toArray.size) undef).getD n undef = u := by
          rw [Array.getD_eq_getD_getElem?, Array.getElem?_append_left (by have := (List.getElem?_eq_some_iff.1 h1).1; simpa using this)]
          simp [h1]
        rw [this]; exact h2
      · simp [VRel]
    · exact ⟨fun β h => by simp at h, fun β h => by simp at h, fun β h => by simp at h, fun _ _ _ _ _ _ _ _ _ h => by (cases h), fun _ _ _ _ _ h => by (cases h), hres, fun _ _ _ _ _ h => by (cases h)⟩
  have hrun' := hrun x y hy
  refine code_sound hT hmix c hl ho hat hrun' fun ex τ' H' ρ' a' w' h1 h2 h3 => ?_
  have key : (evalRes τ' H' rv).bind (fun ss => outS tf.rs ss H') = some y → a'.defers = [] ∧ ∃ v, (results fn a'.tmps).run P w' = .ok v w' ∧ (fun e w' => ∃ us tk, e = Ending.returned (resU us) ∧ w'.os = w.os ∧ w'.tape = w.tape ∧ w'.output = w.output ∧ w.heap.size ≤ w'.heap.size ∧ (∀ b, b < w.heap.size → w'.heap[b]? = w.heap[b]?) ∧
      tk.Nodup ∧ (∀ b ∈ tk, w.heap.size ≤ b ∧ b < w'.heap.size) ∧ ShOut w' (fun b => b < w'.heap.size ∧ ¬ res b ∧ b ∉ tk) tf.rs y us.toList tk) (Ending.returned v) w' := by
    intro h4
    rw [Option.bind_eq_some_iff] at h4
    obtain ⟨ss, h5, h6⟩ := h4
    unfold outS at h6
    split at h6
    · rename_i ls H2 h7
      obtain ⟨us, h8, h9⟩ := results_sound h1.t h1.h hrv h5
      obtain ⟨ρ2, tk, g, h10⟩ := takeS_sound h1.h h1.u h9 h7
      have hout := viewS_out (B := fun b => Free ρ2 w' b ∨ ∃ β o n sz, ρ2 β = .at b o n sz) (fun b hb => .inl hb) (fun {K s x u} h11 h12 =>
        decH_rel g.h (fun b hb => .inl hb) (fun γ b o n sz _ hg => .inr ⟨γ, o, n, sz, hg⟩) h11 (VRels.single h12)) h6 h10
      have hr0 : ρ'.res = res := h2.res
      refine ⟨h1.t.2.1, resU us, h8, us, tk, rfl, h2.os, h2.tape, h2.output, h2.size, fun b hb => h2.kept b hb (fun _ _ _ _ h => by (cases h)), g.nd, fun b hb => ?_, ?_⟩
      · obtain ⟨_, β, o, n, sz, hg⟩ := g.tks b hb
        refine ⟨?_, h1.h.lt _ _ _ _ _ hg⟩
        rcases h2.img β b o n sz hg with ⟨_, _, _, _, h⟩ | h
        · cases h
        · exact h
      · refine ShOut.mono (.inl fun b hb => ?_) hout
        have : b < w'.heap.size ∧ ¬ ρ2.res b := by
          rcases hb with hb | ⟨β, o, n, sz, hb⟩
          · exact ⟨hb.1, hb.2.1⟩
          · exact ⟨g.h.lt _ _ _ _ _ hb, g.h.resf _ _ _ _ _ hb⟩
        exact ⟨this.1, fun h => this.2 (g.res b (by rw [hr0]; exact h)), fun h => this.2 (g.tks b h).1⟩
    · simp at h6
  cases ex with
  | exit id => simp [endG] at h3
  | normal =>
    refine key ?_
    simp only [endG] at h3
    split at h3
    · rename_i ss h4; rw [h4]; exact h3
    · simp at h3
  | ret =>
    refine key ?_
    simp only [endG] at h3
    split at h3
    · rename_i ss h4; rw [h4]; exact h3
    · simp at h3
end
end Go.Proofs.Ytjnkefbdpcbkmaa.Den
