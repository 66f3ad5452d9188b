/- Part 4 of the texts behind the row. -/
import Derived.Test.YtmkekjmckdkcnaaAER3
set_option linter.unusedVariables false
set_option linter.unusedSimpArgs false
namespace Go.Proofs.Ytmkekjmckdkcnaa.Den
open Go Go.RowKit
structure StepN (n0 : Nat) (ρ : Map) (w : World) (ρ' : Map) (w' : World) : Prop where
  os : w'.os = w.os
  tape : w'.tape = w.tape
  output : w'.output = w.output
  size : w.heap.size ≤ w'.heap.size
  kept : ∀ b, b < w.heap.size → (∀ β o n sz, ρ β ≠ .at b o n sz) → ρ.vl b = none → w'.heap[b]? = w.heap[b]?
  shape : ∀ (b : Nat) C t fr, w.heap[b]? = some (.cells C t fr) → ∃ C', w'.heap[b]? = some (.cells C' t fr) ∧ C'.size = C.size
  img : ∀ β b o n sz, ρ' β = .at b o n sz → (∃ γ o' n' sz', ρ γ = .at b o' n' sz') ∨ w.heap.size ≤ b
  ref : ∀ β, β < n0 → ρ β ≠ .unborn → ρ' β = ρ β ∨ ρ' β = .dead
  res : ρ'.res0 = ρ.res0
  vl : ∀ b, b < w.heap.size → ρ'.vl b = ρ.vl b
  vln : ∀ b t, ρ'.vl b = some t → ρ.vl b = some t ∨ (w.heap.size ≤ b ∧ w.heap.size ≤ t) := by exact fun _ _ h => .inl h
section
variable {n0 : Nat} {ρ ρ1 ρ2 : Map} {w w1 w2 : World}
theorem Step.toN (h : Step ρ w ρ1 w1) : StepN n0 ρ w ρ1 w1 :=
  ⟨h.os, h.tape, h.output, h.size, h.kept, h.shape, h.img, fun β _ => h.ref β, h.res, h.vl, h.vln⟩
theorem StepN.refl : StepN n0 ρ w ρ w := (Step.refl ρ w).toN
theorem StepN.trans (h : StepN n0 ρ w ρ1 w1) (k : StepN n0 ρ1 w1 ρ2 w2) : StepN n0 ρ w ρ2 w2 where
  os := k.os.trans h.os
  tape := k.tape.trans h.tape
  output := k.output.trans h.output
  size := Nat.le_trans h.size k.size
  kept b hb hn hv := (k.kept b (Nat.lt_of_lt_of_le hb h.size) (fun β o n sz e => by
    rcases h.img β b o n sz e with ⟨γ, o', n', sz', hg⟩ | hg
    · exact hn _ _ _ _ hg
    · omega) (by rw [h.vl b hb]; exact hv)).trans (h.kept b hb hn hv)
  shape b C t fr hb := by
    obtain ⟨C', h1, h2⟩ := h.shape b C t fr hb
    obtain ⟨C'', h3, h4⟩ := k.shape b C' t fr h1
    exact ⟨C'', h3, h4.trans h2⟩
  img β b o n sz e := by
    rcases k.img β b o n sz e with ⟨γ, o', n', sz', hg⟩ | hg
    · exact h.img _ _ _ _ _ hg
    · exact .inr (Nat.le_trans h.size hg)
  ref β hβ hu := by
    rcases h.ref β hβ hu with e | e
    · rcases k.ref β hβ (by rw [e]; exact hu) with e2 | e2
      · exact .inl (e2.trans e)
      · exact .inr e2
    · rcases k.ref β hβ (by rw [e]; simp) with e2 | e2
      · exact .inr (e2.trans e)
      · exact .inr e2
  res := k.res.trans h.res
  vl b hb := (k.vl b (Nat.lt_of_lt_of_le hb h.size)).trans (h.vl b hb)
  vln b t hb := by
    rcases k.vln b t hb with h1 | ⟨h1, h2⟩
    · exact h.vln b t h1
    · exact .inr ⟨Nat.le_trans h.size h1, Nat.le_trans h.size h2⟩
end
section
variable {P : Program} {N : Nat} {ρ ρ' : Map} {H H' : Heap} {w : World} {τ τ' : Env} {a : Act} {v : SV} {val : Value}
theorem Step.regrab {rs : List Nat} {β b o n sz : Nat} (o' n' sz' : Nat) (hr : ρ β = .at b o n sz) (hu : ρ H.length = .unborn) :
    Step ρ w ((ρ.kill rs).put H.length (.at b o' n' sz')) w where
  os := rfl
  tape := rfl
  output := rfl
  size := Nat.le_refl _
  kept _ _ _ _ := rfl
  shape _ C _ _ h := ⟨C, h, rfl⟩
  img γ b1 o1 n1 sz1 hg := by
    by_cases e : γ = H.length
    · subst e; rw [Map.put_same] at hg; injection hg with h2; subst h2; exact .inl ⟨β, o, n, sz, hr⟩
    · rw [Map.put_other _ _ e] at hg
      simp only [Map.kill] at hg
      split at hg
      · cases hg
      · exact .inl ⟨γ, o1, n1, sz1, hg⟩
  ref γ hg := by
    have e : γ ≠ H.length := by rintro rfl; exact hg hu
    rw [Map.put_other _ _ e]
    simp only [Map.kill]
    split
    · exact .inr rfl
    · exact .inl rfl
  res := rfl
  vl _ _ := rfl
theorem zja {rs : List Nat} (hu : ρ H.length = .unborn) : Step ρ w ((ρ.kill rs).put H.length .none_) w :=
  (Step.kill rs).trans (Step.ghost _ _ (by simp) (zD hu))
theorem zjb {K : Kd} {own : Bool} {v' : SV} (hH : HRel ρ H w) (hv : VRel ρ w v val) (hu : ρ H.length = .unborn) (he : fixV H K own v = some (v', H')) :
    ∃ ρ', Good false ρ H w v' H' val w ρ' := by
  unfold fixV at he
  split at he
  · split at he
    · simp only [Option.some.injEq, Prod.mk.injEq] at he
      obtain ⟨rfl, rfl⟩ := he
      exact ⟨ρ, Good.same hH hv⟩
    · simp only [Option.some.injEq, Prod.mk.injEq] at he
      obtain ⟨rfl, rfl⟩ := he
      refine ⟨(ρ.kill []).put H.length .none_, zM (rs := []) hH hu (zja hu) (fun _ _ _ _ _ _ _ => rfl) (fun _ _ _ => rfl) (.inl ⟨rfl, .inl ⟨K, 0, rfl⟩⟩) (by simp) ?_⟩
      simp only [VRel, Map.put_same] at hv ⊢
      exact hv
    · rename_i β off len
      split at he
      · rename_i K' xs t hb
        simp only [Option.some.injEq, Prod.mk.injEq] at he
        obtain ⟨rfl, rfl⟩ := he
        simp only [VRel] at hv
        rcases hr : ρ β with _ | _ | _ | ⟨b, o, n, sz⟩ <;> rw [hr] at hv <;> simp only at hv
        · exact absurd hr (live_of hH hb (by simp))
        · obtain ⟨rfl, ad, rfl⟩ := hv
          refine ⟨(ρ.kill [β]).put H.length .none_, zM (rs := [β]) hH hu (zja hu) (fun _ _ _ _ _ _ _ => rfl) (fun _ _ _ => rfl) (.inl ⟨rfl, .inl ⟨K', t, by simp⟩⟩) (by simp) ?_⟩
          simp only [VRel, Map.put_same]
          exact ⟨ad, rfl⟩
        · obtain ⟨hn, ad, c, rfl, hc, ha⟩ := hv
          rcases ha with ⟨rfl, rfl⟩ | ⟨rfl, hroom⟩
          · refine ⟨(ρ.kill [β]).put H.length .none_, zM (rs := [β]) hH hu (zja hu) (fun _ _ _ _ _ _ _ => rfl) (fun _ _ _ => rfl) (.inl ⟨rfl, .inl ⟨K', t, by simp⟩⟩) (by simp) ?_⟩
            simp only [VRel, Map.put_same]
            exact ⟨ad, rfl⟩
          · obtain ⟨rfl, rfl, C, tC, hC, hle, hrow⟩ := row_raw hH hb hr
            have hst := Step.regrab (w := w) (rs := [β]) (H := H) (o + off * K'.sz) len K'.sz hr hu
            have hmul : (off + len) * K'.sz ≤ xs.length * K'.sz := Nat.mul_le_mul_right _ hn
            rw [Nat.add_mul] at hmul
            refine ⟨_, zM (rs := [β]) hH hu hst (fun _ _ _ _ _ _ _ => rfl) (fun _ _ _ => rfl) (.inr ⟨b, o + off * K'.sz, len, K'.sz, rfl, hH.lt _ _ _ _ _ hr, hH.resf _ _ _ _ _ hr, fun γ o' n' sz' hγ hr' => ?_, ?_⟩) (by simp) ?_⟩
            · have := hH.inj _ _ _ _ _ _ _ _ _ hr hr'
              subst this; simp at hγ
            · simp only [BRel]
              refine ⟨by simp; omega, by first | rfl | trivial, C, tC, hC, by omega, fun i x hx => ?_⟩
              rw [List.getElem?_take] at hx
              split at hx
              · rw [List.getElem?_drop] at hx
                obtain ⟨es, h1, h2⟩ := hrow _ x hx
                refine ⟨es, h1.step hst, fun j u hj => ?_⟩
                rw [← h2 j u hj]; congr 1; rw [Nat.add_mul]; omega
              · simp at hx
            · simp only [VRel, Map.put_same]
              exact ⟨c, hc, rfl, hroom⟩
      · simp at he
    · simp at he
  · split at he
    · rename_i xs hdec
      simp only [Option.some.injEq, Prod.mk.injEq] at he
      obtain ⟨rfl, rfl⟩ := he
      refine ⟨ρ.kill v.refs, Step.kill _, hH.kill _, ?_, by simp [zk], fun β h _ => zD h, by simp⟩
      simp only [VRel]
      exact zC (dp := false) (B := Free (ρ.kill v.refs) w) hH (fun b h => h.step (Step.kill _)) (fun h => by cases h) (fun γ b o n sz hg hr => zf0 hH (by simpa [SV.refsL] using hg.resolve_left (by simp)) hr) hdec (VRels.single hv)
    · simp at he
theorem HRel.setBlk (h : HRel ρ H w) {β b o n sz : Nat} {x : Blk} (hr : ρ β = .at b o n sz) (hx : BRel ρ w b o n sz x) : HRel ρ (H.set β x) w where
  dead γ hl hd := by
    have e : β ≠ γ := by rintro rfl; rw [hr] at hd; cases hd
    rw [List.getElem?_set_ne e]; exact h.dead γ (by simpa using hl) hd
  none_ γ hl hd := by
    have e : β ≠ γ := by rintro rfl; rw [hr] at hd; cases hd
    rw [List.getElem?_set_ne e]; exact h.none_ γ (by simpa using hl) hd
  at_ γ hl b' o' n' sz' hd := by
    by_cases e : β = γ
    · subst e
      rw [hr] at hd; injection hd with h1 h2 h3 h4
      subst h1; subst h2; subst h3; subst h4
      exact ⟨x, by simp at hl; simp [hl], hx⟩
    · rw [List.getElem?_set_ne e]; exact h.at_ γ (by simpa using hl) _ _ _ _ hd
  inj := h.inj
  lt := h.lt
  resl := h.resl
  resf := h.resf
theorem zjc : ∀ {l : List (Nat × Option Nat × Kd × Bool)} {τ : Env} {H : Heap} {ρ : Map}, At P N ρ H w τ a → fixAll l τ H = some (τ', H') → ∃ ρ', At P N ρ' H' w τ' a ∧ Step ρ w ρ' w
  | [], τ, H, ρ, hat, he => by
    simp only [fixAll, Option.some.injEq, Prod.mk.injEq] at he
    obtain ⟨rfl, rfl⟩ := he
    exact ⟨ρ, hat, Step.refl _ _⟩
  | (s, none, K, o) :: r, τ, H, ρ, hat, he => by
    simp only [fixAll] at he
    split at he
    · rename_i v H1 hf
      obtain ⟨ρ1, hg⟩ := zjb hat.h (hat.t.2.2 s) (hat.u _ (Nat.le_refl _)) hf
      have hat1 : At P N ρ1 H1 w ((s, v) :: τ) a := ⟨⟨hat.t.1, hat.t.2.1, fun n => by
        rw [Tm.get_cons]
        split
        · rename_i e; subst e; exact hg.vrel
        · exact (hat.t.2.2 n).step hg.step⟩, hg.hrel, fun β hβ => hg.unb β (hat.u β (Nat.le_trans hg.len hβ)) hβ⟩
      obtain ⟨ρ2, h1, h2⟩ := zjc hat1 he
      exact ⟨ρ2, h1, hg.step.trans h2⟩
    · simp at he
  | (s, some c, K, o) :: r, τ, H, ρ, hat, he => by
    simp only [fixAll] at he
    split at he
    · rename_i β hs
      split at he
      · rename_i cs t z hb
        split at he
        · rename_i u hc
          split at he
          · rename_i v H1 hf
            split at he
            · rename_i cs1 t1 z1 hb1
              have hp := hat.t.2.2 s
              rw [hs] at hp
              obtain ⟨b, o', n, sz, hr, _⟩ := ptr_rel hat.h hb (by simp) hp
              have hlt : β < H.length := (List.getElem?_eq_some_iff.1 hb).1
              obtain ⟨x, h1, h2⟩ := hat.h.at_ β hlt _ _ _ _ hr
              rw [hb] at h1; cases h1
              simp only [BRel] at h2
              obtain ⟨_, _, C, tC, hC, _, hcell⟩ := h2
              obtain ⟨val, hval, hrel⟩ := hcell c u hc
              obtain ⟨ρ1, hg⟩ := zjb hat.h hrel (hat.u _ (Nat.le_refl _)) hf
              have hr1 : ρ1 β = .at b o' n sz := by
                rcases hg.step.ref β (by rw [hr]; simp) with e | e
                · rw [e, hr]
                · have := hg.hrel.dead β (List.getElem?_eq_some_iff.1 hb1).1 e
                  rw [hb1] at this; cases this
              obtain ⟨y, h3, h4⟩ := hg.hrel.at_ β (List.getElem?_eq_some_iff.1 hb1).1 _ _ _ _ hr1
              rw [hb1] at h3; cases h3
              simp only [BRel] at h4
              obtain ⟨hz1, hl1, C1, tC1, hC1, hle1, hcell1⟩ := h4
              rw [hC] at hC1; cases hC1
              have hbr : BRel ρ1 w b o' n sz (.cells (cs1.set c v) t1 z1) := by
                simp only [BRel]
                refine ⟨hz1, by simpa using hl1, C, tC, hC, hle1, fun j q hq => ?_⟩
                rw [List.getElem?_set] at hq
                split at hq
                · rename_i e; subst e
                  split at hq
                  · cases hq; exact ⟨val, hval, hg.vrel⟩
                  · cases hq
                · exact hcell1 j q hq
              have hat1 : At P N ρ1 (H1.set β (.cells (cs1.set c v) t1 z1)) w τ a := ⟨⟨hat.t.1, hat.t.2.1, fun n => (hat.t.2.2 n).step hg.step⟩, hg.hrel.setBlk hr1 hbr,
                fun γ hγ => by
                  simp only [List.length_set] at hγ
                  exact hg.unb γ (hat.u γ (Nat.le_trans hg.len hγ)) hγ⟩
              obtain ⟨ρ2, h5, h6⟩ := zjc hat1 he
              exact ⟨ρ2, h5, hg.step.trans h6⟩
            · simp at he
          · simp at he
        · simp at he
      · simp at he
    · simp at he
end
section
variable {P : Program} {N n0 : Nat} {ρ ρ' : Map} {w : World} {f : Nat → Option Nat}
mutual
theorem VRel.ren (hf : ∀ β β', f β = some β' → ρ' β' = ρ β) (hfree : ∀ b, Free ρ w b → Free ρ' w b) : ∀ {s : SV} {u : Value}, VRel ρ w s u → VRel ρ' w (s.ren f) u
  | .junk, _, _ => by simp [SV.ren, VRel]
  | .int .., _, h => by simpa [SV.ren, VRel] using h
  | .bool _, _, h => by simpa [SV.ren, VRel] using h
  | .nilp, _, h => by simpa [SV.ren, VRel] using h
  | .ptr β o, _, h => by
    simp only [SV.ren]
    split
    · rename_i β' e
      simp only [VRel] at h ⊢
      rw [hf β β' e]; exact h
    · simp [VRel]
  | .aptr β i j, _, h => by
    simp only [SV.ren]
    split
    · rename_i β' e
      simp only [VRel] at h ⊢
      rw [hf β β' e]; exact h
    · simp [VRel]
  | .eptr K x j, _, h => by
    simp only [SV.ren, VRel] at h ⊢
    obtain ⟨ad, es, h1, h2, h3, h4⟩ := h
    exact ⟨ad, es, h1, CRel.mono hfree (fun _ _ => rfl) h2, hfree _ h3, h4⟩
  | .nils, _, h => by simpa [SV.ren, VRel] using h
  | .own β, _, h => by
    simp only [SV.ren]
    split
    · rename_i β' e
      simp only [VRel] at h ⊢
      rw [hf β β' e]; exact h
    · simp [VRel]
  | .sub β o l, _, h => by
    simp only [SV.ren]
    split
    · rename_i β' e
      simp only [VRel] at h ⊢
      rw [hf β β' e]; exact h
    · simp [VRel]
  | .es K xs, _, h => by
    simp only [SV.ren, VRel] at h ⊢
    exact CRel.mono hfree (fun _ _ => rfl) h
  | .agg cs, _, h => by
    simp only [SV.ren, VRel] at h ⊢
    obtain ⟨vs, h1, h2⟩ := h
    exact ⟨vs, h1, VRels.ren hf hfree h2⟩
  | .arrv K xs, _, h => by
    simp only [SV.ren, VRel] at h ⊢
    obtain ⟨vs, h1, h2, h3⟩ := h
    refine ⟨vs, h1, h2, fun i x hx => ?_⟩
    obtain ⟨es, h4, h5⟩ := h3 i x hx
    exact ⟨es, CRel.mono hfree (fun _ _ => rfl) h4, h5⟩
  | .tup cs, _, h => by
    simp only [SV.ren, VRel] at h ⊢
    obtain ⟨vs, h1, h2⟩ := h
    exact ⟨vs, h1, VRels.ren hf hfree h2⟩
  | .fn g a b, _, h => by
    simp only [SV.ren, VRel] at h ⊢
    obtain ⟨vf, vc, h1, h2, h3⟩ := h
    exact ⟨vf, vc, h1, VRels.ren hf hfree h2, VRels.ren hf hfree h3⟩
  | .nilf, _, h => by simpa [SV.ren, VRel] using h
  | .iface t x, _, h => by
    simp only [SV.ren, VRel] at h ⊢
    obtain ⟨u, h1, h2⟩ := h
    exact ⟨u, h1, VRel.ren hf hfree h2⟩
  | .nili, _, h => by simpa [SV.ren, VRel] using h
theorem VRels.ren (hf : ∀ β β', f β = some β' → ρ' β' = ρ β) (hfree : ∀ b, Free ρ w b → Free ρ' w b) : ∀ {cs : List SV} {us : List Value}, VRels ρ w cs us → VRels ρ' w (SV.renL f cs) us
  | [], _, h => by simpa [SV.renL, VRels] using h
  | c :: cs, _, h => by
    simp only [SV.renL, VRels] at h ⊢
    obtain ⟨u, us, h1, h2, h3⟩ := h
    exact ⟨u, us, h1, VRel.ren hf hfree h2, VRels.ren hf hfree h3⟩
end
theorem zou : ∀ {cs : List SV}, (SV.renL f cs).length = cs.length
  | [] => rfl
  | c :: cs => by simp [SV.renL, zou (cs := cs)]
theorem zov : ∀ {cs : List SV} {j : Nat}, (SV.renL f cs)[j]? = (cs[j]?).map (SV.ren f)
  | [], j => by simp [SV.renL]
  | c :: cs, 0 => by simp [SV.renL]
  | c :: cs, j + 1 => by simp [SV.renL, zov (cs := cs)]
theorem BRel.ren (hf : ∀ β β', f β = some β' → ρ' β' = ρ β) (hfree : ∀ b, Free ρ w b → Free ρ' w b) (hvl : ρ'.vl = ρ.vl) {b o n sz : Nat} : ∀ {x : Blk}, BRel ρ w b o n sz x → BRel ρ' w b o n sz (x.ren f)
  | .dead, h => h
  | .cells cs t z, h => by
    simp only [Blk.ren, BRel] at h ⊢
    obtain ⟨h1, h2, C, tC, h3, h4, h5⟩ := h
    refine ⟨h1, by rw [zou]; exact h2, C, tC, h3, h4, fun j s hs => ?_⟩
    rw [zov, Option.map_eq_some_iff] at hs
    obtain ⟨s0, h6, rfl⟩ := hs
    obtain ⟨u, h7, h8⟩ := h5 j s0 h6
    exact ⟨u, h7, VRel.ren hf hfree h8⟩
  | .arr K xs t, h => by
    simp only [Blk.ren, BRel] at h ⊢
    obtain ⟨h1, h2, C, tC, h3, h4, h5⟩ := h
    refine ⟨h1, h2, C, tC, h3, h4, fun i x hx => ?_⟩
    obtain ⟨es, h6, h7⟩ := h5 i x hx
    exact ⟨es, CRel.mono hfree (fun _ _ => rfl) h6, h7⟩
  | .tree e xs, h => by
    simp only [Blk.ren, BRel] at h ⊢
    rw [hvl]; exact h
theorem zow {β : Nat} : ∀ {σ : List Nat} {k i : Nat}, idxIn β σ k = some i → k ≤ i ∧ σ[i - k]? = some β
  | [], k, i, h => by simp [idxIn] at h
  | x :: r, k, i, h => by
    simp only [idxIn] at h
    rcases zd h with ⟨h1, h2⟩ | ⟨h1, h2⟩
    · simp at h2; subst h2
      have := Nat.eq_of_beq_eq_true h1
      subst this; simp
    · obtain ⟨h3, h4⟩ := zow h2
      refine ⟨by omega, ?_⟩
      have : i - k = (i - (k + 1)) + 1 := by omega
      rw [this]; simpa using h4
theorem zox : ∀ {σ : List Nat}, nodupB σ = true → ∀ (i j : Nat) (x : Nat), σ[i]? = some x → σ[j]? = some x → i = j
  | [], _, i, j, x, h, _ => by simp at h
  | y :: r, hn, i, j, x, h1, h2 => by
    simp only [nodupB, Bool.and_eq_true, Bool.not_eq_true'] at hn
    obtain ⟨h3, h4⟩ := hn
    have hno : ∀ k, r[k]? ≠ some y := fun k hk => by
      have := List.mem_of_getElem? hk
      simp at h3; exact h3 this
    cases i with
    | zero =>
      simp at h1; subst h1
      cases j with
      | zero => rfl
      | succ j => simp at h2; exact absurd h2 (hno j)
    | succ i =>
      cases j with
      | zero => simp at h2; subst h2; simp at h1; exact absurd h1 (hno i)
      | succ j => rw [zox h4 i j x (by simpa using h1) (by simpa using h2)]
def Map.gc (ρ : Map) (n0 : Nat) (σ : List Nat) : Map := ⟨fun γ => if γ < n0 then ρ γ else match σ[γ - n0]? with | some β => ρ β | none => .unborn, ρ.res0, ρ.vl⟩
theorem gc_ren {σ : List Nat} (β β' : Nat) (h : renF n0 σ β = some β') : (ρ.gc n0 σ) β' = ρ β := by
  unfold renF at h
  rcases zd h with ⟨h1, h2⟩ | ⟨h1, h2⟩
  · simp at h2; subst h2
    simp only [Map.gc]; rw [if_pos (by simpa [Nat.blt_eq] using h1)]
  · obtain ⟨h3, h4⟩ := zow h2
    simp only [Map.gc]; rw [if_neg (by omega), h4]
theorem gc_from {σ : List Nat} (γ : Nat) : (∃ β, (ρ.gc n0 σ) γ = ρ β ∧ ((γ < n0 ∧ β = γ) ∨ (n0 ≤ γ ∧ σ[γ - n0]? = some β))) ∨ (ρ.gc n0 σ) γ = .unborn := by
  simp only [Map.gc]
  split
  · rename_i h; exact .inl ⟨γ, rfl, .inl ⟨h, rfl⟩⟩
  · rename_i h
    split
    · rename_i β hβ; exact .inl ⟨β, rfl, .inr ⟨by omega, hβ⟩⟩
    · exact .inr rfl
theorem get_map {g : SV → SV} : ∀ {τ : Env} {n : Nat}, (∃ s, Tm.get τ n = s ∧ Tm.get (τ.map fun p => (p.1, g p.2)) n = g s) ∨ Tm.get (τ.map fun p => (p.1, g p.2)) n = .junk
  | [], n => .inr rfl
  | (m, v) :: τ, n => by
    simp only [List.map_cons, Tm.get_cons]
    split
    · exact .inl ⟨v, rfl, rfl⟩
    · exact get_map
theorem zvq {τ τ' : Env} {H H' : Heap} {a : Act} (hat : At P N ρ H w τ a) (he : gc n0 τ H = some (τ', H')) : ∃ ρ', At P N ρ' H' w τ' a ∧ StepN n0 ρ w ρ' w := by
  unfold gc at he
  simp only at he
  generalize gcOrder n0 H LIM (τ.flatMap (fun p => p.2.refs) ++ (H.take n0).flatMap Blk.refs) [] = σ at he
  obtain ⟨hc, he⟩ := (zd he).resolve_right (by simp)
  simp only [Bool.and_eq_true, List.all_eq_true, Nat.ble_eq, Nat.blt_eq] at hc
  obtain ⟨hnd, hσ, hn0⟩ := hc
  simp only [Option.some.injEq, Prod.mk.injEq] at he
  obtain ⟨rfl, hH'⟩ := he
  have hf := @gc_ren n0 ρ σ
  have himg : ∀ {γ b o n sz}, (ρ.gc n0 σ) γ = .at b o n sz → ∃ β, ρ β = .at b o n sz ∧ ((γ < n0 ∧ β = γ) ∨ (n0 ≤ γ ∧ σ[γ - n0]? = some β)) := by
    intro γ b o n sz h
    rcases gc_from (ρ := ρ) (n0 := n0) (σ := σ) γ with ⟨β, h1, h2⟩ | h1
    · exact ⟨β, by rw [← h1]; exact h, h2⟩
    · rw [h] at h1; cases h1
  have hfree : ∀ b, Free ρ w b → Free (ρ.gc n0 σ) w b := fun b h => ⟨h.1, h.2.1, fun γ o n sz hg => by
    obtain ⟨β, h1, _⟩ := himg hg
    exact h.2.2 _ _ _ _ h1⟩
  have hlen : H'.length = n0 + σ.length := by
    rw [← hH']; simp; omega
  have hblk : ∀ {γ β}, ((γ < n0 ∧ β = γ) ∨ (n0 ≤ γ ∧ σ[γ - n0]? = some β)) → ∃ x, H[β]? = some x ∧ β < H.length ∧
      H'[γ]? = some (x.ren (renF n0 σ)) := by
    intro γ β h
    rw [← hH']
    rcases h with ⟨h1, rfl⟩ | ⟨h1, h2⟩
    · have hlt : β < H.length := by omega
      refine ⟨H[β], List.getElem?_eq_getElem hlt, hlt, ?_⟩
      rw [List.getElem?_append_left (by simp; omega), List.getElem?_map, List.getElem?_take, if_pos h1, List.getElem?_eq_getElem hlt]; rfl
    · have hlt := (hσ β (List.mem_of_getElem? h2)).2
      refine ⟨H[β], List.getElem?_eq_getElem hlt, hlt, ?_⟩
      have hl2 : ((H.take n0).map (Blk.ren (renF n0 σ))).length = n0 := by simp; omega
      rw [List.getElem?_append_right (by omega), hl2, List.getElem?_map, h2]
      simp [List.getElem?_eq_getElem hlt]
  have hcase : ∀ γ, γ < n0 + σ.length → ∃ β, (ρ.gc n0 σ) γ = ρ β ∧ ((γ < n0 ∧ β = γ) ∨ (n0 ≤ γ ∧ σ[γ - n0]? = some β)) := by
    intro γ hγ
    by_cases h : γ < n0
    · exact ⟨γ, by simp [Map.gc, h], .inl ⟨h, rfl⟩⟩
    · have h2 : σ[γ - n0]? = some (σ[γ - n0]'(by omega)) := List.getElem?_eq_getElem (by omega)
      exact ⟨_, by simp only [Map.gc]; rw [if_neg h, h2], .inr ⟨by omega, h2⟩⟩
  refine ⟨ρ.gc n0 σ, ⟨⟨hat.t.1, hat.t.2.1, fun n => ?_⟩, ?_, fun β hβ => ?_⟩, ?_⟩
  · rcases get_map (g := SV.ren (renF n0 σ)) (τ := τ) (n := n) with ⟨s, h1, h2⟩ | h1
    · rw [h2, ← h1]; exact VRel.ren hf hfree (hat.t.2.2 n)
    · rw [h1]; simp [VRel]
  · constructor
    · intro γ hl hd
      rw [hlen] at hl
      obtain ⟨β, h1, h2⟩ := hcase γ hl
      obtain ⟨x, h3, h4, h5⟩ := hblk h2
      rw [h1] at hd
      have := hat.h.dead β h4 hd
      rw [h3] at this; cases this
      exact h5
    · intro γ hl hd
      rw [hlen] at hl
      obtain ⟨β, h1, h2⟩ := hcase γ hl
      obtain ⟨x, h3, h4, h5⟩ := hblk h2
      rw [h1] at hd
      rcases hat.h.none_ β h4 hd with ⟨K, t, h6⟩ | ⟨t, z, h6⟩ | ⟨e, h6⟩
      · rw [h3] at h6; cases h6; exact .inl ⟨K, 0, h5⟩
      · rw [h3] at h6; cases h6; exact .inr (.inl ⟨0, z, h5⟩)
      · rw [h3] at h6; cases h6; exact .inr (.inr ⟨e, h5⟩)
    · intro γ hl b o n sz hd
      rw [hlen] at hl
      obtain ⟨β, h1, h2⟩ := hcase γ hl
      obtain ⟨x, h3, h4, h5⟩ := hblk h2
      rw [h1] at hd
      obtain ⟨y, h6, h7⟩ := hat.h.at_ β h4 _ _ _ _ hd
      rw [h3] at h6; cases h6
      exact ⟨_, h5, h7.ren hf hfree rfl⟩
    · intro γ1 γ2 b o n sz o' n' sz' h1 h2
      obtain ⟨β1, h3, h4⟩ := himg h1
      obtain ⟨β2, h5, h6⟩ := himg h2
      have := hat.h.inj _ _ _ _ _ _ _ _ _ h3 h5
      subst this
      rcases h4 with ⟨h7, h8⟩ | ⟨h7, h8⟩ <;> rcases h6 with ⟨h9, h10⟩ | ⟨h9, h10⟩
      · omega
      · have := (hσ _ (List.mem_of_getElem? h10)).1; omega
      · have := (hσ _ (List.mem_of_getElem? h8)).1; omega
      · have := zox hnd _ _ _ h8 h10; omega
    · intro γ b o n sz h1
      obtain ⟨β1, h3, h4⟩ := himg h1
      exact hat.h.lt _ _ _ _ _ h3
    · exact hat.h.resl
    · intro γ b o n sz h1
      obtain ⟨β1, h3, h4⟩ := himg h1
      exact hat.h.resf _ _ _ _ _ h3
  · rw [hlen] at hβ
    simp only [Map.gc]
    rw [if_neg (by omega), List.getElem?_eq_none (by omega)]
  · exact {
      os := rfl, tape := rfl, output := rfl
      size := Nat.le_refl _
      kept := fun _ _ _ _ => rfl
      shape := fun _ C _ _ h => ⟨C, h, rfl⟩
      img := fun γ b o n sz h => by
        obtain ⟨β1, h3, _⟩ := himg h
        exact .inl ⟨_, _, _, _, h3⟩
      ref := fun β hβ _ => .inl (by simp only [Map.gc]; rw [if_pos hβ])
      res := rfl
      vl := fun _ _ => rfl }
theorem zge {τ τ' : Env} {H H' : Heap} {a : Act} {nm : Norm} (hat : At P N ρ H w τ a) (he : norm n0 nm τ H = some (τ', H')) : ∃ ρ', At P N ρ' H' w τ' a ∧ StepN n0 ρ w ρ' w := by
  unfold norm at he
  split at he
  · rename_i τ1 H1 hf
    obtain ⟨ρ1, h1, h2⟩ := zjc hat hf
    have hat1 : At P N ρ1 H1 w (nm.live.map fun s => (s, Tm.get τ1 s)) a := ⟨⟨h1.t.1, h1.t.2.1, fun n => by
      have : ∀ (l : List Nat), Tm.get (l.map fun s => (s, Tm.get τ1 s)) n = Tm.get τ1 n ∨ Tm.get (l.map fun s => (s, Tm.get τ1 s)) n = .junk := by
        intro l
        induction l with
        | nil => exact .inr rfl
        | cons x l ih =>
          rw [List.map_cons, Tm.get_cons]
          split
          · rename_i e; subst e; exact .inl rfl
          · exact ih
      rcases this nm.live with h | h
      · rw [h]; exact h1.t.2.2 n
      · rw [h]; simp [VRel]⟩, h1.h, h1.u⟩
    obtain ⟨ρ2, h3, h4⟩ := zvq hat1 he
    exact ⟨ρ2, h3, h2.toN.trans h4⟩
  · simp at he
end
end Go.Proofs.Ytmkekjmckdkcnaa.Den
