/- How memory grows, is written and is given up: the map of abstract blocks along. -/
import Derived.Test.YtjnkefbdpcbkmaaD4
namespace Go.Proofs.Ytjnkefbdpcbkmaa.Den
open Go Go.RowKit
set_option linter.unusedVariables false
set_option linter.unusedSimpArgs false

def Map.put (ρ : Map) (β : Nat) (m : Img) : Map := ⟨fun γ => if γ = β then m else ρ γ, ρ.res⟩
theorem Map.put_same (ρ : Map) (β : Nat) (m : Img) : (ρ.put β m) β = m := by simp [Map.put]
theorem Map.put_other (ρ : Map) {β γ : Nat} (m : Img) (h : γ ≠ β) : (ρ.put β m) γ = ρ γ := by simp [Map.put, h]

def Img.born : Img → Bool
  | .unborn => false
  | _ => true
def Map.kill (ρ : Map) (rs : List Nat) : Map := ⟨fun γ => if γ ∈ rs ∧ (ρ γ).born = true then .dead else ρ γ, ρ.res⟩

theorem BRel.keepF {ρ ρ' : Map} {w w' : World} (h : StepF ρ w ρ' w') {b o n sz : Nat} (hb : w'.heap[b]? = w.heap[b]?) : ∀ {x : Blk}, BRel ρ w b o n sz x → BRel ρ' w' b o n sz x
  | .dead, hx => hx
  | .cells cs t z, hx => by
    simp only [BRel] at hx ⊢
    obtain ⟨h0, h1, C, tC, h2, h3, h4⟩ := hx
    refine ⟨h0, h1, C, tC, hb.trans h2, h3, fun j s hs => ?_⟩
    obtain ⟨u, h5, h6⟩ := h4 j s hs
    exact ⟨u, h5, h6.stepF h⟩
  | .arr K xs t, hx => by
    simp only [BRel] at hx ⊢
    obtain ⟨h0, h1, C, tC, h2, h3, h4⟩ := hx
    refine ⟨h0, h1, C, tC, hb.trans h2, h3, fun i x hx => ?_⟩
    obtain ⟨es, h5, h6⟩ := h4 i x hx
    exact ⟨es, h5.stepF h, h6⟩

theorem BRel.keep {ρ ρ' : Map} {w w' : World} (h : Step ρ w ρ' w') {b o n sz : Nat} (hb : w'.heap[b]? = w.heap[b]?) {x : Blk} (hx : BRel ρ w b o n sz x) : BRel ρ' w' b o n sz x := hx.keepF h.toF hb

theorem Step.alloc {ρ : Map} {w : World} (β : Nat) (C : Array Value) (t : TypeId) (n sz : Nat) (hu : ρ β = .unborn) :
    Step ρ w (ρ.put β (.at w.heap.size 0 n sz)) (w.alloc (.cells C t (0, 0))) where
  os := rfl
  tape := rfl
  output := rfl
  size := by rw [World.size_alloc]; omega
  kept b hb _ := by
    simp only [World.alloc]
    rw [Array.getElem?_push, if_neg (by omega)]
  shape b C' t' fr hb := by
    refine ⟨C', ?_, rfl⟩
    have hlt : b < w.heap.size := (Array.getElem?_eq_some_iff.1 hb).1
    simp only [World.alloc]
    rw [Array.getElem?_push, if_neg (by omega)]; exact hb
  img γ b o n' sz' hg := by
    by_cases e : γ = β
    · subst e; rw [Map.put_same] at hg; injection hg with h1; exact .inr (by omega)
    · rw [Map.put_other _ _ e] at hg; exact .inl ⟨γ, o, n', sz', hg⟩
  ref γ hg := by
    have e : γ ≠ β := by rintro rfl; exact hg hu
    exact .inl (Map.put_other _ _ e)
  res := rfl

theorem Step.ghost {ρ : Map} {w : World} (β : Nat) (m : Img) (hm : ∀ b o n sz, m = .at b o n sz → ∃ γ o' n' sz', ρ γ = .at b o' n' sz') (hu : ρ β = .unborn) : Step ρ w (ρ.put β m) w where
  os := rfl
  tape := rfl
  output := rfl
  size := Nat.le_refl _
  kept _ _ _ := rfl
  shape _ C _ _ h := ⟨C, h, rfl⟩
  img γ b o n sz hg := by
    by_cases e : γ = β
    · subst e; rw [Map.put_same] at hg; exact .inl (hm _ _ _ _ hg)
    · rw [Map.put_other _ _ e] at hg; exact .inl ⟨γ, o, n, sz, hg⟩
  ref γ hg := .inl (Map.put_other _ _ (by rintro rfl; exact hg hu))
  res := rfl

theorem Step.kill {ρ : Map} {w : World} (rs : List Nat) : Step ρ w (ρ.kill rs) w where
  os := rfl
  tape := rfl
  output := rfl
  size := Nat.le_refl _
  kept _ _ _ := rfl
  shape _ C _ _ h := ⟨C, h, rfl⟩
  img γ b o n sz hg := by
    simp only [Map.kill] at hg
    split at hg
    · simp at hg
    · exact .inl ⟨γ, o, n, sz, hg⟩
  ref γ hg := by
    simp only [Map.kill]
    split
    · exact .inr rfl
    · exact .inl rfl
  res := rfl

theorem Step.drew {ρ : Map} {w : World} : Step ρ w ρ w.drew where
  os := rfl
  tape := rfl
  output := rfl
  size := Nat.le_refl _
  kept _ _ _ := rfl
  shape _ C _ _ h := ⟨C, h, rfl⟩
  img γ b o n sz hg := .inl ⟨γ, o, n, sz, hg⟩
  ref γ hg := .inl rfl
  res := rfl

/-- A write into a block that is told of. -/
theorem Step.setRow {ρ : Map} {w : World} {β b o n sz : Nat} {C C' : Array Value} {t : TypeId} (hr : ρ β = .at b o n sz) (hb : w.heap[b]? = some (.cells C t (0, 0))) (hs : C'.size = C.size) : Step ρ w ρ (w.setRow b C') where
  os := rfl
  tape := rfl
  output := rfl
  size := by simp [World.setRow]
  kept b' _ hf := by
    have : b ≠ b' := by rintro rfl; exact hf _ _ _ _ hr
    simp only [World.setRow]
    rw [Array.getElem?_modify, if_neg this]
  shape b' C2 t2 fr h2 := by
    by_cases e : b = b'
    · subst e
      rw [hb] at h2; simp at h2
      obtain ⟨rfl, rfl, rfl⟩ := h2
      exact ⟨C', by simp [World.setRow, Array.getElem?_modify, hb], hs⟩
    · exact ⟨C2, by simp only [World.setRow]; rw [Array.getElem?_modify, if_neg e]; exact h2, rfl⟩
  img γ b o n sz hg := .inl ⟨γ, o, n, sz, hg⟩
  ref γ hg := .inl rfl
  res := rfl

theorem HRel.drew {ρ : Map} {H : Heap} {w : World} (h : HRel ρ H w) : HRel ρ H w.drew where
  dead := h.dead
  none_ := h.none_
  at_ β hl b o n sz hr := by
    obtain ⟨x, h1, h2⟩ := h.at_ β hl b o n sz hr
    exact ⟨x, h1, h2.keep Step.drew rfl⟩
  inj := h.inj
  lt := h.lt
  resl := h.resl
  resf := h.resf

/-- A new block. -/
theorem HRel.alloc {ρ : Map} {H : Heap} {w : World} (h : HRel ρ H w) {C : Array Value} {t : TypeId} {n sz : Nat} {x : Blk} (hu : ρ H.length = .unborn)
    (hx : BRel (ρ.put H.length (.at w.heap.size 0 n sz)) (w.alloc (.cells C t (0, 0))) w.heap.size 0 n sz x) :
    HRel (ρ.put H.length (.at w.heap.size 0 n sz)) (H ++ [x]) (w.alloc (.cells C t (0, 0))) where
  dead β hl hr := by
    by_cases e : β = H.length
    · subst e; rw [Map.put_same] at hr; cases hr
    · rw [Map.put_other _ _ e] at hr
      have hl' : β < H.length := by simp at hl; omega
      rw [List.getElem?_append_left hl']; exact h.dead β hl' hr
  none_ β hl hr := by
    by_cases e : β = H.length
    · subst e; rw [Map.put_same] at hr; cases hr
    · rw [Map.put_other _ _ e] at hr
      have hl' : β < H.length := by simp at hl; omega
      rw [List.getElem?_append_left hl']; exact h.none_ β hl' hr
  at_ β hl b o n' sz' hr := by
    by_cases e : β = H.length
    · subst e; rw [Map.put_same] at hr; injection hr with h1 h2 h3 h4
      subst h1; subst h2; subst h3; subst h4
      exact ⟨x, by simp, hx⟩
    · rw [Map.put_other _ _ e] at hr
      have hl' : β < H.length := by simp at hl; omega
      obtain ⟨y, h1, h2⟩ := h.at_ β hl' b o n' sz' hr
      refine ⟨y, by rw [List.getElem?_append_left hl']; exact h1, h2.keep (Step.alloc _ _ _ _ _ hu) ?_⟩
      have := h.lt _ _ _ _ _ hr
      simp only [World.alloc]
      rw [Array.getElem?_push, if_neg (by omega)]
  inj β γ b o n1 sz1 o' n2 sz2 h1 h2 := by
    by_cases e : β = H.length <;> by_cases e2 : γ = H.length
    · omega
    · subst e; rw [Map.put_same] at h1; rw [Map.put_other _ _ e2] at h2
      injection h1 with h1; have := h.lt _ _ _ _ _ h2; omega
    · subst e2; rw [Map.put_same] at h2; rw [Map.put_other _ _ e] at h1
      injection h2 with h2; have := h.lt _ _ _ _ _ h1; omega
    · rw [Map.put_other _ _ e] at h1; rw [Map.put_other _ _ e2] at h2
      exact h.inj _ _ _ _ _ _ _ _ _ h1 h2
  lt β b o n' sz' hr := by
    by_cases e : β = H.length
    · subst e; rw [Map.put_same] at hr; injection hr with h1; rw [World.size_alloc]; omega
    · rw [Map.put_other _ _ e] at hr
      have := h.lt _ _ _ _ _ hr
      rw [World.size_alloc]; omega
  resl b hb := by have := h.resl b hb; rw [World.size_alloc]; omega
  resf β b o n' sz' hr hb := by
    by_cases e : β = H.length
    · subst e; rw [Map.put_same] at hr; injection hr with h1; have := h.resl b hb; omega
    · rw [Map.put_other _ _ e] at hr; exact h.resf _ _ _ _ _ hr hb

theorem kill_get : ∀ (rs : List Nat) (H : Heap) (β : Nat), (kill rs H)[β]? = if β ∈ rs ∧ β < H.length then some .dead else H[β]?
  | [], H, β => by simp [kill]
  | r :: rs, H, β => by
    rw [kill, kill_get rs (H.set r .dead) β]
    simp only [List.length_set, List.mem_cons]
    by_cases h1 : β ∈ rs ∧ β < H.length
    · rw [if_pos h1, if_pos ⟨.inr h1.1, h1.2⟩]
    · rw [if_neg h1, List.getElem?_set]
      by_cases h2 : r = β
      · subst h2
        by_cases h3 : r < H.length
        · rw [if_pos rfl, if_pos h3, if_pos ⟨.inl rfl, h3⟩]
        · rw [if_pos rfl, if_neg h3, if_neg (by omega), List.getElem?_eq_none (by omega)]
      · rw [if_neg h2, if_neg]
        rintro ⟨h3 | h3, h4⟩
        · exact h2 h3.symm
        · exact h1 ⟨h3, h4⟩

theorem kill_length : ∀ (rs : List Nat) (H : Heap), (kill rs H).length = H.length
  | [], _ => rfl
  | r :: rs, H => by rw [kill, kill_length]; simp

theorem HRel.kill {ρ : Map} {H : Heap} {w : World} (h : HRel ρ H w) (rs : List Nat) : HRel (ρ.kill rs) (kill rs H) w where
  dead β hl hr := by
    rw [kill_length] at hl
    rw [kill_get]
    simp only [Map.kill] at hr
    split at hr
    · rename_i h1; rw [if_pos ⟨h1.1, hl⟩]
    · split
      · rfl
      · exact h.dead β hl hr
  none_ β hl hr := by
    rw [kill_length] at hl
    simp only [Map.kill] at hr
    split at hr
    · cases hr
    · rename_i h1
      rw [kill_get, if_neg (fun h2 => h1 ⟨h2.1, by rw [hr]; rfl⟩)]
      exact h.none_ β hl hr
  at_ β hl b o n sz hr := by
    rw [kill_length] at hl
    simp only [Map.kill] at hr
    split at hr
    · cases hr
    · rename_i h1
      rw [kill_get, if_neg (fun h2 => h1 ⟨h2.1, by rw [hr]; rfl⟩)]
      obtain ⟨x, h3, h4⟩ := h.at_ β hl b o n sz hr
      exact ⟨x, h3, h4.keep (Step.kill rs) rfl⟩
  inj β γ b o n sz o' n' sz' h1 h2 := by
    simp only [Map.kill] at h1 h2
    split at h1
    · cases h1
    · split at h2
      · cases h2
      · exact h.inj _ _ _ _ _ _ _ _ _ h1 h2
  lt β b o n sz hr := by
    simp only [Map.kill] at hr
    split at hr
    · cases hr
    · exact h.lt _ _ _ _ _ hr
  resl := h.resl
  resf β b o n sz hr := by
    simp only [Map.kill] at hr
    split at hr
    · cases hr
    · exact h.resf _ _ _ _ _ hr

/-- A name for what lies in a block that no live name has any more, or in none. -/
theorem HRel.ghost {ρ : Map} {H : Heap} {w : World} (h : HRel ρ H w) {m : Img} {x : Blk} (hu : ρ H.length = .unborn)
    (hm : m = .none_ ∨ ∃ b o n sz, m = .at b o n sz ∧ b < w.heap.size ∧ ¬ ρ.res b ∧ (∀ γ o' n' sz', ρ γ ≠ .at b o' n' sz'))
    (hx : (m = .none_ → (∃ K t, x = .arr K [] t) ∨ (∃ t z, x = .cells [] t z)) ∧ ∀ b o n sz, m = .at b o n sz → BRel (ρ.put H.length m) w b o n sz x)
    (hk : ∀ β, β < H.length → ∀ b o n sz, ρ β = .at b o n sz → ∀ x, H[β]? = some x → BRel ρ w b o n sz x → BRel (ρ.put H.length m) w b o n sz x) :
    HRel (ρ.put H.length m) (H ++ [x]) w where
  dead β hl hr := by
    by_cases e : β = H.length
    · subst e; rw [Map.put_same] at hr
      rcases hm with rfl | ⟨_, _, _, _, rfl, _⟩ <;> cases hr
    · rw [Map.put_other _ _ e] at hr
      have hl' : β < H.length := by simp at hl; omega
      rw [List.getElem?_append_left hl']; exact h.dead β hl' hr
  none_ β hl hr := by
    by_cases e : β = H.length
    · subst e; rw [Map.put_same] at hr
      rcases hx.1 hr with ⟨K, t, rfl⟩ | ⟨t, z, rfl⟩
      · exact .inl ⟨K, t, by simp⟩
      · exact .inr ⟨t, z, by simp⟩
    · rw [Map.put_other _ _ e] at hr
      have hl' : β < H.length := by simp at hl; omega
      rw [List.getElem?_append_left hl']; exact h.none_ β hl' hr
  at_ β hl b o n' sz' hr := by
    by_cases e : β = H.length
    · subst e; rw [Map.put_same] at hr
      exact ⟨x, by simp, hx.2 _ _ _ _ hr⟩
    · rw [Map.put_other _ _ e] at hr
      have hl' : β < H.length := by simp at hl; omega
      obtain ⟨y, h1, h2⟩ := h.at_ β hl' b o n' sz' hr
      exact ⟨y, by rw [List.getElem?_append_left hl']; exact h1, hk β hl' _ _ _ _ hr y h1 h2⟩
  inj β γ b o n1 sz1 o' n2 sz2 h1 h2 := by
    by_cases e : β = H.length <;> by_cases e2 : γ = H.length
    · omega
    · subst e; rw [Map.put_same] at h1; rw [Map.put_other _ _ e2] at h2
      rcases hm with rfl | ⟨b', _, _, _, rfl, _, _, hn⟩
      · cases h1
      · injection h1 with h1; subst h1; exact absurd h2 (hn _ _ _ _)
    · subst e2; rw [Map.put_same] at h2; rw [Map.put_other _ _ e] at h1
      rcases hm with rfl | ⟨b', _, _, _, rfl, _, _, hn⟩
      · cases h2
      · injection h2 with h2; subst h2; exact absurd h1 (hn _ _ _ _)
    · rw [Map.put_other _ _ e] at h1; rw [Map.put_other _ _ e2] at h2
      exact h.inj _ _ _ _ _ _ _ _ _ h1 h2
  lt β b o n' sz' hr := by
    by_cases e : β = H.length
    · subst e; rw [Map.put_same] at hr
      rcases hm with rfl | ⟨b', _, _, _, rfl, hb, _⟩
      · cases hr
      · injection hr with h1; omega
    · rw [Map.put_other _ _ e] at hr; exact h.lt _ _ _ _ _ hr
  resl := h.resl
  resf β b o n' sz' hr hb := by
    by_cases e : β = H.length
    · subst e; rw [Map.put_same] at hr
      rcases hm with rfl | ⟨b', _, _, _, rfl, _, hb', _⟩
      · cases hr
      · injection hr with h1; subst h1; exact hb' hb
    · rw [Map.put_other _ _ e] at hr; exact h.resf _ _ _ _ _ hr hb

/-- A write into a block. -/
theorem HRel.setRow {ρ : Map} {H : Heap} {w : World} (h : HRel ρ H w) {β b o n sz : Nat} {C C' : Array Value} {t : TypeId} {x : Blk} (hl : β < H.length) (hr : ρ β = .at b o n sz)
    (hb : w.heap[b]? = some (.cells C t (0, 0))) (hs : C'.size = C.size) (hx : BRel ρ (w.setRow b C') b o n sz x) : HRel ρ (H.set β x) (w.setRow b C') where
  dead γ hl' hr' := by
    have e : β ≠ γ := by rintro rfl; rw [hr] at hr'; cases hr'
    simp at hl'
    rw [List.getElem?_set_ne e]; exact h.dead γ hl' hr'
  none_ γ hl' hr' := by
    have e : β ≠ γ := by rintro rfl; rw [hr] at hr'; cases hr'
    simp at hl'
    rw [List.getElem?_set_ne e]; exact h.none_ γ hl' hr'
  at_ γ hl' b' o' n' sz' hr' := by
    simp at hl'
    by_cases e : β = γ
    · subst e
      rw [hr] at hr'; injection hr' with h1 h2 h3 h4
      subst h1; subst h2; subst h3; subst h4
      exact ⟨x, by simp [hl], hx⟩
    · obtain ⟨y, h1, h2⟩ := h.at_ γ hl' _ _ _ _ hr'
      refine ⟨y, by rw [List.getElem?_set_ne e]; exact h1, h2.keep (Step.setRow hr hb hs) ?_⟩
      have : b ≠ b' := by rintro rfl; exact e (h.inj _ _ _ _ _ _ _ _ _ hr hr')
      simp only [World.setRow]
      rw [Array.getElem?_modify, if_neg this]
  inj := h.inj
  lt γ b' o' n' sz' hr' := by have := h.lt _ _ _ _ _ hr'; simpa [World.setRow] using this
  resl b' hb' := by have := h.resl b' hb'; simpa [World.setRow] using this
  resf := h.resf

theorem kill_reborn {ρ : Map} {rs : List Nat} {β : Nat} (h : ρ β = .unborn) : (ρ.kill rs) β = .unborn := by
  simp only [Map.kill]; rw [if_neg (by simp [h, Img.born])]; exact h

end Go.Proofs.Ytjnkefbdpcbkmaa.Den
