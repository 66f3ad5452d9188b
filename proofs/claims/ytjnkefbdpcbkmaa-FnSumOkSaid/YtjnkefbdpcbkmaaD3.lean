/- Reading and writing data: how kinds, cells and blocks stand to the world. -/
import Derived.Test.YtjnkefbdpcbkmaaD2
import Derived.Laws.Append
import Derived.Laws.CopyRow
import Derived.Laws.MakeOwn
namespace Go.Proofs.Ytjnkefbdpcbkmaa.Den
open Go Go.RowKit
set_option linter.unusedVariables false
set_option linter.unusedSimpArgs false

theorem Tm.get_cons (m : Nat) (v : SV) (r : Env) (n : Nat) : Tm.get ((m, v) :: r) n = if m = n then v else Tm.get r n := by
  simp only [Tm.get]
  by_cases h : m = n
  · subst h; simp
  · rw [if_neg h, show Nat.beq m n = false from by rw [← Bool.not_eq_true, Nat.beq_eq]; exact h]; rfl

theorem VRels.single {ρ : Map} {w : World} {s : SV} {u : Value} (h : VRel ρ w s u) : VRels ρ w [s] [u] := by
  simp only [VRels]; exact ⟨u, [], rfl, h, rfl⟩
theorem VRels.single' {ρ : Map} {w : World} {s : SV} {us : List Value} (h : VRels ρ w [s] us) : ∃ u, us = [u] ∧ VRel ρ w s u := by
  simp only [VRels] at h
  obtain ⟨u, us', rfl, h1, rfl⟩ := h
  exact ⟨u, rfl, h1⟩

theorem VRels.split {ρ : Map} {w : World} : ∀ {n : Nat} {cs : List SV} {vs : List Value}, VRels ρ w cs vs → VRels ρ w (cs.take n) (vs.take n) ∧ VRels ρ w (cs.drop n) (vs.drop n)
  | 0, _, _, h => by simpa [VRels] using h
  | n + 1, [], vs, h => by simp only [VRels] at h; subst h; simp [VRels]
  | n + 1, c :: cs, vs, h => by
    simp only [VRels] at h
    obtain ⟨u, us, rfl, h1, h2⟩ := h
    have := VRels.split (n := n) h2
    simp only [List.take_succ_cons, List.drop_succ_cons, VRels]
    exact ⟨⟨u, _, rfl, h1, this.1⟩, this.2⟩

/-- Encoded data lies as it reads. -/
theorem enc_rel {ρ : Map} {w : World} : ∀ {K : Kd} {x : K.T} {vs : List Value}, CRel w (Free ρ w) K x vs → VRels ρ w (enc K x) vs
  | .int _, _, _, h => by simp only [CRel] at h; subst h; exact VRels.single (by simp [VRel])
  | .bool, _, _, h => by simp only [CRel] at h; subst h; exact VRels.single (by simp [VRel])
  | .unit, _, _, h => by simp only [CRel] at h; subst h; simp [enc, VRels]
  | .pair a b, x, _, h => by
    simp only [CRel] at h
    obtain ⟨c1, c2, rfl, h1, h2⟩ := h
    exact VRels.append (enc_rel h1) (enc_rel h2)
  | .list e, xs, _, h => by
    have h' := h
    simp only [CRel] at h'
    obtain ⟨a, c, rfl, _⟩ := h'
    exact VRels.single (by simpa [VRel] using h)

theorem enc_length : ∀ {K : Kd} (x : K.T), (enc K x).length = K.sz
  | .int _, _ => rfl
  | .bool, _ => rfl
  | .unit, _ => rfl
  | .pair a b, x => by simp [enc, Kd.sz, enc_length x.1, enc_length x.2]
  | .list e, _ => rfl

theorem enc_oneB : ∀ {K : Kd} (x : K.T), (enc K x).all SV.oneB = true
  | .int _, _ => rfl
  | .bool, _ => rfl
  | .unit, _ => rfl
  | .pair a b, x => by simp only [enc, List.all_append, enc_oneB x.1, enc_oneB x.2]; rfl
  | .list e, _ => rfl

theorem crel_one {w : World} {B : Nat → Prop} : ∀ {K : Kd} {x : K.T} {vs : List Value}, CRel w B K x vs → ∀ u ∈ vs, u.oneCell' = true
  | .int _, _, _, h => by simp only [CRel] at h; subst h; simp [Value.oneCell']
  | .bool, _, _, h => by simp only [CRel] at h; subst h; simp [Value.oneCell']
  | .unit, _, _, h => by simp only [CRel] at h; subst h; simp
  | .pair a b, x, _, h => by
    simp only [CRel] at h
    obtain ⟨c1, c2, rfl, h1, h2⟩ := h
    intro u hu
    rcases List.mem_append.1 hu with h3 | h3
    · exact crel_one h1 u h3
    · exact crel_one h2 u h3
  | .list e, xs, _, h => by
    simp only [CRel] at h
    obtain ⟨a, c, rfl, _⟩ := h
    simp [Value.oneCell']

/-- What the real value of a one-cell thing is: never a struct. -/
theorem one_of_rel {ρ : Map} {w : World} : ∀ {s : SV} {u : Value}, VRel ρ w s u → s.oneB = true → u.oneCell' = true
  | s, u, h, h1 => by
    cases s <;> simp only [SV.oneB, Bool.false_eq_true] at h1 <;> simp only [VRel] at h
    case int => subst h; rfl
    case bool => subst h; rfl
    case nilp => subst h; rfl
    case ptr b o => rcases hr : ρ b with _ | _ | _ | ⟨_, _, _, _⟩ <;> rw [hr] at h <;> simp only at h <;> first | (obtain ⟨_, rfl⟩ := h; rfl) | (subst h; rfl)
    case aptr b i j => rcases hr : ρ b with _ | _ | _ | ⟨_, _, _, _⟩ <;> rw [hr] at h <;> simp only at h <;> first | (obtain ⟨_, rfl⟩ := h; rfl) | (subst h; rfl)
    case eptr => obtain ⟨_, _, rfl, _⟩ := h; rfl
    case nils => obtain ⟨_, rfl⟩ := h; rfl
    case own b => rcases hr : ρ b with _ | _ | _ | ⟨_, _, _, _⟩ <;> rw [hr] at h <;> simp only at h <;> first | (obtain ⟨_, rfl⟩ := h; rfl) | (obtain ⟨_, _, _, rfl⟩ := h; rfl) | (obtain ⟨_, _, rfl, _⟩ := h; rfl)
    case sub b o l => rcases hr : ρ b with _ | _ | _ | ⟨_, _, _, _⟩ <;> rw [hr] at h <;> simp only at h <;> first | (obtain ⟨_, _, rfl⟩ := h; rfl) | (obtain ⟨_, _, _, rfl⟩ := h; rfl) | (obtain ⟨_, _, _, rfl, _⟩ := h; rfl)
    case es => simp only [CRel] at h; obtain ⟨_, _, e, _⟩ := h; simp at e; subst e; rfl
    case fn => obtain ⟨_, _, rfl, _⟩ := h; rfl
    case nilf => subst h; rfl
    case iface => obtain ⟨_, rfl, _⟩ := h; rfl
    case nili => subst h; rfl

theorem setCells_length {cs vs : List SV} {off : Nat} (h : off + vs.length ≤ cs.length) : (setCells cs off vs).length = cs.length := by
  simp [setCells]; omega

theorem setCells_get {cs vs : List SV} {off : Nat} (h : off + vs.length ≤ cs.length) (j : Nat) :
    (setCells cs off vs)[j]? = if off ≤ j ∧ j < off + vs.length then vs[j - off]? else cs[j]? := by
  unfold setCells
  rw [List.getElem?_append, List.length_take, Nat.min_eq_left (by omega)]
  by_cases h1 : j < off
  · rw [if_pos h1, if_neg (by omega), List.getElem?_take, if_pos h1]
  · rw [if_neg h1, List.getElem?_append]
    by_cases h2 : j - off < vs.length
    · rw [if_pos h2, if_pos (by omega)]
    · rw [if_neg h2, if_neg (by omega), List.getElem?_drop]
      congr 1; omega

theorem cast_crel {w : World} {B : Nat → Prop} {e e' : Kd} (h : e' = e) {xs : List e'.T} {vs : List Value} (hc : CRel w B (.list e') xs vs) : CRel w B (.list e) (h ▸ xs) vs := by
  subst h; exact hc

theorem refsL_append : ∀ (a b : List SV), SV.refsL (a ++ b) = SV.refsL a ++ SV.refsL b
  | [], b => by simp [SV.refsL]
  | c :: a, b => by simp [SV.refsL, refsL_append a b]

theorem decRows_rel {ρ : Map} {w : World} {B : Nat → Prop} {K : Kd} {f : List SV → Option K.T} (hf : ∀ cs x vs, f cs = some x → VRels ρ w cs vs → CRel w B K x vs) (sz : Nat) :
    ∀ (n : Nat) (cs : List SV) (xs : List K.T) (vs : List Value), decRows f sz n cs = some xs → VRels ρ w cs vs →
      xs.length = n ∧ ∀ (i : Nat) (x : K.T), xs[i]? = some x → CRel w B K x ((vs.drop (i * sz)).take sz)
  | 0, cs, xs, vs, h, hv => by
    cases cs <;> simp [decRows] at h
    subst h; simp
  | n + 1, cs, xs, vs, h, hv => by
    simp only [decRows] at h
    split at h
    · rename_i x r h1 h2
      simp at h; subst h
      have hs := hv.split (n := sz)
      have ih := decRows_rel hf sz n _ _ _ h2 hs.2
      refine ⟨by simp [ih.1], fun i y hy => ?_⟩
      cases i with
      | zero => simp at hy; subst hy; simpa using hf _ _ _ h1 hs.1
      | succ i =>
        simp at hy
        have := ih.2 i y hy
        rw [List.drop_drop] at this
        rw [Nat.add_mul, Nat.one_mul, Nat.add_comm]; exact this
    · simp at h

theorem cell_of_heap {w : World} {b : Nat} {C : Array Value} {t : TypeId} {fr : Nat × Nat} (h : w.heap[b]? = some (.cells C t fr)) (o : Nat) : w.cell? ⟨b, o, none⟩ = C[o]? := by
  simp [World.cell?, h]

theorem add_plain (b o k : Nat) : (⟨b, o, none⟩ : Addr).add k = ⟨b, o + k, none⟩ := by
  unfold Addr.add; split <;> simp_all

/-- Decoding without a heap: what it leads to is nobody's. -/
theorem decC_rel {ρ : Map} {w : World} {dp : Bool} : ∀ {K : Kd} {cs : List SV} {x : K.T} {vs : List Value}, decH dp [] K cs = some x → VRels ρ w cs vs → CRel w (Free ρ w) K x vs
  | .int k, cs, x, vs, h, hv => by
    unfold decH at h
    split at h
    · split at h
      · rename_i n hk; subst hk; simp at h; subst h
        obtain ⟨u, rfl, hu⟩ := hv.single'
        simp [VRel] at hu; subst hu; rfl
      · simp at h
    · simp at h
  | .bool, cs, x, vs, h, hv => by
    unfold decH at h
    split at h
    · simp at h; subst h
      obtain ⟨u, rfl, hu⟩ := hv.single'
      simp [VRel] at hu; subst hu; rfl
    · simp at h
  | .unit, cs, x, vs, h, hv => by
    unfold decH at h
    split at h
    · simp only [VRels] at hv; subst hv; rfl
    · simp at h
  | .pair a b, cs, x, vs, h, hv => by
    unfold decH at h
    split at h
    · rename_i y z h1 h2
      simp at h; subst h
      have hs := hv.split (n := a.sz)
      exact ⟨_, _, (List.take_append_drop a.sz vs).symm, decC_rel h1 hs.1, decC_rel h2 hs.2⟩
    · simp at h
  | .list e, cs, x, vs, h, hv => by
    unfold decH at h
    split at h
    · split at h
      · rename_i e' xs he
        simp at h; subst h
        obtain ⟨u, rfl, hu⟩ := hv.single'
        exact cast_crel he (by simpa [VRel] using hu)
      · simp at h
    · simp at h; subst h
      obtain ⟨u, rfl, hu⟩ := hv.single'
      simp only [VRel] at hu
      obtain ⟨a, rfl⟩ := hu
      exact ⟨a, 0, rfl, Nat.le_refl _, fun h => absurd h (by simp)⟩
    · simp at h
    · simp at h
    · simp at h

/-- Decoding over a heap. -/
theorem decH_rel {ρ : Map} {H : Heap} {w : World} {dp : Bool} {B : Nat → Prop} (hH : HRel ρ H w) (hF : ∀ b, Free ρ w b → B b) :
    ∀ {K : Kd} {cs : List SV} {x : K.T} {vs : List Value}, (∀ γ b o n sz, (dp = true ∨ γ ∈ SV.refsL cs) → ρ γ = .at b o n sz → B b) →
      decH dp H K cs = some x → VRels ρ w cs vs → CRel w B K x vs
  | .int k, cs, x, vs, _, h, hv => by
    have : decH dp [] (.int k) cs = some x := by unfold decH at h ⊢; exact h
    exact CRel.mono hF (fun _ _ => rfl) (decC_rel this hv)
  | .bool, cs, x, vs, _, h, hv => by
    have : decH dp [] .bool cs = some x := by unfold decH at h ⊢; exact h
    exact CRel.mono hF (fun _ _ => rfl) (decC_rel this hv)
  | .unit, cs, x, vs, _, h, hv => by
    have : decH dp [] .unit cs = some x := by unfold decH at h ⊢; exact h
    exact CRel.mono hF (fun _ _ => rfl) (decC_rel this hv)
  | .pair a b, cs, x, vs, hR, h, hv => by
    unfold decH at h
    split at h
    · rename_i y z h1 h2
      simp at h; subst h
      have hs := hv.split (n := a.sz)
      have hr : SV.refsL cs = SV.refsL (cs.take a.sz) ++ SV.refsL (cs.drop a.sz) := by
        rw [← refsL_append, List.take_append_drop]
      refine ⟨_, _, (List.take_append_drop a.sz vs).symm, decH_rel hH hF (fun γ b o n sz hd => hR γ b o n sz (hd.imp id fun hm => ?_)) h1 hs.1, decH_rel hH hF (fun γ b o n sz hd => hR γ b o n sz (hd.imp id fun hm => ?_)) h2 hs.2⟩
      · rw [hr]; exact List.mem_append.2 (.inl hm)
      · rw [hr]; exact List.mem_append.2 (.inr hm)
    · simp at h
  | .list e, cs, x, vs, hR, h, hv => by
    unfold decH at h
    split at h
    · rename_i e' xs
      have : decH dp [] (.list e) [.es e' xs] = some x := by unfold decH; exact h
      exact CRel.mono hF (fun _ _ => rfl) (decC_rel this hv)
    · have : decH dp [] (.list e) [.nils] = some x := by unfold decH; exact h
      exact CRel.mono hF (fun _ _ => rfl) (decC_rel this hv)
    · rename_i β
      obtain ⟨u, rfl, hu⟩ := hv.single'
      simp only [VRel] at hu
      split at h
      · rename_i e' xs t hb
        split at h
        · rename_i he
          subst he
          simp at h; subst h
          have hlt : β < H.length := (List.getElem?_eq_some_iff.1 hb).1
          rcases hr : ρ β with _ | _ | _ | ⟨b, o, n, sz⟩ <;> rw [hr] at hu <;> simp only at hu
          · have := hH.dead β hlt hr; rw [hb] at this; simp at this
          · obtain ⟨a, rfl⟩ := hu
            rcases hH.none_ β hlt hr with ⟨K', t', h1⟩ | ⟨t', z', h1⟩
            · rw [hb] at h1
              injection h1 with h1
              injection h1 with h2 h3 h4
              subst h2
              obtain rfl := eq_of_heq h3
              exact ⟨a, 0, rfl, Nat.le_refl _, fun h => absurd h (by simp)⟩
            · rw [hb] at h1; simp at h1
          · obtain ⟨c, hc, rfl, hroom⟩ := hu
            obtain ⟨x, h1, h2⟩ := hH.at_ β hlt _ _ _ _ hr
            rw [hb] at h1; simp at h1; subst h1
            simp only [BRel] at h2
            obtain ⟨rfl, rfl, C, tC, hC, hsz, hrow⟩ := h2
            refine ⟨some ⟨b, o, none⟩, c, rfl, hc, fun _ => ⟨⟨b, o, none⟩, rfl, hR β b o _ _ (.inr (by simp [SV.refsL, SV.refs])) hr, fun i y hy => ?_⟩⟩
            obtain ⟨es, h3, h4⟩ := hrow i y hy
            refine ⟨es, CRel.mono hF (fun _ _ => rfl) h3, fun j u hu => ?_⟩
            rw [add_plain, cell_of_heap hC, ← Nat.add_assoc]
            exact h4 j u hu
        · simp at h
      · rename_i ds t z hb
        split at h
        · rename_i hz
          have hlt : β < H.length := (List.getElem?_eq_some_iff.1 hb).1
          rcases hr : ρ β with _ | _ | _ | ⟨b, o, n, sz⟩ <;> rw [hr] at hu <;> simp only at hu
          · have := hH.dead β hlt hr; rw [hb] at this; simp at this
          · obtain ⟨a, rfl⟩ := hu
            rcases hH.none_ β hlt hr with ⟨K', t', h1⟩ | ⟨t', z', h1⟩ <;> rw [hb] at h1 <;> simp at h1
            obtain ⟨rfl, _⟩ := h1
            simp [decRows] at h; subst h
            exact ⟨a, 0, rfl, Nat.le_refl _, fun h => absurd h (by simp)⟩
          · obtain ⟨c, hc, rfl, hroom⟩ := hu
            obtain ⟨y, h1, h2⟩ := hH.at_ β hlt _ _ _ _ hr
            rw [hb] at h1; simp at h1; subst h1
            simp only [BRel] at h2
            obtain ⟨rfl, hlen, C, tC, hC, hsz, hcell⟩ := h2
            obtain ⟨rfl, hz0⟩ := hz
            have hvs : VRels ρ w ds ((C.toList.drop o).take ds.length) := by
              refine VRels.of (by simp; omega) fun i s u h1 h2 => ?_
              obtain ⟨u', h3, h4⟩ := hcell i s h1
              have hi : i < ds.length := (List.getElem?_eq_some_iff.1 h1).1
              rw [List.getElem?_take, if_pos hi, List.getElem?_drop] at h2
              rw [← Array.getElem?_toList, h2] at h3
              cases h3; exact h4
            have hf : ∀ cs x vs, decH dp (cond dp H []) e cs = some x → VRels ρ w cs vs → CRel w B e x vs := by
              intro cs x vs h5 h6
              cases dp with
              | true => exact decH_rel hH hF (fun γ b o n sz _ hg => hR γ b o n sz (.inl rfl) hg) h5 h6
              | false => exact CRel.mono hF (fun _ _ => rfl) (decC_rel h5 h6)
            have hrows := decRows_rel hf e.sz _ _ _ _ h hvs
            have hpos : 0 < e.sz := by omega
            have hn : ds.length / e.sz = n := by rw [hlen]; exact Nat.mul_div_cancel _ hpos
            rw [hn] at hrows
            refine ⟨some ⟨b, o, none⟩, c, by rw [hrows.1], by rw [hrows.1]; exact hc, fun _ => ⟨⟨b, o, none⟩, rfl, hR β b o _ _ (.inr (by simp [SV.refsL, SV.refs])) hr, fun i y hy => ?_⟩⟩
            have hi : i < n := by rw [← hrows.1]; exact (List.getElem?_eq_some_iff.1 hy).1
            refine ⟨_, hrows.2 i y hy, fun j u hu => ?_⟩
            have hbnd : (i + 1) * e.sz ≤ n * e.sz := Nat.mul_le_mul_right _ hi
            rw [Nat.add_mul, Nat.one_mul] at hbnd
            rw [List.getElem?_take] at hu
            split at hu
            · rename_i hj
              rw [List.getElem?_drop, List.getElem?_take, if_pos (by omega), List.getElem?_drop, Array.getElem?_toList] at hu
              rw [add_plain, cell_of_heap hC]
              exact hu
            · simp at hu
        · simp at h
      · simp at h
    · rename_i β off len
      obtain ⟨u, rfl, hu⟩ := hv.single'
      simp only [VRel] at hu
      split at h
      · rename_i e' xs t hb
        split at h
        · rename_i he
          subst he
          simp at h; subst h
          have hlt : β < H.length := (List.getElem?_eq_some_iff.1 hb).1
          rcases hr : ρ β with _ | _ | _ | ⟨b, o, n, sz⟩ <;> rw [hr] at hu <;> simp only at hu
          · have := hH.dead β hlt hr; rw [hb] at this; simp at this
          · obtain ⟨rfl, a, rfl⟩ := hu
            exact ⟨a, 0, by simp, by simp, fun h => absurd h (by simp)⟩
          · obtain ⟨hn, a, c, rfl, hc, ha⟩ := hu
            obtain ⟨x, h1, h2⟩ := hH.at_ β hlt _ _ _ _ hr
            rw [hb] at h1; simp at h1; subst h1
            simp only [BRel] at h2
            obtain ⟨rfl, rfl, C, tC, hC, hsz, hrow⟩ := h2
            have hl : ((xs.drop off).take len).length = len := by simp; omega
            refine ⟨a, c, by rw [hl], by rw [hl]; exact hc, fun h0 => ?_⟩
            rcases ha with ⟨h3, _⟩ | ⟨rfl, _⟩
            · rw [hl] at h0; omega
            · refine ⟨⟨b, o + off * e'.sz, none⟩, rfl, hR β b o _ _ (.inr (by simp [SV.refsL, SV.refs])) hr, fun i y hy => ?_⟩
              rw [List.getElem?_take] at hy
              split at hy
              · rw [List.getElem?_drop] at hy
                obtain ⟨es, h3, h4⟩ := hrow _ y hy
                refine ⟨es, CRel.mono hF (fun _ _ => rfl) h3, fun j u hu => ?_⟩
                rw [add_plain, cell_of_heap hC]
                have := h4 j u hu
                rw [← this]; congr 1; rw [Nat.add_mul]; omega
              · simp at hy
        · simp at h
      · simp at h
    · simp at h

end Go.Proofs.Ytjnkefbdpcbkmaa.Den
