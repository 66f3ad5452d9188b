/- Part 1 of the texts behind the row. -/
import Derived.Test.YtmkekjmckdkcnaaAEN0
import Derived.Laws.Append
import Derived.Laws.CopyRow
import Derived.Laws.MakeOwn
set_option linter.unusedVariables false
set_option linter.unusedSimpArgs false
namespace Go.Proofs.Ytmkekjmckdkcnaa.Den
open Go Go.RowKit
theorem Tm.get_cons (m : Nat) (v : SV) (r : Env) (n : Nat) : Tm.get ((m, v) :: r) n = if m = n then v else Tm.get r n := by
  simp only [Tm.get]
  by_cases h : m = n
  · subst h; simp
  · rw [if_neg h, show Nat.beq m n = false from by rw [← Bool.not_eq_true, Nat.beq_eq]; exact h]; rfl
theorem VRels.single {ρ : Map} {w : World} {s : SV} {u : Value} (h : VRel ρ w s u) : VRels ρ w [s] [u] := by
  simp only [VRels]; exact ⟨u, [], rfl, h, rfl⟩
theorem VRels.single' {ρ : Map} {w : World} {s : SV} {us : List Value} (h : VRels ρ w [s] us) : ∃ u, us = [u] ∧ VRel ρ w s u := by
  simp only [VRels] at h
  obtain ⟨u, us', rfl, h1, rfl⟩ := h
  exact ⟨u, rfl, h1⟩
theorem VRels.split {ρ : Map} {w : World} : ∀ {n : Nat} {cs : List SV} {vs : List Value}, VRels ρ w cs vs → VRels ρ w (cs.take n) (vs.take n) ∧ VRels ρ w (cs.drop n) (vs.drop n)
  | 0, _, _, h => by simpa [VRels] using h
  | n + 1, [], vs, h => by simp only [VRels] at h; subst h; simp [VRels]
  | n + 1, c :: cs, vs, h => by
    simp only [VRels] at h
    obtain ⟨u, us, rfl, h1, h2⟩ := h
    have := VRels.split (n := n) h2
    simp only [List.take_succ_cons, List.drop_succ_cons, VRels]
    exact ⟨⟨u, _, rfl, h1, this.1⟩, this.2⟩
theorem enc_rel {ρ : Map} {w : World} : ∀ {K : Kd} {x : K.T} {vs : List Value}, CRel w (Free ρ w) K x vs → VRels ρ w (enc K x) vs
  | .int _, _, _, h => by simp only [CRel] at h; subst h; exact VRels.single (by simp [VRel])
  | .bool, _, _, h => by simp only [CRel] at h; subst h; exact VRels.single (by simp [VRel])
  | .unit, _, _, h => by simp only [CRel] at h; subst h; simp [enc, VRels]
  | .pair a b, x, _, h => by
    simp only [CRel] at h
    obtain ⟨c1, c2, rfl, h1, h2⟩ := h
    exact VRels.append (enc_rel h1) (enc_rel h2)
  | .list e, xs, _, h => by
    have h' := h
    simp only [CRel] at h'
    obtain ⟨a, c, rfl, _⟩ := h'
    exact VRels.single (by simpa [VRel] using h)
theorem zY : ∀ {K : Kd} (x : K.T), (enc K x).length = K.sz
  | .int _, _ => rfl
  | .bool, _ => rfl
  | .unit, _ => rfl
  | .pair a b, x => by simp [enc, Kd.sz, zY x.1, zY x.2]
  | .list e, _ => rfl
theorem zgK {w : World} {B : Nat → Prop} : ∀ {K : Kd} {x : K.T} {vs : List Value}, CRel w B K x vs → ∀ u ∈ vs, u.oneCell' = true
  | .int _, _, _, h => by simp only [CRel] at h; subst h; simp [Value.oneCell']
  | .bool, _, _, h => by simp only [CRel] at h; subst h; simp [Value.oneCell']
  | .unit, _, _, h => by simp only [CRel] at h; subst h; simp
  | .pair a b, x, _, h => by
    simp only [CRel] at h
    obtain ⟨c1, c2, rfl, h1, h2⟩ := h
    intro u hu
    rcases List.mem_append.1 hu with h3 | h3
    · exact zgK h1 u h3
    · exact zgK h2 u h3
  | .list e, xs, _, h => by
    simp only [CRel] at h
    obtain ⟨a, c, rfl, _⟩ := h
    simp [Value.oneCell']
theorem zlD {ρ : Map} {w : World} : ∀ {s : SV} {u : Value}, VRel ρ w s u → s.oneB = true → u.oneCell' = true
  | s, u, h, h1 => by
    cases s <;> simp only [SV.oneB, Bool.false_eq_true] at h1 <;> simp only [VRel] at h
    case int => subst h; rfl
    case bool => subst h; rfl
    case nilp => subst h; rfl
    case ptr b o => rcases hr : ρ b with _ | _ | _ | ⟨_, _, _, _⟩ <;> rw [hr] at h <;> simp only at h <;> first | (obtain ⟨_, rfl⟩ := h; rfl) | (subst h; rfl)
    case aptr b i j => rcases hr : ρ b with _ | _ | _ | ⟨_, _, _, _⟩ <;> rw [hr] at h <;> simp only at h <;> first | (obtain ⟨_, rfl⟩ := h; rfl) | (subst h; rfl)
    case eptr => obtain ⟨_, _, rfl, _⟩ := h; rfl
    case nils => obtain ⟨_, rfl⟩ := h; rfl
    case own b => rcases hr : ρ b with _ | _ | _ | ⟨_, _, _, _⟩ <;> rw [hr] at h <;> simp only at h <;> first | (obtain ⟨_, rfl⟩ := h; rfl) | (obtain ⟨_, _, _, rfl⟩ := h; rfl) | (obtain ⟨_, _, rfl, _⟩ := h; rfl)
    case sub b o l => rcases hr : ρ b with _ | _ | _ | ⟨_, _, _, _⟩ <;> rw [hr] at h <;> simp only at h <;> first | (obtain ⟨_, _, rfl⟩ := h; rfl) | (obtain ⟨_, _, _, rfl⟩ := h; rfl) | (obtain ⟨_, _, _, rfl, _⟩ := h; rfl)
    case es => simp only [CRel] at h; obtain ⟨_, _, e, _⟩ := h; simp at e; subst e; rfl
    case fn => obtain ⟨_, _, rfl, _⟩ := h; rfl
    case nilf => subst h; rfl
    case iface => obtain ⟨_, rfl, _⟩ := h; rfl
    case nili => subst h; rfl
    case mapp b => rcases hr : ρ b with _ | _ | _ | ⟨_, _, _, _⟩ <;> rw [hr] at h <;> simp only at h <;> first | (obtain ⟨_, rfl⟩ := h; rfl) | (subst h; rfl)
    case nilm => subst h; rfl
theorem zlE {cs vs : List SV} {off : Nat} (h : off + vs.length ≤ cs.length) : (setCells cs off vs).length = cs.length := by
  simp [setCells]; omega
theorem zrj {cs vs : List SV} {off : Nat} (h : off + vs.length ≤ cs.length) (j : Nat) :
    (setCells cs off vs)[j]? = if off ≤ j ∧ j < off + vs.length then vs[j - off]? else cs[j]? := by
  unfold setCells
  rw [List.getElem?_append, List.length_take, Nat.min_eq_left (by omega)]
  by_cases h1 : j < off
  · rw [if_pos h1, if_neg (by omega), List.getElem?_take, if_pos h1]
  · rw [if_neg h1, List.getElem?_append]
    by_cases h2 : j - off < vs.length
    · rw [if_pos h2, if_pos (by omega)]
    · rw [if_neg h2, if_neg (by omega), List.getElem?_drop]
      congr 1; omega
theorem zrk {w : World} {B : Nat → Prop} {e e' : Kd} (h : e' = e) {xs : List e'.T} {vs : List Value} (hc : CRel w B (.list e') xs vs) : CRel w B (.list e) (h ▸ xs) vs := by
  subst h; exact hc
theorem zZ : ∀ (a b : List SV), SV.refsL (a ++ b) = SV.refsL a ++ SV.refsL b
  | [], b => by simp [SV.refsL]
  | c :: a, b => by simp [SV.refsL, zZ a b]
theorem zaB {ρ : Map} {w : World} {B : Nat → Prop} {K : Kd} {f : List SV → Option K.T} (hf : ∀ cs x vs, f cs = some x → VRels ρ w cs vs → CRel w B K x vs) (sz : Nat) :
    ∀ (n : Nat) (cs : List SV) (xs : List K.T) (vs : List Value), decRows f sz n cs = some xs → VRels ρ w cs vs →
      xs.length = n ∧ ∀ (i : Nat) (x : K.T), xs[i]? = some x → CRel w B K x ((vs.drop (i * sz)).take sz)
  | 0, cs, xs, vs, h, hv => by
    cases cs <;> simp [decRows] at h
    subst h; simp
  | n + 1, cs, xs, vs, h, hv => by
    simp only [decRows] at h
    split at h
    · rename_i x r h1 h2
      simp at h; subst h
      have hs := hv.split (n := sz)
      have ih := zaB hf sz n _ _ _ h2 hs.2
      refine ⟨by simp [ih.1], fun i y hy => ?_⟩
      cases i with
      | zero => simp at hy; subst hy; simpa using hf _ _ _ h1 hs.1
      | succ i =>
        simp at hy
        have := ih.2 i y hy
        rw [List.drop_drop] at this
        rw [Nat.add_mul, Nat.one_mul, Nat.add_comm]; exact this
    · simp at h
theorem zl {w : World} {b : Nat} {C : Array Value} {t : TypeId} {fr : Nat × Nat} (h : w.heap[b]? = some (.cells C t fr)) (o : Nat) : w.cell? ⟨b, o, none⟩ = C[o]? := by
  simp [World.cell?, h]
theorem zb (b o k : Nat) : (⟨b, o, none⟩ : Addr).add k = ⟨b, o + k, none⟩ := by
  unfold Addr.add; split <;> simp_all
theorem zp {ρ : Map} {w : World} {dp : Bool} : ∀ {K : Kd} {cs : List SV} {x : K.T} {vs : List Value}, decH dp [] K cs = some x → VRels ρ w cs vs → CRel w (Free ρ w) K x vs
  | .int k, cs, x, vs, h, hv => by
    unfold decH at h
    split at h
    · split at h
      · rename_i n hk; subst hk; simp at h; subst h
        obtain ⟨u, rfl, hu⟩ := hv.single'
        simp [VRel] at hu; subst hu; rfl
      · simp at h
    · simp at h
  | .bool, cs, x, vs, h, hv => by
    unfold decH at h
    split at h
    · simp at h; subst h
      obtain ⟨u, rfl, hu⟩ := hv.single'
      simp [VRel] at hu; subst hu; rfl
    · simp at h
  | .unit, cs, x, vs, h, hv => by
    unfold decH at h
    split at h
    · simp only [VRels] at hv; subst hv; rfl
    · simp at h
  | .pair a b, cs, x, vs, h, hv => by
    unfold decH at h
    split at h
    · rename_i y z h1 h2
      simp at h; subst h
      have hs := hv.split (n := a.sz)
      exact ⟨_, _, (List.take_append_drop a.sz vs).symm, zp h1 hs.1, zp h2 hs.2⟩
    · simp at h
  | .list e, cs, x, vs, h, hv => by
    unfold decH at h
    split at h
    · split at h
      · rename_i e' xs he
        simp at h; subst h
        obtain ⟨u, rfl, hu⟩ := hv.single'
        exact zrk he (by simpa [VRel] using hu)
      · simp at h
    · simp at h; subst h
      obtain ⟨u, rfl, hu⟩ := hv.single'
      simp only [VRel] at hu
      obtain ⟨a, rfl⟩ := hu
      exact ⟨a, 0, rfl, Nat.le_refl _, fun h => absurd h (by simp)⟩
    · simp at h
    · simp at h
    · simp at h
theorem TreeC.crel {w : World} {B : Nat → Prop} : ∀ {K : Kd} {x : K.T} {cs : List Value} {tk : List Nat}, TreeC w K x cs tk → (∀ b ∈ tk, B b) → CRel w B K x cs
  | .int k, _, _, _, h, _ => h.1
  | .bool, _, _, _, h, _ => h.1
  | .unit, _, _, _, h, _ => h.1
  | .pair a b, x, cs, tk, h, hb => by
    simp only [TreeC] at h
    obtain ⟨c1, c2, t1, t2, rfl, rfl, h3, h4⟩ := h
    exact ⟨c1, c2, rfl, h3.crel fun b hb' => hb b (List.mem_append.2 (.inl hb')), h4.crel fun b hb' => hb b (List.mem_append.2 (.inr hb'))⟩
  | .list e, xs, cs, tk, h, hb => by
    simp only [TreeC] at h
    rcases h with ⟨a, rfl, rfl, rfl⟩ | ⟨b, o, c, C, tC, us, t', rfl, rfl, h2, h3, h4, h5, h6, h7⟩
    · exact ⟨a, 0, rfl, Nat.le_refl _, fun h => absurd h (by simp)⟩
    · refine ⟨_, c, rfl, h2, fun _ => ⟨⟨b, o, none⟩, rfl, hb b (by simp), fun i y hy => ?_⟩⟩
      obtain ⟨es, t, h8, h9, h10⟩ := h7.get (fun _ _ _ h => h.length) i y hy
      refine ⟨es, h8.crel fun b' hb' => hb b' (by simp [h9 b' hb']), fun j u hu => ?_⟩
      rw [zb, zl h3]
      exact h6 _ _ (h10 j u hu)
theorem zm {ρ : Map} {H : Heap} {w : World} {dp : Bool} {B : Nat → Prop} (hH : HRel ρ H w) (hF : ∀ b, Free ρ w b → B b) (hV : dp = true → ∀ b t, ρ.vl b = some t → B b) :
    ∀ {K : Kd} {cs : List SV} {x : K.T} {vs : List Value}, (∀ γ b o n sz, (dp = true ∨ γ ∈ SV.refsL cs) → ρ γ = .at b o n sz → B b) →
      decH dp H K cs = some x → VRels ρ w cs vs → CRel w B K x vs
  | .int k, cs, x, vs, _, h, hv => by
    have : decH dp [] (.int k) cs = some x := by unfold decH at h ⊢; exact h
    exact CRel.mono hF (fun _ _ => rfl) (zp this hv)
  | .bool, cs, x, vs, _, h, hv => by
    have : decH dp [] .bool cs = some x := by unfold decH at h ⊢; exact h
    exact CRel.mono hF (fun _ _ => rfl) (zp this hv)
  | .unit, cs, x, vs, _, h, hv => by
    have : decH dp [] .unit cs = some x := by unfold decH at h ⊢; exact h
    exact CRel.mono hF (fun _ _ => rfl) (zp this hv)
  | .pair a b, cs, x, vs, hR, h, hv => by
    unfold decH at h
    split at h
    · rename_i y z h1 h2
      simp at h; subst h
      have hs := hv.split (n := a.sz)
      have hr : SV.refsL cs = SV.refsL (cs.take a.sz) ++ SV.refsL (cs.drop a.sz) := by
        rw [← zZ, List.take_append_drop]
      refine ⟨_, _, (List.take_append_drop a.sz vs).symm, zm hH hF hV (fun γ b o n sz hd => hR γ b o n sz (hd.imp id fun hm => ?_)) h1 hs.1, zm hH hF hV (fun γ b o n sz hd => hR γ b o n sz (hd.imp id fun hm => ?_)) h2 hs.2⟩
      · rw [hr]; exact List.mem_append.2 (.inl hm)
      · rw [hr]; exact List.mem_append.2 (.inr hm)
    · simp at h
  | .list e, cs, x, vs, hR, h, hv => by
    unfold decH at h
    split at h
    · rename_i e' xs
      have : decH dp [] (.list e) [.es e' xs] = some x := by unfold decH; exact h
      exact CRel.mono hF (fun _ _ => rfl) (zp this hv)
    · have : decH dp [] (.list e) [.nils] = some x := by unfold decH; exact h
      exact CRel.mono hF (fun _ _ => rfl) (zp this hv)
    · rename_i β
      obtain ⟨u, rfl, hu⟩ := hv.single'
      simp only [VRel] at hu
      split at h
      · rename_i e' xs t hb
        split at h
        · rename_i he
          subst he
          simp at h; subst h
          have hlt : β < H.length := (List.getElem?_eq_some_iff.1 hb).1
          rcases hr : ρ β with _ | _ | _ | ⟨b, o, n, sz⟩ <;> rw [hr] at hu <;> simp only at hu
          · have := hH.dead β hlt hr; rw [hb] at this; simp at this
          · obtain ⟨a, rfl⟩ := hu
            rcases hH.none_ β hlt hr with ⟨K', t', h1⟩ | ⟨t', z', h1⟩ | ⟨e', h1⟩
            · rw [hb] at h1
              injection h1 with h1
              injection h1 with h2 h3 h4
              subst h2
              obtain rfl := eq_of_heq h3
              exact ⟨a, 0, rfl, Nat.le_refl _, fun h => absurd h (by simp)⟩
            · rw [hb] at h1; simp at h1
            · rw [hb] at h1; simp at h1
          · obtain ⟨c, hc, rfl, hroom⟩ := hu
            obtain ⟨x, h1, h2⟩ := hH.at_ β hlt _ _ _ _ hr
            rw [hb] at h1; simp at h1; subst h1
            simp only [BRel] at h2
            obtain ⟨rfl, rfl, C, tC, hC, hsz, hrow⟩ := h2
            refine ⟨some ⟨b, o, none⟩, c, rfl, hc, fun _ => ⟨⟨b, o, none⟩, rfl, hR β b o _ _ (.inr (by simp [SV.refsL, SV.refs])) hr, fun i y hy => ?_⟩⟩
            obtain ⟨es, h3, h4⟩ := hrow i y hy
            refine ⟨es, CRel.mono hF (fun _ _ => rfl) h3, fun j u hu => ?_⟩
            rw [zb, zl hC, ← Nat.add_assoc]
            exact h4 j u hu
        · simp at h
      · rename_i ds t z hb
        split at h
        · rename_i hz
          have hlt : β < H.length := (List.getElem?_eq_some_iff.1 hb).1
          rcases hr : ρ β with _ | _ | _ | ⟨b, o, n, sz⟩ <;> rw [hr] at hu <;> simp only at hu
          · have := hH.dead β hlt hr; rw [hb] at this; simp at this
          · obtain ⟨a, rfl⟩ := hu
            rcases hH.none_ β hlt hr with ⟨K', t', h1⟩ | ⟨t', z', h1⟩ | ⟨e', h1⟩ <;> rw [hb] at h1 <;> simp at h1
            obtain ⟨rfl, _⟩ := h1
            simp [decRows] at h; subst h
            exact ⟨a, 0, rfl, Nat.le_refl _, fun h => absurd h (by simp)⟩
          · obtain ⟨c, hc, rfl, hroom⟩ := hu
            obtain ⟨y, h1, h2⟩ := hH.at_ β hlt _ _ _ _ hr
            rw [hb] at h1; simp at h1; subst h1
            simp only [BRel] at h2
            obtain ⟨rfl, hlen, C, tC, hC, hsz, hcell⟩ := h2
            obtain ⟨rfl, hz0⟩ := hz
            have hvs : VRels ρ w ds ((C.toList.drop o).take ds.length) := by
              refine VRels.of (by simp; omega) fun i s u h1 h2 => ?_
              obtain ⟨u', h3, h4⟩ := hcell i s h1
              have hi : i < ds.length := (List.getElem?_eq_some_iff.1 h1).1
              rw [List.getElem?_take, if_pos hi, List.getElem?_drop] at h2
              rw [← Array.getElem?_toList, h2] at h3
              cases h3; exact h4
            have hf : ∀ cs x vs, decH dp (cond dp H []) e cs = some x → VRels ρ w cs vs → CRel w B e x vs := by
              intro cs x vs h5 h6
              cases dp with
              | true => exact zm hH hF hV (fun γ b o n sz _ hg => hR γ b o n sz (.inl rfl) hg) h5 h6
              | false => exact CRel.mono hF (fun _ _ => rfl) (zp h5 h6)
            have hrows := zaB hf e.sz _ _ _ _ h hvs
            have hpos : 0 < e.sz := by omega
            have hn : ds.length / e.sz = n := by rw [hlen]; exact Nat.mul_div_cancel _ hpos
            rw [hn] at hrows
            refine ⟨some ⟨b, o, none⟩, c, by rw [hrows.1], by rw [hrows.1]; exact hc, fun _ => ⟨⟨b, o, none⟩, rfl, hR β b o _ _ (.inr (by simp [SV.refsL, SV.refs])) hr, fun i y hy => ?_⟩⟩
            have hi : i < n := by rw [← hrows.1]; exact (List.getElem?_eq_some_iff.1 hy).1
            refine ⟨_, hrows.2 i y hy, fun j u hu => ?_⟩
            have hbnd : (i + 1) * e.sz ≤ n * e.sz := Nat.mul_le_mul_right _ hi
            rw [Nat.add_mul, Nat.one_mul] at hbnd
            rw [List.getElem?_take] at hu
            split at hu
            · rename_i hj
              rw [List.getElem?_drop, List.getElem?_take, if_pos (by omega), List.getElem?_drop, Array.getElem?_toList] at hu
              rw [zb, zl hC]
              exact hu
            · simp at hu
        · simp at h
      · rename_i e' xss hb
        split at h
        · rename_i he
          subst he
          split at h
          · rename_i hdp
            simp only [Option.some.injEq] at h
            subst h
            have hlt : β < H.length := (List.getElem?_eq_some_iff.1 hb).1
            rcases hr : ρ β with _ | _ | _ | ⟨b, o, n, sz⟩ <;> rw [hr] at hu <;> simp only at hu
            · have := hH.dead β hlt hr; rw [hb] at this; simp at this
            · obtain ⟨a, rfl⟩ := hu
              rcases hH.none_ β hlt hr with ⟨K', t', h1⟩ | ⟨t', z', h1⟩ | ⟨e2, h1⟩
              · rw [hb] at h1; simp at h1
              · rw [hb] at h1; simp at h1
              · rw [hb] at h1
                injection h1 with h1
                injection h1 with h2 h3
                subst h2
                obtain rfl := eq_of_heq h3
                exact ⟨a, 0, rfl, Nat.le_refl _, fun h => absurd h (by simp)⟩
            · obtain ⟨c, hc, rfl, hroom⟩ := hu
              obtain ⟨y, h1, h2⟩ := hH.at_ β hlt _ _ _ _ hr
              rw [hb] at h1; simp at h1; subst h1
              simp only [BRel] at h2
              obtain ⟨rfl, rfl, C, tC, us, tk, hC, hsz, hul, hus, hown, hnd, hvl⟩ := h2
              refine ⟨some ⟨b, o, none⟩, c, rfl, hc, fun _ => ⟨⟨b, o, none⟩, rfl, hR β b o _ _ (.inr (by simp [SV.refsL, SV.refs])) hr, fun i y hy => ?_⟩⟩
              obtain ⟨es, t, h3, h4, h5⟩ := hown.get (fun _ _ _ h => h.length) i y hy
              refine ⟨es, h3.crel fun b' hb' => hV hdp b' b (hvl b' (h4 b' hb')), fun j v hv => ?_⟩
              rw [zb, zl hC]
              exact hus _ _ (h5 j v hv)
          · simp at h
        · simp at h
      · simp at h
    · rename_i β off len
      obtain ⟨u, rfl, hu⟩ := hv.single'
      simp only [VRel] at hu
      split at h
      · rename_i e' xs t hb
        split at h
        · rename_i he
          subst he
          simp at h; subst h
          have hlt : β < H.length := (List.getElem?_eq_some_iff.1 hb).1
          rcases hr : ρ β with _ | _ | _ | ⟨b, o, n, sz⟩ <;> rw [hr] at hu <;> simp only at hu
          · have := hH.dead β hlt hr; rw [hb] at this; simp at this
          · obtain ⟨rfl, a, rfl⟩ := hu
            exact ⟨a, 0, by simp, by simp, fun h => absurd h (by simp)⟩
          · obtain ⟨hn, a, c, rfl, hc, ha⟩ := hu
            obtain ⟨x, h1, h2⟩ := hH.at_ β hlt _ _ _ _ hr
            rw [hb] at h1; simp at h1; subst h1
            simp only [BRel] at h2
            obtain ⟨rfl, rfl, C, tC, hC, hsz, hrow⟩ := h2
            have hl : ((xs.drop off).take len).length = len := by simp; omega
            refine ⟨a, c, by rw [hl], by rw [hl]; exact hc, fun h0 => ?_⟩
            rcases ha with ⟨h3, _⟩ | ⟨rfl, _⟩
            · rw [hl] at h0; omega
            · refine ⟨⟨b, o + off * e'.sz, none⟩, rfl, hR β b o _ _ (.inr (by simp [SV.refsL, SV.refs])) hr, fun i y hy => ?_⟩
              rw [List.getElem?_take] at hy
              split at hy
              · rw [List.getElem?_drop] at hy
                obtain ⟨es, h3, h4⟩ := hrow _ y hy
                refine ⟨es, CRel.mono hF (fun _ _ => rfl) h3, fun j u hu => ?_⟩
                rw [zb, zl hC]
                have := h4 j u hu
                rw [← this]; congr 1; rw [Nat.add_mul]; omega
              · simp at hy
        · simp at h
      · rename_i ds t z hb
        split at h
        · rename_i hz
          obtain ⟨hdp, hze, hz0, hlen0⟩ := hz
          subst hdp
          have hlt : β < H.length := (List.getElem?_eq_some_iff.1 hb).1
          rcases hr : ρ β with _ | _ | _ | ⟨b, o, n, sz⟩ <;> rw [hr] at hu <;> simp only at hu
          · have := hH.dead β hlt hr; rw [hb] at this; simp at this
          · exact absurd hu.1 hlen0
          · obtain ⟨hn, a, c, rfl, hc, ha⟩ := hu
            obtain ⟨y, h1, h2⟩ := hH.at_ β hlt _ _ _ _ hr
            rw [hb] at h1; simp at h1; subst h1
            simp only [BRel] at h2
            obtain ⟨rfl, hlen, C, tC, hC, hsz, hcell⟩ := h2
            subst hze
            have hmul : (off + len) * e.sz ≤ n * e.sz := Nat.mul_le_mul_right _ hn
            rw [Nat.add_mul] at hmul
            have hvs : VRels ρ w ((ds.drop (off * e.sz)).take (len * e.sz)) ((C.toList.drop (o + off * e.sz)).take (len * e.sz)) := by
              refine VRels.of (by simp; omega) fun i s u h1 h2 => ?_
              rw [List.getElem?_take] at h1 h2
              split at h1
              · rename_i hi
                rw [if_pos hi, List.getElem?_drop, Array.getElem?_toList] at h2
                rw [List.getElem?_drop] at h1
                obtain ⟨u', h3, h4⟩ := hcell _ s h1
                rw [← Nat.add_assoc, h2] at h3
                cases h3; exact h4
              · simp at h1
            have hf : ∀ cs x vs, decH true (cond true H []) e cs = some x → VRels ρ w cs vs → CRel w B e x vs := fun cs x vs h5 h6 => zm hH hF hV (fun γ b o n sz _ hg => hR γ b o n sz (.inl rfl) hg) h5 h6
            have hrows := zaB hf e.sz _ _ _ _ h hvs
            refine ⟨a, c, by rw [hrows.1], by rw [hrows.1]; exact hc, fun _ => ?_⟩
            rcases ha with ⟨h3, _⟩ | ⟨rfl, _⟩
            · exact absurd h3 hlen0
            · refine ⟨⟨b, o + off * e.sz, none⟩, rfl, hR β b o _ _ (.inl rfl) hr, fun i y hy => ?_⟩
              have hi : i < len := by rw [← hrows.1]; exact (List.getElem?_eq_some_iff.1 hy).1
              refine ⟨_, hrows.2 i y hy, fun j u hu => ?_⟩
              have hbnd : (i + 1) * e.sz ≤ len * e.sz := Nat.mul_le_mul_right _ hi
              rw [Nat.add_mul, Nat.one_mul] at hbnd
              rw [List.getElem?_take] at hu
              split at hu
              · rename_i hj
                rw [List.getElem?_drop, List.getElem?_take, if_pos (by omega), List.getElem?_drop, Array.getElem?_toList] at hu
                rw [zb, zl hC]
                exact hu
              · simp at hu
        · simp at h
      · simp at h
    · simp at h
end Go.Proofs.Ytmkekjmckdkcnaa.Den
namespace Go.Proofs.Ytmkekjmckdkcnaa.Den
open Go Go.RowKit
def kdOf (P : Program) : Nat → TypeId → Option Kd
  | 0, _ => none
  | n + 1, t => match P.underlying t with
    | some (.int k) => some (.int k)
    | some .bool => some .bool
    | some (.slice e) => (kdOf P n e).map .list
    | some (.struct fs) => fs.toList.foldr (fun f r => match kdOf P n f.type, r with
      | some a, some b => some (.pair a b)
      | _, _ => none) (some .unit)
    | _ => none
mutual
def svOf : Nat → Value → Option SV
  | 0, _ => none
  | d + 1, v => match v with
    | .int k n => some (.int k n)
    | .bool b => some (.bool b)
    | .pointer none => some .nilp
    | .slice none 0 0 => some .nils
    | .map none => some .nilm
    | .nilFunc => some .nilf
    | .nilIface => some .nili
    | .agg cs => match svsOf d cs.toList with
      | some l => some (.agg l)
      | none => none
    | _ => none
def svsOf : Nat → List Value → Option (List SV)
  | 0, _ => none
  | d + 1, vs => match vs with
    | [] => some []
    | v :: r => match svOf d v, svsOf d r with
      | some x, some y => some (x :: y)
      | _, _ => none
end
def opL : Operand → Option S
  | .tmp t => some (.t t)
  | .const v => (svOf 1000 v).map .c
  | .func f => some (.c (.fn (.func f) [] []))
  | .global _ => none
def opsL : List Operand → Option (List S)
  | [] => some []
  | x :: r => match opL x, opsL r with
    | some a, some b => some (a :: b)
    | _, _ => none
def tinfo (P : Program) (t : TypeId) : Option (Nat × List SV × Nat) :=
  match P.info? t with
  | some i => match i.zero with
    | some z => match svsOf 1000 z.cells.toList with
      | some zs => if zs.length = i.size then some (i.size, zs, i.bytes) else none
      | none => none
    | none => none
  | none => none
def isAggL (P : Program) (t : TypeId) : Option Bool :=
  match P.underlying t with
  | some (.struct _) | some (.array _ _) => some true
  | some _ => some false
  | none => none
def partsL (P : Program) (place : Nat → Option (Nat × Nat)) : List (Nat × Operand) → Option (List (Nat × Nat × S))
  | [] => some []
  | (i, x) :: r => match place i, opL x, partsL P place r with
    | some (o, n), some a, some b => some ((o, n, a) :: b)
    | _, _, _ => none
def placeL (P : Program) (fs : Array Field) (i : Nat) : Option (Nat × Nat) :=
  match fs[i]? with
  | some f => match P.info? f.type with
    | some j => some (f.offset, j.size)
    | none => none
  | none => none
def isZero : Kd → List SV → Bool
  | .int k, cs => match cs with
    | [.int k' 0] => k == k'
    | _ => false
  | .bool, cs => match cs with
    | [.bool false] => true
    | _ => false
  | .unit, cs => match cs with
    | [] => true
    | _ => false
  | .pair a b, cs => isZero a (cs.take a.sz) && isZero b (cs.drop a.sz)
  | .list _, cs => match cs with
    | [.nils] => true
    | _ => false
def eqPlain (P : Program) (t : TypeId) : Option Nat :=
  match P.underlying t with
  | some (.struct fs) =>
    if P.stoodInHeld t = false ∧ P.eqGuardType P.depth t = false ∧ (fs.toList.all fun f => f.name != "_" && (match P.underlying f.type with | some (.int _) => true | _ => false)) = true ∧
      (fs.toList.zipIdx.all fun (f, j) => f.offset == j) = true then some fs.size else none
  | _ => none
def mapPlain (P : Program) (t : TypeId) : Bool :=
  match P.underlying t with
  | some (.map k v) => (match eqPlain P k with
      | some n => Nat.beq n 2
      | none => false) && ((match P.underlying v with
      | some (.int .i64) => true
      | _ => false) && ((match P.info? v with
      | some i => (match i.zero with
        | some (.int .i64 0) => true
        | _ => false)
      | none => false) && (match P.underlying k with
      | some (.struct fs) => (fs.toList.all fun f => (match P.info? f.type with | some i => Nat.beq i.size 1 | none => false))
      | _ => false)))
  | _ => false
def S.isC : S → Bool
  | .c _ => true
  | _ => false
def bslS (K : Option Kd) (frz : Bool) (sz len : Nat) (zs : List SV) (t : TypeId) (ps : List (Nat × S)) : I := match frz with
  | true => match K with
    | some k => cond (ps.all fun p => p.2.isC) (.bse k sz len zs ps) (.bsl (some k) true sz len zs t ps)
    | none => .bsl none true sz len zs t ps
  | false => .bsl K false sz len zs t ps
def ldS (frz : Bool) (n : Nat) (ag : Bool) (a : S) : I := match frz with
  | true => match a with
    | .t s => .ldc n ag s
    | a => .ld n ag a
  | false => .ld n ag a
def lightOp (P : Program) (frz : Bool) (o : Oper) : Option I :=
  match o.op with
  | .move x | .assign x => (opL x).map .mv
  | .pick c a b => match opL c, opL a, opL b with
    | some c, some a, some b => some (.pick c a b)
    | _, _, _ => none
  | .alloc e => match P.underlying e with
    | some (.array n el) => if 16 ≤ n ∨ kdOf P 9 el = some .bool then (match kdOf P 9 el, tinfo P e with
        | some K, some (sz, zs, _) => if sz = n ∧ (K = .int .i64 ∨ K = .bool) ∧ (zs.all (isZero K <| [·])) = true then some (.allocA K n e) else none
        | _, _ => none) else (match tinfo P e with
        | some (_, zs, _) => some (.alloc zs e)
        | none => none)
    | some _ => match tinfo P e with
      | some (_, zs, _) => some (.alloc zs e)
      | none => none
    | none => none
  | .box e x => (opL x).map (.box e)
  | .build t parts => match P.underlying t with
    | some (.struct fs) => match tinfo P t, partsL P (placeL P fs) parts.toList with
      | some (_, zs, _), some ps => if (fs.toList.all fun f => (P.info? f.type).isSome) = true then some (.build zs ps) else none
      | _, _ => none
    | some (.array _ el) => match tinfo P t, P.info? el with
      | some (_, zs, _), some j => (partsL P (fun i => some (i * j.size, j.size)) parts.toList).map (.build zs)
      | _, _ => none
    | _ => none
  | .buildSlice t len parts => match P.underlying t with
    | some (.slice e) => match tinfo P e, opsL (parts.toList.map (·.2)) with
      | some (sz, zs, _), some xs => if len * sz ≤ 16777216 ∧ sz ≠ 0 ∧ len < 65536 then some (bslS (kdOf P 9 e) frz sz len zs e ((parts.toList.map (·.1)).zip xs)) else none
      | _, _ => none
    | _ => none
  | .load t a => match P.info? t, isAggL P t, opL a with
    | some i, some ag, some a => if ag = false → i.size = 1 then some (ldS frz i.size ag a) else none
    | _, _, _ => none
  | .store t a v => match P.info? t, opL a, opL v with
    | some i, some a, some v => some (.st i.size a v)
    | _, _, _ => none
  | .nilCheck x => (opL x).map .nilck
  | .binOp op t x y _ => match P.underlying t, opL x, opL y with
    | some (.int _), some x, some y => some (.bin op x y)
    | some .bool, some x, some y => match op with
      | .eql => some (.beq false x y)
      | .neq => some (.beq true x y)
      | _ => none
    | some (.slice _), some x, some y => match y with
      | .c .nils => match op with
        | .eql => some (.nilt false x)
        | .neq => some (.nilt true x)
        | _ => none
      | _ => none
    | some (.struct _), some x, some y => match op, eqPlain P t with
      | .eql, some n => some (.eqs false n x y)
      | .neq, some n => some (.eqs true n x y)
      | _, _ => none
    | _, _, _ => none
  | .unOp op _ x => match op, opL x with
    | .not, some x => some (.not x)
    | .neg, some x => some (.neg x)
    | _, _ => none
  | .convert src dst x => match P.underlying src, P.underlying dst, opL x with
    | some (.int _), some (.int k), some x => some (.conv k x)
    | _, _, _ => none
  | .fieldAddr s x f => match P.underlying s, opL x with
    | some (.struct fs), some x => match fs[f]? with
      | some fd => match P.info? fd.type with
        | some i => if i.size ≠ 0 then some (.fa fd.offset x) else none
        | none => none
      | none => none
    | _, _ => none
  | .field s x f => match P.underlying s, opL x with
    | some (.struct fs), some x => match fs[f]? with
      | some fd => match P.info? fd.type, isAggL P fd.type with
        | some j, some ag => if ag = false → j.size = 1 then some (.fld fd.offset j.size ag x) else none
        | _, _ => none
      | none => none
    | _, _ => none
  | .indexAddr t x i => match P.underlying t, opL x, opL i with
    | some (.slice e), some x, some i => match P.info? e with
      | some j => some (.ia j.size x i)
      | none => none
    | some (.array n e), some x, some i => match P.info? e with
      | some j => some (.iar n j.size x i)
      | none => none
    | _, _, _ => none
  | .index t x i => match P.underlying t, opL i with
    | some (.array n e), some i => match P.info? e, isAggL P e, opL x with
      | some j, some ag, some x => if ag = false → j.size = 1 then some (.ixa n j.size ag x i) else none
      | _, _, _ => none
    | some .string, some i => match x with
      | .const (.string s) => some (.ixs (s.data.toList.map UInt8.toNat) i)
      | _ => none
    | _, _ => none
  | .slice t x lo hi mx => match P.underlying t, opL x with
    | some (.slice e), some x => match P.info? e with
      | none => none
      | some j => match lo, hi, mx with
      | none, none, none => some (.sl j.size x none none none)
      | some lo, none, none => (opL lo).map fun lo => .sl j.size x (some lo) none none
      | none, some hi, none => (opL hi).map fun hi => .sl j.size x none (some hi) none
      | some lo, some hi, none => match opL lo, opL hi with
        | some lo, some hi => some (.sl j.size x (some lo) (some hi) none)
        | _, _ => none
      | none, some hi, some mx => match opL hi, opL mx with
        | some hi, some mx => some (.sl j.size x none (some hi) (some mx))
        | _, _ => none
      | _, _, _ => none
    | _, _ => none
  | .extract t j => (opL t).map (.ext j)
  | .makeSlice t l c => match P.underlying t, opL l, opL c with
    | some (.slice e), some l', some c' => match tinfo P e with
      | some (sz, zs, by_) => if by_ ≤ 32768 ∧ sz ≠ 0 then
          (match cond frz none (kdOf P 9 e) with
          | some K => if K.sz = sz ∧ isZero K zs = true then some (.mk (some K) zs e l' (some c')) else none
          | none => some (.mk none zs e l' (some c'))) else none
      | none => none
    | _, _, _ => none
  | .makeInterface t x => match P.underlying t with
    | some (.interface _) => none
    | some _ => (opL x).map (.mkif t)
    | none => none
  | .typeAssert x _ t ok => match P.underlying t, opL x with
    | some (.interface _), _ => none
    | some _, some x => match P.info? t with
      | some i => match i.zero with
        | some z => (svOf 1000 z).map fun z => .tas t ok z x
        | none => none
      | none => none
    | _, _ => none
  | .makeMap t none => match mapPlain P t with
    | true => some .mkmap
    | false => none
  | .mapUpdate t x k v => match mapPlain P t, opL x, opL k, opL v with
    | true, some a, some b, some c => some (.mapset a b c)
    | _, _, _, _ => none
  | .lookup t x k true => match mapPlain P t, opL x, opL k with
    | true, some a, some b => some (.maplk a b)
    | _, _, _ => none
  | .makeFunc fn first cap => match opsL first.toList, opsL cap.toList with
    | some a, some b => some (.mkfn fn a b)
    | _, _ => none
  | .call c => match opsL c.args.toList with
    | none => none
    | some as => match c.callee with
      | .builtin .len => match c.argTypes.toList, as with
        | [t], [x] => match P.underlying t with
          | some (.slice _) => some (.len x)
          | _ => none
        | _, _ => none
      | .builtin .append => match c.argTypes.toList, as with
        | [t, t'], [s, x] => match P.underlying t, t == t' with
          | some (.slice e), true => match tinfo P e with
            | some (sz, _, by_) => if by_ ≤ 32768 then some (cond frz (.app0 (kdOf P 9 e) sz e s x) (.app (kdOf P 9 e) sz e s x)) else none
            | none => none
          | some (.slice e), false => match P.underlying t', kdOf P 9 e, tinfo P e with
            | some (.int _), some K, some (sz, zs, by_) => if by_ ≤ 32768 ∧ K.sz = sz ∧ isZero K zs = true ∧ sz ≠ 0 then some (.appz K e s x) else none
            | _, _, _ => none
          | _, _ => none
        | _, _ => none
      | .builtin .cap => match c.argTypes.toList, as with
        | [t], [x] => match P.underlying t with
          | some (.slice _) => some (.cap0 x)
          | _ => none
        | _, _ => none
      | .builtin .min => match as with
        | [x, y] => some (.mn x y)
        | _ => none
      | .builtin .max => match as with
        | [x, y] => some (.mx x y)
        | _ => none
      | .value (.func f) => match P.funcs[f]? with
        | some fn => if fn.name ≠ "runtime.NumGoroutine" ∧ fn.body.isSome = true then some (cond frz (.callz f as) (.call f as)) else none
        | none => none
      | .value (.tmp t) => some (.callv (.t t) as)
      | .invoke (.tmp t) m => some (.inv (.t t) m as)
      | _ => none
  | _ => none
def guardL (ops : Array Oper) : Option (Nat × Bool) → Option (Option (Nat × Bool))
  | none => some none
  | some (j, want) => match (ops[j]?).bind (·.dst) with
    | some d => some (some (d, want))
    | none => none
def dstOK (N : Nat) : Option Nat → Bool
  | some d => decide (d < N)
  | none => true
def lightOps (P : Program) (frz : List Nat) (N : Nat) (ops : Array Oper) : List Oper → Option (List GI)
  | [] => some []
  | o :: r => match lightOp P (match o.dst with | some d => frz.contains d | none => false) o, guardL ops o.guard, lightOps P frz N ops r with
    | some i, some g, some gs => if dstOK N o.dst = true then some ({ d := o.dst, g, i } :: gs) else none
    | _, _, _ => none
def cutOf (id : Nat) : List (Nat × Norm) → Option Norm
  | [] => none
  | (j, nm) :: r => cond (Nat.beq j id) (some nm) (cutOf id r)
def lightC (P : Program) (frz : List Nat) (N : Nat) (ann : List Norm) (cuts : List (Nat × Norm)) : Nat → Code → Option (C × Nat)
  | i, .skip => some (.skip, i)
  | i, .region id ops draw => match lightOps P frz N ops ops.toList, cutOf (id + 2000000) cuts with
    | some gs, none => match cutOf id cuts with
      | none => match cutOf (id + 1000000) cuts with
        | none => some (.reg draw gs, i)
        | some nm => some (.seq (.cut nm) (.reg draw gs), i)
      | some nm => some (.seq (.reg draw gs) (.cut nm), i)
    | _, _ => some (.bad, i)
  | i, .seq a b => match lightC P frz N ann cuts i a with
    | some (x, j) => match lightC P frz N ann cuts j b with
      | some (y, k) => some (.seq x y, k)
      | none => none
    | none => none
  | i, .cond s a b => match opL s, lightC P frz N ann cuts i a with
    | some s, some (x, j) => match lightC P frz N ann cuts j b with
      | some (y, k) => some (.cnd s x y, k)
      | none => none
    | _, _ => none
  | i, .block id a => match lightC P frz N ann cuts i a with
    | some (x, j) => some (.blk id x, j)
    | none => none
  | i, .loop a => match ann[i]?, lightC P frz N ann cuts (i + 1) a with
    | some nm, some (x, j) => some (.loop nm x, j)
    | _, _ => none
  | i, .scope a => match lightC P frz N ann cuts i a with
    | some (x, j) => some (.seq .skip x, j)
    | none => none
  | i, .label _ => some (.skip, i)
  | i, .exit id => some (.exit id, i)
  | i, .ret => some (.ret, i)
  | i, _ => some (.bad, i)
end Go.Proofs.Ytmkekjmckdkcnaa.Den
namespace Go.Proofs.Ytmkekjmckdkcnaa.Den
open Go Go.RowKit
def Map.put (ρ : Map) (β : Nat) (m : Img) : Map := ⟨fun γ => if γ = β then m else ρ γ, ρ.res0, ρ.vl⟩
theorem Map.put_same (ρ : Map) (β : Nat) (m : Img) : (ρ.put β m) β = m := by simp [Map.put]
theorem Map.put_other (ρ : Map) {β γ : Nat} (m : Img) (h : γ ≠ β) : (ρ.put β m) γ = ρ γ := by simp [Map.put, h]
def Img.born : Img → Bool
  | .unborn => false
  | _ => true
def Map.kill (ρ : Map) (rs : List Nat) : Map := ⟨fun γ => if γ ∈ rs ∧ (ρ γ).born = true then .dead else ρ γ, ρ.res0, ρ.vl⟩
theorem CRel.plain {w w' : World} {B B' : Nat → Prop} : ∀ {K : Kd} {x : K.T} {us : List Value}, K.noList = true → CRel w B K x us → CRel w' B' K x us
  | .int _, _, _, _, h => by simpa only [CRel] using h
  | .bool, _, _, _, h => by simpa only [CRel] using h
  | .unit, _, _, _, h => by simpa only [CRel] using h
  | .pair a b, x, us, hn, h => by
    simp only [Kd.noList, Bool.and_eq_true] at hn
    simp only [CRel] at h ⊢
    obtain ⟨c1, c2, e, h1, h2⟩ := h
    exact ⟨c1, c2, e, CRel.plain hn.1 h1, CRel.plain hn.2 h2⟩
  | .list _, _, _, hn, _ => by simp [Kd.noList] at hn
theorem RowRel.plain {w w' : World} {B B' : Nat → Prop} {K : Kd} {xs : List K.T} {C : Array Value} {o : Nat} (hn : K.noList = true) (h : RowRel w B K xs C o) : RowRel w' B' K xs C o := fun i x hx => by
  obtain ⟨es, h1, h2⟩ := h i x hx
  exact ⟨es, h1.plain hn, h2⟩
theorem OwnAt.keep {w w' : World} {B B' : Nat → Prop} {e : Kd} {xs : List e.T} {u : Value} {tk : List Nat} (hn : e.noList = true) (hk : ∀ b ∈ tk, w'.heap[b]? = w.heap[b]?) (h : OwnAt w B e xs u tk) : OwnAt w' B' e xs u tk := by
  rcases h with h | ⟨b, o, c, C, tC, rfl, h1, h2, h3, h4, h5⟩
  · exact .inl h
  · exact .inr ⟨b, o, c, C, tC, rfl, h1, h2, by rw [hk b (by simp)]; exact h3, h4, h5.plain hn⟩
theorem OwnL.keep {w w' : World} {B B' : Nat → Prop} {e : Kd} (hn : e.noList = true) : ∀ {xss : List (List e.T)} {us : List Value} {tk : List Nat}, (∀ b ∈ tk, w'.heap[b]? = w.heap[b]?) → OwnL w B e xss us tk → OwnL w' B' e xss us tk
  | [], _, _, _, h => h
  | x :: xs, us, tk, hk, h => by
    simp only [OwnL] at h ⊢
    obtain ⟨u, us', t1, t2, rfl, rfl, h1, h2⟩ := h
    exact ⟨u, us', t1, t2, rfl, rfl, h1.keep hn fun b hb => hk b (List.mem_append.2 (.inl hb)), OwnL.keep hn (fun b hb => hk b (List.mem_append.2 (.inr hb))) h2⟩
theorem BRel.keepF {ρ ρ' : Map} {w w' : World} (h : StepF ρ w ρ' w') {b o n sz : Nat} (hb : w'.heap[b]? = w.heap[b]?) (hv : ∀ b', ρ.vl b' = some b → w'.heap[b']? = w.heap[b']? ∧ ρ'.vl b' = some b) : ∀ {x : Blk}, BRel ρ w b o n sz x → BRel ρ' w' b o n sz x
  | .dead, hx => hx
  | .cells cs t z, hx => by
    simp only [BRel] at hx ⊢
    obtain ⟨h0, h1, C, tC, h2, h3, h4⟩ := hx
    refine ⟨h0, h1, C, tC, hb.trans h2, h3, fun j s hs => ?_⟩
    obtain ⟨u, h5, h6⟩ := h4 j s hs
    exact ⟨u, h5, h6.stepF h⟩
  | .arr K xs t, hx => by
    simp only [BRel] at hx ⊢
    obtain ⟨h0, h1, C, tC, h2, h3, h4⟩ := hx
    refine ⟨h0, h1, C, tC, hb.trans h2, h3, fun i x hx => ?_⟩
    obtain ⟨es, h5, h6⟩ := h4 i x hx
    exact ⟨es, h5.stepF h, h6⟩
  | .tree e xs, hx => by
    simp only [BRel] at hx ⊢
    obtain ⟨h0, h1, C, tC, us, tk, h2, h3, h4, h5, h6, h7, h8⟩ := hx
    exact ⟨h0, h1, C, tC, us, tk, hb.trans h2, h3, h4, h5, h6.mono fun x _ c t ht h => h.keep fun b' hb' => (hv b' (h8 b' (ht b' hb'))).1, h7, fun b' hb' => (hv b' (h8 b' hb')).2⟩
  | .mapi es, hx => by
    simp only [BRel] at hx ⊢
    obtain ⟨h0, h1, A, c, h2, h3⟩ := hx
    exact ⟨h0, h1, A, c, hb.trans h2, h3⟩
theorem BRel.keep {ρ ρ' : Map} {w w' : World} (h : Step ρ w ρ' w') {b o n sz : Nat} (hb : w'.heap[b]? = w.heap[b]?) (hv : ∀ b', ρ.vl b' = some b → b' < w.heap.size ∧ w'.heap[b']? = w.heap[b']?) {x : Blk} (hx : BRel ρ w b o n sz x) : BRel ρ' w' b o n sz x :=
  hx.keepF h.toF hb fun b' hb' => ⟨(hv b' hb').2, by rw [h.vl b' (hv b' hb').1]; exact hb'⟩
theorem HRel.vlt {ρ : Map} {H : Heap} {w : World} (h : HRel ρ H w) {b t : Nat} (hv : ρ.vl b = some t) : b < w.heap.size := h.resl b (.inr (by rw [hv]; simp))
theorem Step.allocO {ρ : Map} {w : World} (β : Nat) (O : Obj) (n sz : Nat) (hu : ρ β = .unborn) :
    Step ρ w (ρ.put β (.at w.heap.size 0 n sz)) (w.alloc O) where
  os := rfl
  tape := rfl
  output := rfl
  size := by rw [World.size_alloc]; omega
  kept b hb _ _ := by
    simp only [World.alloc]
    rw [Array.getElem?_push, if_neg (by omega)]
  shape b C' t' fr hb := by
    refine ⟨C', ?_, rfl⟩
    have hlt : b < w.heap.size := (Array.getElem?_eq_some_iff.1 hb).1
    simp only [World.alloc]
    rw [Array.getElem?_push, if_neg (by omega)]; exact hb
  img γ b o n' sz' hg := by
    by_cases e : γ = β
    · subst e; rw [Map.put_same] at hg; injection hg with h1; exact .inr (by omega)
    · rw [Map.put_other _ _ e] at hg; exact .inl ⟨γ, o, n', sz', hg⟩
  ref γ hg := by
    have e : γ ≠ β := by rintro rfl; exact hg hu
    exact .inl (Map.put_other _ _ e)
  res := rfl
  vl _ _ := rfl
theorem Step.alloc {ρ : Map} {w : World} (β : Nat) (C : Array Value) (t : TypeId) (n sz : Nat) (hu : ρ β = .unborn) :
    Step ρ w (ρ.put β (.at w.heap.size 0 n sz)) (w.alloc (.cells C t (0, 0))) := Step.allocO β _ n sz hu
theorem Step.ghost {ρ : Map} {w : World} (β : Nat) (m : Img) (hm : ∀ b o n sz, m = .at b o n sz → ∃ γ o' n' sz', ρ γ = .at b o' n' sz') (hu : ρ β = .unborn) : Step ρ w (ρ.put β m) w where
  os := rfl
  tape := rfl
  output := rfl
  size := Nat.le_refl _
  kept _ _ _ _ := rfl
  shape _ C _ _ h := ⟨C, h, rfl⟩
  img γ b o n sz hg := by
    by_cases e : γ = β
    · subst e; rw [Map.put_same] at hg; exact .inl (hm _ _ _ _ hg)
    · rw [Map.put_other _ _ e] at hg; exact .inl ⟨γ, o, n, sz, hg⟩
  ref γ hg := .inl (Map.put_other _ _ (by rintro rfl; exact hg hu))
  res := rfl
  vl _ _ := rfl
theorem Step.kill {ρ : Map} {w : World} (rs : List Nat) : Step ρ w (ρ.kill rs) w where
  os := rfl
  tape := rfl
  output := rfl
  size := Nat.le_refl _
  kept _ _ _ _ := rfl
  shape _ C _ _ h := ⟨C, h, rfl⟩
  img γ b o n sz hg := by
    simp only [Map.kill] at hg
    split at hg
    · simp at hg
    · exact .inl ⟨γ, o, n, sz, hg⟩
  ref γ hg := by
    simp only [Map.kill]
    split
    · exact .inr rfl
    · exact .inl rfl
  res := rfl
  vl _ _ := rfl
theorem Step.drew {ρ : Map} {w : World} : Step ρ w ρ w.drew where
  os := rfl
  tape := rfl
  output := rfl
  size := Nat.le_refl _
  kept _ _ _ _ := rfl
  shape _ C _ _ h := ⟨C, h, rfl⟩
  img γ b o n sz hg := .inl ⟨γ, o, n, sz, hg⟩
  ref γ hg := .inl rfl
  res := rfl
  vl _ _ := rfl
theorem Step.setRow {ρ : Map} {w : World} {β b o n sz : Nat} {C C' : Array Value} {t : TypeId} (hr : ρ β = .at b o n sz) (hb : w.heap[b]? = some (.cells C t (0, 0))) (hs : C'.size = C.size) : Step ρ w ρ (w.setRow b C') where
  os := rfl
  tape := rfl
  output := rfl
  size := by simp [World.setRow]
  kept b' _ hf _ := by
    have : b ≠ b' := by rintro rfl; exact hf _ _ _ _ hr
    simp only [World.setRow]
    rw [Array.getElem?_modify, if_neg this]
  shape b' C2 t2 fr h2 := by
    by_cases e : b = b'
    · subst e
      rw [hb] at h2; simp at h2
      obtain ⟨rfl, rfl, rfl⟩ := h2
      exact ⟨C', by simp [World.setRow, Array.getElem?_modify, hb], hs⟩
    · exact ⟨C2, by simp only [World.setRow]; rw [Array.getElem?_modify, if_neg e]; exact h2, rfl⟩
  img γ b o n sz hg := .inl ⟨γ, o, n, sz, hg⟩
  ref γ hg := .inl rfl
  res := rfl
  vl _ _ := rfl
theorem HRel.drew {ρ : Map} {H : Heap} {w : World} (h : HRel ρ H w) : HRel ρ H w.drew where
  dead := h.dead
  none_ := h.none_
  at_ β hl b o n sz hr := by
    obtain ⟨x, h1, h2⟩ := h.at_ β hl b o n sz hr
    exact ⟨x, h1, h2.keep Step.drew rfl fun b' hb' => ⟨h.vlt hb', rfl⟩⟩
  inj := h.inj
  lt := h.lt
  resl := h.resl
  resf := h.resf
theorem zaC {w : World} {x : Obj} {b : Nat} (hb : b < w.heap.size) : (w.alloc x).heap[b]? = w.heap[b]? := by
  simp only [World.alloc]; rw [Array.getElem?_push, if_neg (by omega)]
theorem zgL {w : World} {x : Obj} {b : Nat} (hb : b < w.heap.size) : (w.drew.alloc x).heap[b]? = w.heap[b]? := (zaC (w := w.drew) hb).trans rfl
theorem HRel.alloc {ρ : Map} {H : Heap} {w : World} (h : HRel ρ H w) {O : Obj} {n sz : Nat} {x : Blk} (hu : ρ H.length = .unborn)
    (hx : BRel (ρ.put H.length (.at w.heap.size 0 n sz)) (w.alloc O) w.heap.size 0 n sz x) :
    HRel (ρ.put H.length (.at w.heap.size 0 n sz)) (H ++ [x]) (w.alloc O) where
  dead β hl hr := by
    by_cases e : β = H.length
    · subst e; rw [Map.put_same] at hr; cases hr
    · rw [Map.put_other _ _ e] at hr
      have hl' : β < H.length := by simp at hl; omega
      rw [List.getElem?_append_left hl']; exact h.dead β hl' hr
  none_ β hl hr := by
    by_cases e : β = H.length
    · subst e; rw [Map.put_same] at hr; cases hr
    · rw [Map.put_other _ _ e] at hr
      have hl' : β < H.length := by simp at hl; omega
      rw [List.getElem?_append_left hl']; exact h.none_ β hl' hr
  at_ β hl b o n' sz' hr := by
    by_cases e : β = H.length
    · subst e; rw [Map.put_same] at hr; injection hr with h1 h2 h3 h4
      subst h1; subst h2; subst h3; subst h4
      exact ⟨x, by simp, hx⟩
    · rw [Map.put_other _ _ e] at hr
      have hl' : β < H.length := by simp at hl; omega
      obtain ⟨y, h1, h2⟩ := h.at_ β hl' b o n' sz' hr
      refine ⟨y, by rw [List.getElem?_append_left hl']; exact h1, h2.keep (Step.allocO _ _ _ _ hu) ?_ fun b' hb' => ⟨h.vlt hb', ?_⟩⟩
      · have := h.lt _ _ _ _ _ hr
        simp only [World.alloc]
        rw [Array.getElem?_push, if_neg (by omega)]
      · have := h.vlt hb'
        simp only [World.alloc]
        rw [Array.getElem?_push, if_neg (by omega)]
  inj β γ b o n1 sz1 o' n2 sz2 h1 h2 := by
    by_cases e : β = H.length <;> by_cases e2 : γ = H.length
    · omega
    · subst e; rw [Map.put_same] at h1; rw [Map.put_other _ _ e2] at h2
      injection h1 with h1; have := h.lt _ _ _ _ _ h2; omega
    · subst e2; rw [Map.put_same] at h2; rw [Map.put_other _ _ e] at h1
      injection h2 with h2; have := h.lt _ _ _ _ _ h1; omega
    · rw [Map.put_other _ _ e] at h1; rw [Map.put_other _ _ e2] at h2
      exact h.inj _ _ _ _ _ _ _ _ _ h1 h2
  lt β b o n' sz' hr := by
    by_cases e : β = H.length
    · subst e; rw [Map.put_same] at hr; injection hr with h1; rw [World.size_alloc]; omega
    · rw [Map.put_other _ _ e] at hr
      have := h.lt _ _ _ _ _ hr
      rw [World.size_alloc]; omega
  resl b hb := by have := h.resl b hb; rw [World.size_alloc]; omega
  resf β b o n' sz' hr hb := by
    by_cases e : β = H.length
    · subst e; rw [Map.put_same] at hr; injection hr with h1; have := h.resl b hb; omega
    · rw [Map.put_other _ _ e] at hr; exact h.resf _ _ _ _ _ hr hb
theorem zaD : ∀ (rs : List Nat) (H : Heap) (β : Nat), (kill rs H)[β]? = if β ∈ rs ∧ β < H.length then some .dead else H[β]?
  | [], H, β => by simp [kill]
  | r :: rs, H, β => by
    rw [kill, zaD rs (H.set r .dead) β]
    simp only [List.length_set, List.mem_cons]
    by_cases h1 : β ∈ rs ∧ β < H.length
    · rw [if_pos h1, if_pos ⟨.inr h1.1, h1.2⟩]
    · rw [if_neg h1, List.getElem?_set]
      by_cases h2 : r = β
      · subst h2
        by_cases h3 : r < H.length
        · rw [if_pos rfl, if_pos h3, if_pos ⟨.inl rfl, h3⟩]
        · rw [if_pos rfl, if_neg h3, if_neg (by omega), List.getElem?_eq_none (by omega)]
      · rw [if_neg h2, if_neg]
        rintro ⟨h3 | h3, h4⟩
        · exact h2 h3.symm
        · exact h1 ⟨h3, h4⟩
theorem zi : ∀ (rs : List Nat) (H : Heap), (kill rs H).length = H.length
  | [], _ => rfl
  | r :: rs, H => by rw [kill, zi]; simp
theorem HRel.kill {ρ : Map} {H : Heap} {w : World} (h : HRel ρ H w) (rs : List Nat) : HRel (ρ.kill rs) (kill rs H) w where
  dead β hl hr := by
    rw [zi] at hl
    rw [zaD]
    simp only [Map.kill] at hr
    split at hr
    · rename_i h1; rw [if_pos ⟨h1.1, hl⟩]
    · split
      · rfl
      · exact h.dead β hl hr
  none_ β hl hr := by
    rw [zi] at hl
    simp only [Map.kill] at hr
    split at hr
    · cases hr
    · rename_i h1
      rw [zaD, if_neg (fun h2 => h1 ⟨h2.1, by rw [hr]; rfl⟩)]
      exact h.none_ β hl hr
  at_ β hl b o n sz hr := by
    rw [zi] at hl
    simp only [Map.kill] at hr
    split at hr
    · cases hr
    · rename_i h1
      rw [zaD, if_neg (fun h2 => h1 ⟨h2.1, by rw [hr]; rfl⟩)]
      obtain ⟨x, h3, h4⟩ := h.at_ β hl b o n sz hr
      exact ⟨x, h3, h4.keep (Step.kill rs) rfl fun b' hb' => ⟨h.vlt hb', rfl⟩⟩
  inj β γ b o n sz o' n' sz' h1 h2 := by
    simp only [Map.kill] at h1 h2
    split at h1
    · cases h1
    · split at h2
      · cases h2
      · exact h.inj _ _ _ _ _ _ _ _ _ h1 h2
  lt β b o n sz hr := by
    simp only [Map.kill] at hr
    split at hr
    · cases hr
    · exact h.lt _ _ _ _ _ hr
  resl := h.resl
  resf β b o n sz hr := by
    simp only [Map.kill] at hr
    split at hr
    · cases hr
    · exact h.resf _ _ _ _ _ hr
theorem HRel.ghost {ρ : Map} {H : Heap} {w : World} (h : HRel ρ H w) {m : Img} {x : Blk} (hu : ρ H.length = .unborn)
    (hm : m = .none_ ∨ ∃ b o n sz, m = .at b o n sz ∧ b < w.heap.size ∧ ¬ ρ.res b ∧ (∀ γ o' n' sz', ρ γ ≠ .at b o' n' sz'))
    (hx : (m = .none_ → (∃ K t, x = .arr K [] t) ∨ (∃ t z, x = .cells [] t z)) ∧ ∀ b o n sz, m = .at b o n sz → BRel (ρ.put H.length m) w b o n sz x)
    (hk : ∀ β, β < H.length → ∀ b o n sz, ρ β = .at b o n sz → ∀ x, H[β]? = some x → BRel ρ w b o n sz x → BRel (ρ.put H.length m) w b o n sz x) :
    HRel (ρ.put H.length m) (H ++ [x]) w where
  dead β hl hr := by
    by_cases e : β = H.length
    · subst e; rw [Map.put_same] at hr
      rcases hm with rfl | ⟨_, _, _, _, rfl, _⟩ <;> cases hr
    · rw [Map.put_other _ _ e] at hr
      have hl' : β < H.length := by simp at hl; omega
      rw [List.getElem?_append_left hl']; exact h.dead β hl' hr
  none_ β hl hr := by
    by_cases e : β = H.length
    · subst e; rw [Map.put_same] at hr
      rcases hx.1 hr with ⟨K, t, rfl⟩ | ⟨t, z, rfl⟩
      · exact .inl ⟨K, t, by simp⟩
      · exact .inr (.inl ⟨t, z, by simp⟩)
    · rw [Map.put_other _ _ e] at hr
      have hl' : β < H.length := by simp at hl; omega
      rw [List.getElem?_append_left hl']; exact h.none_ β hl' hr
  at_ β hl b o n' sz' hr := by
    by_cases e : β = H.length
    · subst e; rw [Map.put_same] at hr
      exact ⟨x, by simp, hx.2 _ _ _ _ hr⟩
    · rw [Map.put_other _ _ e] at hr
      have hl' : β < H.length := by simp at hl; omega
      obtain ⟨y, h1, h2⟩ := h.at_ β hl' b o n' sz' hr
      exact ⟨y, by rw [List.getElem?_append_left hl']; exact h1, hk β hl' _ _ _ _ hr y h1 h2⟩
  inj β γ b o n1 sz1 o' n2 sz2 h1 h2 := by
    by_cases e : β = H.length <;> by_cases e2 : γ = H.length
    · omega
    · subst e; rw [Map.put_same] at h1; rw [Map.put_other _ _ e2] at h2
      rcases hm with rfl | ⟨b', _, _, _, rfl, _, _, hn⟩
      · cases h1
      · injection h1 with h1; subst h1; exact absurd h2 (hn _ _ _ _)
    · subst e2; rw [Map.put_same] at h2; rw [Map.put_other _ _ e] at h1
      rcases hm with rfl | ⟨b', _, _, _, rfl, _, _, hn⟩
      · cases h2
      · injection h2 with h2; subst h2; exact absurd h1 (hn _ _ _ _)
    · rw [Map.put_other _ _ e] at h1; rw [Map.put_other _ _ e2] at h2
      exact h.inj _ _ _ _ _ _ _ _ _ h1 h2
  lt β b o n' sz' hr := by
    by_cases e : β = H.length
    · subst e; rw [Map.put_same] at hr
      rcases hm with rfl | ⟨b', _, _, _, rfl, hb, _⟩
      · cases hr
      · injection hr with h1; omega
    · rw [Map.put_other _ _ e] at hr; exact h.lt _ _ _ _ _ hr
  resl := h.resl
  resf β b o n' sz' hr hb := by
    by_cases e : β = H.length
    · subst e; rw [Map.put_same] at hr
      rcases hm with rfl | ⟨b', _, _, _, rfl, _, hb', _⟩
      · cases hr
      · injection hr with h1; subst h1; exact hb' hb
    · rw [Map.put_other _ _ e] at hr; exact h.resf _ _ _ _ _ hr hb
theorem HRel.setRow {ρ : Map} {H : Heap} {w : World} (h : HRel ρ H w) {β b o n sz : Nat} {C C' : Array Value} {t : TypeId} {x : Blk} (hl : β < H.length) (hr : ρ β = .at b o n sz)
    (hb : w.heap[b]? = some (.cells C t (0, 0))) (hs : C'.size = C.size) (hx : BRel ρ (w.setRow b C') b o n sz x) : HRel ρ (H.set β x) (w.setRow b C') where
  dead γ hl' hr' := by
    have e : β ≠ γ := by rintro rfl; rw [hr] at hr'; cases hr'
    simp at hl'
    rw [List.getElem?_set_ne e]; exact h.dead γ hl' hr'
  none_ γ hl' hr' := by
    have e : β ≠ γ := by rintro rfl; rw [hr] at hr'; cases hr'
    simp at hl'
    rw [List.getElem?_set_ne e]; exact h.none_ γ hl' hr'
  at_ γ hl' b' o' n' sz' hr' := by
    simp at hl'
    by_cases e : β = γ
    · subst e
      rw [hr] at hr'; injection hr' with h1 h2 h3 h4
      subst h1; subst h2; subst h3; subst h4
      exact ⟨x, by simp [hl], hx⟩
    · obtain ⟨y, h1, h2⟩ := h.at_ γ hl' _ _ _ _ hr'
      refine ⟨y, by rw [List.getElem?_set_ne e]; exact h1, h2.keep (Step.setRow hr hb hs) ?_ fun b2 hb2 => ⟨h.vlt hb2, ?_⟩⟩
      · have : b ≠ b' := by rintro rfl; exact e (h.inj _ _ _ _ _ _ _ _ _ hr hr')
        simp only [World.setRow]
        rw [Array.getElem?_modify, if_neg this]
      · have : b ≠ b2 := by rintro rfl; exact h.resf _ _ _ _ _ hr (.inr (by rw [hb2]; simp))
        simp only [World.setRow]
        rw [Array.getElem?_modify, if_neg this]
  inj := h.inj
  lt γ b' o' n' sz' hr' := by have := h.lt _ _ _ _ _ hr'; simpa [World.setRow] using this
  resl b' hb' := by have := h.resl b' hb'; simpa [World.setRow] using this
  resf := h.resf
abbrev setO (w : World) (b : Nat) (O : Obj) : World := { w with heap := w.heap.setIfInBounds b O }
theorem setO_ne {w : World} {b b' : Nat} {O : Obj} (h : b ≠ b') : (setO w b O).heap[b']? = w.heap[b']? := by simp [setO, Array.getElem?_setIfInBounds, h]
theorem setO_eq {w : World} {b : Nat} {O O' : Obj} (h : w.heap[b]? = some O') : (setO w b O).heap[b]? = some O := by
  have := (Array.getElem?_eq_some_iff.1 h).1
  simp [setO, Array.getElem?_setIfInBounds, this]
theorem Step.setMap {ρ : Map} {w : World} {β b o n sz : Nat} {A : Array MapEntry} {c : Nat} {O : Obj} (hr : ρ β = .at b o n sz) (hb : w.heap[b]? = some (.map A c)) : Step ρ w ρ (setO w b O) where
  os := rfl
  tape := rfl
  output := rfl
  size := by simp [setO]
  kept b' _ hf _ := setO_ne (by rintro rfl; exact hf _ _ _ _ hr)
  shape b' C2 t2 fr h2 := by
    have e : b ≠ b' := by rintro rfl; rw [hb] at h2; cases h2
    exact ⟨C2, by rw [setO_ne e]; exact h2, rfl⟩
  img γ b o n sz hg := .inl ⟨γ, o, n, sz, hg⟩
  ref γ hg := .inl rfl
  res := rfl
  vl _ _ := rfl
theorem HRel.setMap {ρ : Map} {H : Heap} {w : World} (h : HRel ρ H w) {β b o n sz : Nat} {A : Array MapEntry} {c : Nat} {O : Obj} {x : Blk} (hl : β < H.length) (hr : ρ β = .at b o n sz)
    (hb : w.heap[b]? = some (.map A c)) (hx : BRel ρ (setO w b O) b o n sz x) : HRel ρ (H.set β x) (setO w b O) where
  dead γ hl' hr' := by
    have e : β ≠ γ := by rintro rfl; rw [hr] at hr'; cases hr'
    simp at hl'
    rw [List.getElem?_set_ne e]; exact h.dead γ hl' hr'
  none_ γ hl' hr' := by
    have e : β ≠ γ := by rintro rfl; rw [hr] at hr'; cases hr'
    simp at hl'
    rw [List.getElem?_set_ne e]; exact h.none_ γ hl' hr'
  at_ γ hl' b' o' n' sz' hr' := by
    simp at hl'
    by_cases e : β = γ
    · subst e
      rw [hr] at hr'; injection hr' with h1 h2 h3 h4
      subst h1; subst h2; subst h3; subst h4
      exact ⟨x, by simp [hl], hx⟩
    · obtain ⟨y, h1, h2⟩ := h.at_ γ hl' _ _ _ _ hr'
      refine ⟨y, by rw [List.getElem?_set_ne e]; exact h1, h2.keep (Step.setMap hr hb) ?_ fun b2 hb2 => ⟨h.vlt hb2, ?_⟩⟩
      · exact setO_ne (by rintro rfl; exact e (h.inj _ _ _ _ _ _ _ _ _ hr hr'))
      · exact setO_ne (by rintro rfl; exact h.resf _ _ _ _ _ hr (.inr (by rw [hb2]; simp)))
  inj := h.inj
  lt γ b' o' n' sz' hr' := by have := h.lt _ _ _ _ _ hr'; simpa [setO] using this
  resl b' hb' := by have := h.resl b' hb'; simpa [setO] using this
  resf := h.resf
theorem zt {ρ : Map} {rs : List Nat} {β : Nat} (h : ρ β = .unborn) : (ρ.kill rs) β = .unborn := by
  simp only [Map.kill]; rw [if_neg (by simp [h, Img.born])]; exact h
end Go.Proofs.Ytmkekjmckdkcnaa.Den
namespace Go.Proofs.Ytmkekjmckdkcnaa.Den
open Go Go.RowKit
def TRel (ρ : Map) (w : World) (τ : Env) (a : Act) (N : Nat) : Prop :=
  a.tmps.size = N ∧ a.defers = [] ∧ ∀ n, VRel ρ w (Tm.get τ n) (a.tmps.getD n undef)
structure Good (m : Bool) (ρ : Map) (H : Heap) (w : World) (v : SV) (H' : Heap) (u : Value) (w' : World) (ρ' : Map) : Prop where
  step : Step ρ w ρ' w'
  hrel : HRel ρ' H' w'
  vrel : VRel ρ' w' v u
  len : H.length ≤ H'.length
  unb : ∀ β, ρ β = .unborn → H'.length ≤ β → ρ' β = .unborn
  mono : m = true → (∃ Δ, H' = H ++ Δ) ∧ (∀ β, (β < H.length ∨ H'.length ≤ β) → ρ' β = ρ β) ∧ ∀ b, b < w.heap.size → w'.heap[b]? = w.heap[b]?
theorem Good.same {m : Bool} {ρ : Map} {H : Heap} {w : World} {v : SV} {u : Value} (hH : HRel ρ H w) (hv : VRel ρ w v u) : Good m ρ H w v H u w ρ :=
  ⟨Step.refl _ _, hH, hv, Nat.le_refl _, fun _ h _ => h, fun _ => ⟨⟨[], by simp⟩, fun _ _ => rfl, fun _ _ => rfl⟩⟩
def OpOK (P : Program) (o : Oper) (a : Act) (m : Bool) (ρ : Map) (H : Heap) (w : World) (v : SV) (H' : Heap) : Prop :=
  ∀ (K : Act → World → Prop) (Q : Exit → Act → World → Prop), (∀ u w' ρ', Good m ρ H w v H' u w' ρ' → K (a.put o.dst u) w') → o.wp P a w K Q
section
variable {P : Program} {o : Oper} {a : Act} {m : Bool} {ρ : Map} {H H' : Heap} {w w' : World} {v : SV} {u : Value}
theorem OpOK.value (hr : (execOp a.eval o).run P w = .ok (.value u) w') {ρ' : Map} (hg : Good m ρ H w v H' u w' ρ') : OpOK P o a m ρ H w v H' := by
  intro K Q hK
  unfold Oper.wp
  rw [hr]
  exact hK u w' ρ' hg
theorem OpOK.skip (hr : (execOp a.eval o).run P w = .ok .skip w') {ρ' : Map} (hg : Good m ρ H w v H' undef w' ρ') : OpOK P o a m ρ H w v H' := by
  intro K Q hK
  unfold Oper.wp
  rw [hr]
  exact hK undef w' ρ' hg
theorem OpOK.same (hH : HRel ρ H w) (hr : (execOp a.eval o).run P w = .ok (.value u) w) (hv : VRel ρ w v u) : OpOK P o a m ρ H w v H :=
  OpOK.value hr (Good.same hH hv)
end
mutual
theorem svOf_rel {ρ : Map} {w : World} : ∀ {d : Nat} {v : Value} {s : SV}, svOf d v = some s → VRel ρ w s v
  | 0, _, _, h => by simp [svOf] at h
  | d + 1, v, s, h => by
    unfold svOf at h
    split at h <;> (try (simp at h; subst h)) <;> (try simp [VRel]; done)
    · split at h
      · rename_i l hl
        simp at h; subst h
        simp only [VRel]
        exact ⟨_, rfl, svsOf_rel hl⟩
      · simp at h
    · simp at h
theorem svsOf_rel {ρ : Map} {w : World} : ∀ {d : Nat} {vs : List Value} {l : List SV}, svsOf d vs = some l → VRels ρ w l vs
  | 0, _, _, h => by simp [svsOf] at h
  | d + 1, vs, l, h => by
    unfold svsOf at h
    split at h
    · simp at h; subst h; simp [VRels]
    · split at h
      · rename_i x y h1 h2
        simp at h; subst h
        simp only [VRels]
        exact ⟨_, _, rfl, svOf_rel h1, svsOf_rel h2⟩
      · simp at h
end
theorem opL_rel {ρ : Map} {w : World} {τ : Env} {a : Act} {N : Nat} (ht : TRel ρ w τ a N) {x : Operand} {s : S} (h : opL x = some s) : VRel ρ w (s.ev τ) (a.eval x) := by
  cases x with
  | tmp t => simp [opL] at h; subst h; exact ht.2.2 t
  | const v =>
    simp [opL, Option.map_eq_some_iff] at h
    obtain ⟨s', h1, rfl⟩ := h
    exact svOf_rel h1
  | global g => simp [opL] at h
  | func f => simp [opL] at h; subst h; simp [S.ev, VRel, Act.eval, VRels]
theorem zeq {ρ : Map} {w : World} {τ : Env} {a : Act} {N : Nat} (ht : TRel ρ w τ a N) : ∀ {xs : List Operand} {ss : List S}, opsL xs = some ss → VRels ρ w (ss.map (S.ev τ)) (xs.map a.eval)
  | [], _, h => by simp [opsL] at h; subst h; simp [VRels]
  | x :: r, _, h => by
    simp only [opsL] at h
    split at h
    · rename_i p q h1 h2
      simp at h; subst h
      simp only [List.map_cons, VRels]
      exact ⟨_, _, rfl, opL_rel ht h1, zeq ht h2⟩
    · simp at h
section
variable {R : Type}
theorem za {b : Bool} {x : Option R} {r : R} (h : tst b x = some r) : b = true ∧ x = some r := by
  cases b
  · simp [tst] at h
  · exact ⟨rfl, h⟩
theorem zc {b : Bool} {x y : Option R} {r : R} (h : cond b x y = some r) : (b = true ∧ x = some r) ∨ (b = false ∧ y = some r) := by
  cases b
  · exact .inr ⟨rfl, h⟩
  · exact .inl ⟨rfl, h⟩
theorem zB {cs : List SV} {off n : Nat} {ag : Bool} {k : SV → Option R} {r : R} (h : getC cs off n ag k = some r) :
    ∃ v, k v = some r ∧ (ag = false → cs[off]? = some v) ∧ (ag = true → off + n ≤ cs.length ∧ v = .agg ((cs.drop off).take n)) := by
  unfold getC at h
  cases ag with
  | false =>
    simp only at h
    split at h
    · rename_i s hs; exact ⟨s, h, fun _ => hs, by simp⟩
    · simp at h
  | true =>
    simp only at h
    split at h
    · rename_i hle; exact ⟨_, h, by simp, fun _ => ⟨hle, rfl⟩⟩
    · simp at h
end
theorem zaE {P : Program} {t : TypeId} {ag : Bool} (h : isAggL P t = some ag) (w : World) : (isAgg t).run P w = .ok ag w := by
  unfold isAggL at h
  unfold isAgg
  cases hu : P.underlying t with
  | none => simp [hu] at h
  | some d =>
    rw [hu] at h
    simp only [Sem.run_bind, run_underlying hu, Result.andThen_ok]
    cases d <;> simp at h <;> subst h <;> rfl
theorem zh {P : Program} {t : TypeId} {i : TypeInfo} (h : P.info? t = some i) (w : World) : (sizeOf t).run P w = .ok i.size w := by
  simp [sizeOf, typeInfo, h]
theorem zw {P : Program} {t : TypeId} {sz by_ : Nat} {zs : List SV} (h : tinfo P t = some (sz, zs, by_)) :
    ∃ i z, P.info? t = some i ∧ i.zero = some z ∧ i.size = sz ∧ i.bytes = by_ ∧ svsOf 1000 z.cells.toList = some zs ∧ zs.length = sz := by
  unfold tinfo at h
  split at h
  · rename_i i hi
    split at h
    · rename_i z hz
      split at h
      · rename_i zs' hs
        split at h
        · rename_i hl
          simp at h
          obtain ⟨rfl, rfl, rfl⟩ := h
          exact ⟨i, z, hi, hz, rfl, rfl, hs, hl⟩
        · simp at h
      · simp at h
    · simp at h
  · simp at h
theorem zrl {P : Program} {t : TypeId} {w : World} {ad : Addr} {u : Value} (ha : isAggL P t = some false) (hc : w.cell? ad = some u) : (loadVar t ad).run P w = .ok u w := by
  simp only [loadVar, Sem.run_bind, zaE ha, Result.andThen_ok, Bool.false_eq_true, if_false, run_load, hc]
theorem zgM {P : Program} {t : TypeId} {i : TypeInfo} {w : World} {ad : Addr} {vs : List Value} (ha : isAggL P t = some true) (hi : P.info? t = some i) (hl : vs.length = i.size)
    (hc : ∀ j u, vs[j]? = some u → w.cell? (ad.add j) = some u) : (loadVar t ad).run P w = .ok (.agg vs.toArray) w := by
  simp only [loadVar, Sem.run_bind, zaE ha, Result.andThen_ok, if_true, zh hi]
  rw [← hl, run_loadCells_list w ad vs hc]
  rfl
theorem ld_core {P : Program} {t : TypeId} {i : TypeInfo} {ag : Bool} {ρ : Map} {w : World} {cs : List SV} {vs : List Value} {ad : Addr} {off : Nat} {v : SV} (hi : P.info? t = some i) (ha : isAggL P t = some ag)
    (hcs : VRels ρ w cs vs) (hm : CellsAt w ad vs) (h1 : ag = false → cs[off]? = some v) (h2 : ag = true → off + i.size ≤ cs.length ∧ v = .agg ((cs.drop off).take i.size)) :
    ∃ u, (loadVar t (ad.add off)).run P w = .ok u w ∧ VRel ρ w v u := by
  cases ag with
  | false =>
    obtain ⟨u, hu, hr⟩ := hcs.get off v (h1 rfl)
    exact ⟨u, zrl ha (hm off u hu), hr⟩
  | true =>
    obtain ⟨hle, rfl⟩ := h2 rfl
    have hs := (hcs.split (n := off)).2.split (n := i.size)
    refine ⟨_, zgM (vs := (vs.drop off).take i.size) ha hi ?_ ?_, ?_⟩
    · have := hcs.length; simp; omega
    · intro j u hu
      rw [List.getElem?_take] at hu
      split at hu
      · rw [List.getElem?_drop] at hu
        rw [add_add]; exact hm _ _ hu
      · simp at hu
    · simp only [VRel]
      exact ⟨_, rfl, by simpa using hs.1⟩
theorem zn {ρ : Map} {H : Heap} {w : World} (hH : HRel ρ H w) {β b o n sz : Nat} {cs : List SV} {t : TypeId} {z : Nat} (hb : H[β]? = some (.cells cs t z)) (hr : ρ β = .at b o n sz) :
    ∃ C tC, w.heap[b]? = some (.cells C tC (0, 0)) ∧ z = sz ∧ cs.length = n * sz ∧ o + n * sz ≤ C.size ∧ VRels ρ w cs ((C.toList.drop o).take cs.length) ∧ CellsAt w ⟨b, o, none⟩ ((C.toList.drop o).take cs.length) := by
  have hl : β < H.length := (List.getElem?_eq_some_iff.1 hb).1
  obtain ⟨x, h1, h2⟩ := hH.at_ β hl _ _ _ _ hr
  rw [hb] at h1; simp at h1; subst h1
  simp only [BRel] at h2
  obtain ⟨rfl, hlen, C, tC, hC, hsz, hcell⟩ := h2
  refine ⟨C, tC, hC, rfl, hlen, hsz, VRels.of (by simp; omega) fun i s u h3 h4 => ?_, fun j u hu => ?_⟩
  · obtain ⟨u', h5, h6⟩ := hcell i s h3
    have hi : i < cs.length := (List.getElem?_eq_some_iff.1 h3).1
    rw [List.getElem?_take, if_pos hi, List.getElem?_drop, Array.getElem?_toList, h5] at h4
    cases h4; exact h6
  · rw [List.getElem?_take] at hu
    split at hu
    · rw [List.getElem?_drop, Array.getElem?_toList] at hu
      rw [zb, zl hC]; exact hu
    · simp at hu
theorem row_of {ρ : Map} {H : Heap} {w : World} (hH : HRel ρ H w) {β b o n sz : Nat} {K : Kd} {xs : List K.T} {t : TypeId} (hb : H[β]? = some (.arr K xs t)) (hr : ρ β = .at b o n sz) :
    K.sz = sz ∧ xs.length = n ∧ ∃ C tC, w.heap[b]? = some (.cells C tC (0, 0)) ∧ o + n * sz ≤ C.size ∧ ∀ (i : Nat), i < xs.length → ∃ es, CRel w (Free ρ w) K (xs.getD i K.dflt) es ∧ CellsAt w ⟨b, o + i * sz, none⟩ es := by
  have hl : β < H.length := (List.getElem?_eq_some_iff.1 hb).1
  obtain ⟨x, h1, h2⟩ := hH.at_ β hl _ _ _ _ hr
  rw [hb] at h1; simp at h1; subst h1
  simp only [BRel] at h2
  obtain ⟨hn, hsz, C, tC, hC, hle, hrow⟩ := h2
  refine ⟨hsz, hn, C, tC, hC, hle, fun i hi => ?_⟩
  obtain ⟨es, h3, h4⟩ := hrow i (xs.getD i K.dflt) (by simp [List.getD, List.getElem?_eq_getElem hi])
  refine ⟨es, h3, fun j u hu => ?_⟩
  rw [zb, zl hC, ← hsz]
  exact h4 j u hu
theorem live_of {ρ : Map} {H : Heap} {w : World} (hH : HRel ρ H w) {β : Nat} {x : Blk} (hb : H[β]? = some x) (hx : x ≠ .dead) : ρ β ≠ .dead := by
  intro hr
  have hl : β < H.length := (List.getElem?_eq_some_iff.1 hb).1
  have := hH.dead β hl hr
  rw [hb] at this; exact hx (by simpa using this)
theorem ptr_rel {ρ : Map} {H : Heap} {w : World} (hH : HRel ρ H w) {β off : Nat} {u : Value} {x : Blk} (hb : H[β]? = some x) (hx : x ≠ .dead) (h : VRel ρ w (.ptr β off) u) :
    ∃ b o n sz, ρ β = .at b o n sz ∧ u = .pointer (some ⟨b, o + off, none⟩) := by
  simp only [VRel] at h
  rcases hr : ρ β with _ | _ | _ | ⟨b, o, n, sz⟩ <;> rw [hr] at h <;> simp only at h
  · exact absurd hr (live_of hH hb hx)
  · exact ⟨b, o, n, sz, rfl, h⟩
theorem zgN {ρ : Map} {H : Heap} {w : World} (hH : HRel ρ H w) {β i j : Nat} {u : Value} {x : Blk} (hb : H[β]? = some x) (hx : x ≠ .dead) (h : VRel ρ w (.aptr β i j) u) :
    ∃ b o n sz, ρ β = .at b o n sz ∧ u = .pointer (some ⟨b, o + i * sz + j, none⟩) := by
  simp only [VRel] at h
  rcases hr : ρ β with _ | _ | _ | ⟨b, o, n, sz⟩ <;> rw [hr] at h <;> simp only at h
  · exact absurd hr (live_of hH hb hx)
  · exact ⟨b, o, n, sz, rfl, h⟩
theorem zer {P : Program} {t : TypeId} {ad : Addr} {w : World} : (Instr.loadAt t (.pointer (some ad))).run P w = (loadVar t ad).run P w := by
  simp [Instr.loadAt, Instr.sureAddr]
theorem zrm {P : Program} {o : Oper} {a : Act} {m : Bool} {ρ : Map} {H H' : Heap} {w : World} {τ : Env} {N : Nat} {T : Tab} {v : SV} {t : TypeId} {x : Operand} {s : S} {i : TypeInfo} {ag : Bool}
    (hop : o.op = .load t x) (hi : P.info? t = some i) (ha : isAggL P t = some ag) (hs : opL x = some s) (ht : TRel ρ w τ a N) (hH : HRel ρ H w)
    (he : ldI H i.size ag (s.ev τ) (fun v => some (v, H)) = some (v, H')) : OpOK P o a m ρ H w v H' := by
  have hx := opL_rel ht hs
  have key : H' = H ∧ ∃ u, (Instr.loadAt t (a.eval x)).run P w = .ok u w ∧ VRel ρ w v u := by
    unfold ldI at he
    split at he
    · rename_i β off hv
      rw [hv] at hx
      split at he
      · rename_i cs t' z hb
        obtain ⟨v', hk, h1, h2⟩ := zB he
        simp at hk; obtain ⟨rfl, rfl⟩ := hk
        obtain ⟨b, o', n, sz, hr, hu⟩ := ptr_rel hH hb (by simp) hx
        obtain ⟨C, tC, hC, _, _, _, hcs, hm⟩ := zn hH hb hr
        rw [hu, zer, ← zb]
        exact ⟨rfl, ld_core hi ha hcs hm h1 h2⟩
      · rename_i K xs t' hb
        split at he
        · rename_i hag hoff
          obtain ⟨hl, hk⟩ := za he
          simp at hk; obtain ⟨rfl, rfl⟩ := hk
          obtain ⟨b, o', n, sz, hr, hu⟩ := ptr_rel hH hb (by simp) hx
          have hlt : β < H.length := (List.getElem?_eq_some_iff.1 hb).1
          obtain ⟨y, h1, h2⟩ := hH.at_ β hlt _ _ _ _ hr
          rw [hb] at h1; simp at h1; subst h1
          simp only [BRel] at h2
          obtain ⟨rfl, rfl, C, tC, hC, hle, hrow⟩ := h2
          have hl' : xs.length * K.sz = i.size := by simpa using hl
          refine ⟨rfl, .agg ((C.toList.drop o').take i.size).toArray, ?_, ?_⟩
          · rw [hu, zer]
            refine zgM ha hi (by simp; omega) fun j u hj => ?_
            rw [List.getElem?_take] at hj
            split at hj
            · rw [List.getElem?_drop, Array.getElem?_toList] at hj
              rw [zb, zl hC]; exact hj
            · simp at hj
          · simp only [VRel]
            refine ⟨_, rfl, by simp; omega, fun k x hx => ?_⟩
            obtain ⟨es, h3, h4⟩ := hrow k x hx
            refine ⟨es, h3, fun j u hj => ?_⟩
            have hk : k < xs.length := (List.getElem?_eq_some_iff.1 hx).1
            have hj' : j < K.sz := by rw [← h3.length]; exact (List.getElem?_eq_some_iff.1 hj).1
            have : (k + 1) * K.sz ≤ xs.length * K.sz := Nat.mul_le_mul_right _ hk
            rw [Nat.add_mul, Nat.one_mul] at this
            rw [List.getElem?_toArray, List.getElem?_take, if_pos (by omega), List.getElem?_drop, Array.getElem?_toList, ← Nat.add_assoc]
            exact h4 j u hj
        · simp at he
      · simp at he
    · rename_i β k j hv
      rw [hv] at hx
      split at he
      · rename_i K xs t' hb
        obtain ⟨hk, he⟩ := za he
        obtain ⟨v', hk', h1, h2⟩ := zB he
        simp at hk'; obtain ⟨rfl, rfl⟩ := hk'
        obtain ⟨b, o', n, sz, hr, hu⟩ := zgN hH hb (by simp) hx
        obtain ⟨_, _, C, tC, hC, _, hrow⟩ := row_of hH hb hr
        obtain ⟨es, h3, h4⟩ := hrow k (by simpa using hk)
        rw [hu, zer, ← zb]
        exact ⟨rfl, ld_core hi ha (enc_rel h3) h4 h1 h2⟩
      · simp at he
    · rename_i K y j hv
      rw [hv] at hx
      obtain ⟨v', hk', h1, h2⟩ := zB he
      simp at hk'; obtain ⟨rfl, rfl⟩ := hk'
      simp only [VRel] at hx
      obtain ⟨ad, es, hu, h3, h5, h4⟩ := hx
      rw [hu, zer]
      exact ⟨rfl, ld_core hi ha (enc_rel h3) h4 h1 h2⟩
    · simp at he
  obtain ⟨rfl, u, hr, hv⟩ := key
  refine OpOK.same hH (u := u) ?_ hv
  simp [execOp, hop, hr]
section
variable {P : Program} {o : Oper} {a : Act} {m : Bool} {ρ : Map} {H H' : Heap} {w : World} {τ : Env} {N : Nat} {T : Tab} {v : SV}
theorem zcY {s : TypeId} {fs : Array Field} {f : Nat} {fd : Field} {j : TypeInfo} (hs : P.underlying s = some (.struct fs)) (hf : fs[f]? = some fd) (hj : P.info? fd.type = some j) (h0 : j.size ≠ 0) (ad : Addr) :
    (Instr.fieldAt s (.pointer (some ad)) f).run P w = .ok (.pointer (some (ad.add fd.offset))) w := by
  simp [Instr.fieldAt, run_underlying hs, hf, Instr.sureAddr, fieldPlace, zh hj, h0]
theorem snd_fa {s : TypeId} {fs : Array Field} {f : Nat} {fd : Field} {j : TypeInfo} {x : Operand} {sx : S} (hop : o.op = .fieldAddr s x f) (hs : P.underlying s = some (.struct fs)) (hf : fs[f]? = some fd)
    (hj : P.info? fd.type = some j) (h0 : j.size ≠ 0) (hx : opL x = some sx) (ht : TRel ρ w τ a N) (hH : HRel ρ H w) (he : runI T (.fa fd.offset sx) τ H (fun v H => some (v, H)) = some (v, H')) : OpOK P o a m ρ H w v H' := by
  have hv := opL_rel ht hx
  have key : H' = H ∧ ∃ u, (Instr.fieldAt s (a.eval x) f).run P w = .ok u w ∧ VRel ρ w v u := by
    simp only [runI] at he
    split at he
    · rename_i b off e
      rw [e] at hv
      simp at he; obtain ⟨rfl, rfl⟩ := he
      simp only [VRel] at hv ⊢
      rcases hr : ρ b with _ | _ | _ | ⟨b', o', n, sz⟩ <;> rw [hr] at hv <;> simp only at hv
      · obtain ⟨ad, hv⟩ := hv
        rw [hv]
        exact ⟨trivial, _, zcY hs hf hj h0 _, _, rfl⟩
      · rw [hv]
        exact ⟨trivial, _, zcY hs hf hj h0 _, by simp only [zb, Nat.add_assoc]⟩
    · rename_i b i jj e
      rw [e] at hv
      simp at he; obtain ⟨rfl, rfl⟩ := he
      simp only [VRel] at hv ⊢
      rcases hr : ρ b with _ | _ | _ | ⟨b', o', n, sz⟩ <;> rw [hr] at hv <;> simp only at hv
      · obtain ⟨ad, hv⟩ := hv
        rw [hv]
        exact ⟨trivial, _, zcY hs hf hj h0 _, _, rfl⟩
      · rw [hv]
        exact ⟨trivial, _, zcY hs hf hj h0 _, by simp only [zb, Nat.add_assoc]⟩
    · rename_i K y jj e
      rw [e] at hv
      simp at he; obtain ⟨rfl, rfl⟩ := he
      simp only [VRel] at hv ⊢
      obtain ⟨ad, es, hu, h3, h4, h5⟩ := hv
      rw [hu]
      exact ⟨trivial, _, zcY hs hf hj h0 _, ad, es, by rw [add_add], h3, h4, h5⟩
    · simp at he
  obtain ⟨rfl, u, hr, hv⟩ := key
  exact OpOK.same hH (u := u) (by simp [execOp, hop, hr]) hv
theorem snd_mv {x : Operand} {sx : S} (hop : o.op = .move x ∨ o.op = .assign x) (hx : opL x = some sx) (ht : TRel ρ w τ a N) (hH : HRel ρ H w)
    (he : runI T (.mv sx) τ H (fun v H => some (v, H)) = some (v, H')) : OpOK P o a m ρ H w v H' := by
  simp only [runI, Option.some.injEq, Prod.mk.injEq] at he
  obtain ⟨rfl, rfl⟩ := he
  refine OpOK.same hH (u := a.eval x) ?_ (opL_rel ht hx)
  rcases hop with h | h <;> simp [execOp, h]
theorem zrn {c x y : Operand} {sc sx sy : S} (hop : o.op = .pick c x y) (hc : opL c = some sc) (hx : opL x = some sx) (hy : opL y = some sy) (ht : TRel ρ w τ a N) (hH : HRel ρ H w)
    (he : runI T (.pick sc sx sy) τ H (fun v H => some (v, H)) = some (v, H')) : OpOK P o a m ρ H w v H' := by
  have vc := opL_rel ht hc
  have vx := opL_rel ht hx
  have vy := opL_rel ht hy
  simp only [runI] at he
  split at he
  · rename_i b e
    rw [e] at vc
    simp only [VRel] at vc
    have key : H' = H ∧ VRel ρ w v (if b = true then a.eval x else a.eval y) := by
      split at he
      · rename_i p q e1 e2
        simp at he; obtain ⟨rfl, rfl⟩ := he
        rw [e1] at vx; rw [e2] at vy
        cases b
        · exact ⟨rfl, vy⟩
        · exact ⟨rfl, vx⟩
      · rcases zc he with ⟨rfl, he⟩ | ⟨rfl, he⟩
        · simp at he; obtain ⟨rfl, rfl⟩ := he; exact ⟨rfl, vx⟩
        · simp at he; obtain ⟨rfl, rfl⟩ := he; exact ⟨rfl, vy⟩
    obtain ⟨rfl, hv⟩ := key
    refine OpOK.same hH ?_ hv
    simp [execOp, hop, vc, asBool]
  · simp at he
theorem zro {x : Operand} {sx : S} (hop : o.op = .nilCheck x) (hx : opL x = some sx) (ht : TRel ρ w τ a N) (hH : HRel ρ H w)
    (he : runI T (.nilck sx) τ H (fun v H => some (v, H)) = some (v, H')) : OpOK P o a m ρ H w v H' := by
  have vx := opL_rel ht hx
  have key : H' = H ∧ VRel ρ w v (a.eval x) ∧ ((∃ ad, a.eval x = .pointer (some ad)) ∨ ∃ f p q, a.eval x = .func (.func f) p q) := by
    simp only [runI] at he
    split at he
    · rename_i b off e
      simp at he; obtain ⟨rfl, rfl⟩ := he
      rw [e] at vx
      refine ⟨rfl, vx, .inl ?_⟩
      simp only [VRel] at vx
      rcases hr : ρ b with _ | _ | _ | ⟨b', o', n, sz⟩ <;> rw [hr] at vx <;> simp only at vx
      · exact vx
      · exact ⟨_, vx⟩
    · rename_i b i j e
      simp at he; obtain ⟨rfl, rfl⟩ := he
      rw [e] at vx
      refine ⟨rfl, vx, .inl ?_⟩
      simp only [VRel] at vx
      rcases hr : ρ b with _ | _ | _ | ⟨b', o', n, sz⟩ <;> rw [hr] at vx <;> simp only at vx
      · exact vx
      · exact ⟨_, vx⟩
    · rename_i K y j e
      simp at he; obtain ⟨rfl, rfl⟩ := he
      rw [e] at vx
      refine ⟨rfl, vx, .inl ?_⟩
      simp only [VRel] at vx
      obtain ⟨ad, _, h, _⟩ := vx
      exact ⟨_, h⟩
    · rename_i f p q e
      simp at he; obtain ⟨rfl, rfl⟩ := he
      rw [e] at vx
      refine ⟨rfl, vx, .inr ?_⟩
      simp only [VRel] at vx
      obtain ⟨vf, vc, h, _⟩ := vx
      exact ⟨_, _, _, h⟩
    · simp at he
  obtain ⟨rfl, hv, h⟩ := key
  refine OpOK.same hH ?_ hv
  rcases h with ⟨ad, h⟩ | ⟨f, p, q, h⟩ <;> simp [execOp, hop, h]
theorem zlF {t : TypeId} {i : TypeInfo} {ag : Bool} {cs : List SV} {vs : Array Value} {off : Nat} (hi : P.info? t = some i) (ha : isAggL P t = some ag) (h1' : ag = false → i.size = 1)
    (hcs : VRels ρ w cs vs.toList) (h1 : ag = false → cs[off]? = some v) (h2 : ag = true → off + i.size ≤ cs.length ∧ v = .agg ((cs.drop off).take i.size)) :
    ∃ u, (part t vs off).run P w = .ok u w ∧ VRel ρ w v u := by
  unfold part
  simp only [Sem.run_bind, zaE ha, Result.andThen_ok]
  cases ag with
  | false =>
    obtain ⟨u, hu, hr⟩ := hcs.get off v (h1 rfl)
    rw [Array.getElem?_toList] at hu
    exact ⟨u, by simp [hu], hr⟩
  | true =>
    obtain ⟨hle, rfl⟩ := h2 rfl
    have hs := (hcs.split (n := off)).2.split (n := i.size)
    have hlen := hcs.length
    simp only [Array.length_toList] at hlen
    refine ⟨.agg (vs.extract off (off + i.size)), by simp [zh hi], ?_⟩
    simp only [VRel]
    refine ⟨_, rfl, ?_⟩
    have : (vs.extract off (off + i.size)).toList = (vs.toList.drop off).take i.size := by
      rw [Array.toList_extract, List.extract_eq_take_drop]
      congr 1; omega
    rw [this]; exact hs.1
theorem snd_fld {s : TypeId} {fs : Array Field} {f : Nat} {fd : Field} {j : TypeInfo} {ag : Bool} {x : Operand} {sx : S} (hop : o.op = .field s x f) (hs : P.underlying s = some (.struct fs)) (hf : fs[f]? = some fd)
    (hj : P.info? fd.type = some j) (ha : isAggL P fd.type = some ag) (h0 : ag = false → j.size = 1) (hx : opL x = some sx) (ht : TRel ρ w τ a N) (hH : HRel ρ H w)
    (he : runI T (.fld fd.offset j.size ag sx) τ H (fun v H => some (v, H)) = some (v, H')) : OpOK P o a m ρ H w v H' := by
  have hv := opL_rel ht hx
  simp only [runI] at he
  split at he
  · rename_i cs e
    rw [e] at hv
    simp only [VRel] at hv
    obtain ⟨vs, hu, hcs⟩ := hv
    obtain ⟨v', hk, h1, h2⟩ := zB he
    simp at hk; obtain ⟨rfl, rfl⟩ := hk
    obtain ⟨u, hr, hv⟩ := zlF hj ha h0 hcs h1 h2
    refine OpOK.same hH (u := u) ?_ hv
    simp [execOp, hop, hu, Instr.field, run_underlying hs, hf, asAgg, hr]
  · simp at he
theorem snd_ext {x : Operand} {sx : S} {j : Nat} (hop : o.op = .extract x j) (hx : opL x = some sx) (ht : TRel ρ w τ a N) (hH : HRel ρ H w)
    (he : runI T (.ext j sx) τ H (fun v H => some (v, H)) = some (v, H')) : OpOK P o a m ρ H w v H' := by
  have hv := opL_rel ht hx
  simp only [runI] at he
  split at he
  · rename_i cs e
    rw [e] at hv
    simp only [VRel] at hv
    obtain ⟨vs, hu, hcs⟩ := hv
    split at he
    · rename_i v' hc
      simp at he; obtain ⟨rfl, rfl⟩ := he
      obtain ⟨u, h1, h2⟩ := hcs.get _ _ hc
      rw [Array.getElem?_toList] at h1
      refine OpOK.same hH (u := u) ?_ h2
      simp [execOp, hop, hu, Instr.extract, h1]
    · simp at he
  · simp at he
theorem zes {t e : TypeId} {j : TypeInfo} {k : IntKind} {n : Int} {ad : Addr} {len c : Nat} (hu : P.underlying t = some (.slice e)) (hj : P.info? e = some j) (h0 : 0 ≤ n) (h1 : n < (len : Int)) :
    (Instr.indexAt t (.slice (some ad) len c) (.int k n)).run P w = .ok (.pointer (some (ad.add (n.toNat * j.size)))) w := by
  simp [Instr.indexAt, asIntOf, run_underlying hu, h0, h1, zh hj]
theorem zlG {t e : TypeId} {j : TypeInfo} {k : IntKind} {n : Int} {ad : Addr} {len : Nat} (hu : P.underlying t = some (.array len e)) (hj : P.info? e = some j) (h0 : 0 ≤ n) (h1 : n < (len : Int)) :
    (Instr.indexAt t (.pointer (some ad)) (.int k n)).run P w = .ok (.pointer (some (ad.add (n.toNat * j.size)))) w := by
  simp [Instr.indexAt, asIntOf, run_underlying hu, Instr.sureAddr, h0, h1, zh hj]
theorem own_rel {β : Nat} {u : Value} {x : Blk} (hH : HRel ρ H w) (hb : H[β]? = some x) (hx : x ≠ .dead) (h : VRel ρ w (.own β) u) :
    (ρ β = .none_ ∧ ∃ a, u = .slice a 0 0) ∨ ∃ b o n sz c, ρ β = .at b o n sz ∧ n ≤ c ∧ u = .slice (some ⟨b, o, none⟩) n c ∧ Room w b (o + c * sz) := by
  simp only [VRel] at h
  rcases hr : ρ β with _ | _ | _ | ⟨b, o, n, sz⟩ <;> rw [hr] at h <;> simp only at h
  · exact absurd hr (live_of hH hb hx)
  · exact .inl ⟨rfl, h⟩
  · obtain ⟨c, h1, h2, h3⟩ := h
    exact .inr ⟨b, o, n, sz, c, rfl, h1, h2, h3⟩
theorem zaF {β : Nat} {K : Kd} {xs : List K.T} {t : TypeId} (hH : HRel ρ H w) (hb : H[β]? = some (.arr K xs t)) (hr : ρ β = .none_) : xs = [] := by
  have hl : β < H.length := (List.getElem?_eq_some_iff.1 hb).1
  rcases hH.none_ β hl hr with ⟨K', t', h1⟩ | ⟨t', z', h1⟩ | ⟨e, h1⟩
  · rw [hb] at h1
    injection h1 with h1
    injection h1 with h2 h3 h4
    subst h2
    exact eq_of_heq h3
  · rw [hb] at h1; simp at h1
  · rw [hb] at h1; simp at h1
theorem zaG {β : Nat} {cs : List SV} {t : TypeId} {z : Nat} (hH : HRel ρ H w) (hb : H[β]? = some (.cells cs t z)) (hr : ρ β = .none_) : cs = [] := by
  have hl : β < H.length := (List.getElem?_eq_some_iff.1 hb).1
  rcases hH.none_ β hl hr with ⟨K', t', h1⟩ | ⟨t', z', h1⟩ | ⟨e, h1⟩
  · rw [hb] at h1; simp at h1
  · rw [hb] at h1; simp at h1; exact h1.1
  · rw [hb] at h1; simp at h1
theorem snd_ia {t e : TypeId} {j : TypeInfo} {x ix : Operand} {sx si : S} (hop : o.op = .indexAddr t x ix) (hu : P.underlying t = some (.slice e)) (hj : P.info? e = some j) (hx : opL x = some sx) (hi : opL ix = some si)
    (ht : TRel ρ w τ a N) (hH : HRel ρ H w) (he : runI T (.ia j.size sx si) τ H (fun v H => some (v, H)) = some (v, H')) : OpOK P o a m ρ H w v H' := by
  have vx := opL_rel ht hx
  have vi := opL_rel ht hi
  have key : H' = H ∧ ∃ u, (Instr.indexAt t (a.eval x) (a.eval ix)).run P w = .ok u w ∧ VRel ρ w v u := by
    simp only [runI, iaI] at he
    split at he
    · rename_i k n ei
      rw [ei] at vi
      simp only [VRel] at vi
      rw [vi]
      split at he
      · rename_i K xs ex
        rw [ex] at vx
        split at he
        · rename_i hK
          obtain ⟨h0, he⟩ := za he
          obtain ⟨h1, he⟩ := za he
          simp at he h0 h1; obtain ⟨rfl, rfl⟩ := he
          simp only [VRel, CRel] at vx
          obtain ⟨a', c, e1, hc, hx'⟩ := vx
          simp at e1
          have hpos : 0 < xs.length := by omega
          obtain ⟨ad, rfl, hB, hel⟩ := hx' hpos
          have hn : n.toNat < xs.length := by omega
          obtain ⟨es, h3, h4⟩ := hel n.toNat (xs.getD n.toNat K.dflt) (by simp [List.getD, List.getElem?_eq_getElem hn])
          rw [e1, zes hu hj h0 h1]
          refine ⟨rfl, _, rfl, ?_⟩
          simp only [VRel]
          exact ⟨ad.add (n.toNat * j.size), es, by rw [add_add, Nat.add_zero], h3, by rw [zcX]; exact hB, fun q u hq => by rw [add_add, ← hK]; exact h4 q u hq⟩
        · simp at he
      · rename_i β ex
        rw [ex] at vx
        split at he
        · rename_i K xs t' hb
          split at he
          · rename_i hK
            obtain ⟨h0, he⟩ := za he
            obtain ⟨h1, he⟩ := za he
            simp at he h0 h1; obtain ⟨rfl, rfl⟩ := he
            rcases own_rel hH hb (by simp) vx with ⟨hr, _⟩ | ⟨b, o', n', sz, c, hr, hc, hv, hroom⟩
            · have := zaF hH hb hr; subst this; simp at h1; omega
            · obtain ⟨hsz, hn, _⟩ := row_of hH hb hr
              rw [hv, zes hu hj h0 (by rw [← hn]; exact h1)]
              refine ⟨rfl, _, rfl, ?_⟩
              simp only [VRel, hr]
              rw [zb, ← hsz, hK]; rfl
          · simp at he
        · rename_i cs t' z hb
          split at he
          · rename_i hz
            obtain ⟨hz1, hz⟩ := hz
            obtain ⟨h0, he⟩ := za he
            obtain ⟨h1, he⟩ := za he
            simp at he h0; obtain ⟨rfl, rfl⟩ := he
            have h1 := of_decide_eq_true h1
            rcases own_rel hH hb (by simp) vx with ⟨hr, _⟩ | ⟨b, o', n', sz, c, hr, hc, hv, hroom⟩
            · have := zaG hH hb hr; subst this; simp at h1; omega
            · obtain ⟨C, tC, _, hsz, hn, _⟩ := zn hH hb hr
              have hn' : cs.length / j.size = n' := by rw [hn, ← hsz, hz1]; exact Nat.mul_div_cancel _ (by omega)
              rw [hn'] at h1
              rw [hv, zes hu hj h0 h1]
              refine ⟨rfl, _, rfl, ?_⟩
              simp only [VRel, hr]
              rw [zb]
          · simp at he
        · simp at he
      · rename_i β off len ex
        rw [ex] at vx
        split at he
        · rename_i K xs t' hb
          split at he
          · rename_i hK
            obtain ⟨h0, he⟩ := za he
            obtain ⟨h1, he⟩ := za he
            simp at he h0 h1; obtain ⟨rfl, rfl⟩ := he
            simp only [VRel] at vx
            rcases hr : ρ β with _ | _ | _ | ⟨b, o', n', sz⟩ <;> rw [hr] at vx <;> simp only at vx
            · exact absurd hr (live_of hH hb (by simp))
            · obtain ⟨rfl, _⟩ := vx; simp at h1; omega
            · obtain ⟨hle, a', c, hv, hc, h5⟩ := vx
              obtain ⟨hsz, hn, _⟩ := row_of hH hb hr
              rcases h5 with ⟨rfl, _⟩ | ⟨rfl, _⟩
              · simp at h1; omega
              · rw [hv, zes hu hj h0 h1]
                refine ⟨rfl, _, rfl, ?_⟩
                simp only [VRel, hr]
                rw [zb, ← hsz, hK, Nat.add_mul, Nat.add_assoc]; rfl
          · simp at he
        · simp at he
      · simp at he
    · simp at he
  obtain ⟨rfl, u, hr, hv⟩ := key
  exact OpOK.same hH (u := u) (by simp [execOp, hop, hr]) hv
theorem snd_iar {t e : TypeId} {j : TypeInfo} {len : Nat} {x ix : Operand} {sx si : S} (hop : o.op = .indexAddr t x ix) (hu : P.underlying t = some (.array len e)) (hj : P.info? e = some j) (hx : opL x = some sx) (hi : opL ix = some si)
    (ht : TRel ρ w τ a N) (hH : HRel ρ H w) (he : runI T (.iar len j.size sx si) τ H (fun v H => some (v, H)) = some (v, H')) : OpOK P o a m ρ H w v H' := by
  have vx := opL_rel ht hx
  have vi := opL_rel ht hi
  have key : H' = H ∧ ∃ u, (Instr.indexAt t (a.eval x) (a.eval ix)).run P w = .ok u w ∧ VRel ρ w v u := by
    simp only [runI, iarI] at he
    split at he
    · rename_i k n ei
      rw [ei] at vi
      simp only [VRel] at vi
      rw [vi]
      split at he
      · rename_i β off ex
        rw [ex] at vx
        split at he
        · rename_i K xs t' hb
          split at he
          · split at he
            · rename_i hK
              obtain ⟨h0, he⟩ := za he
              obtain ⟨h1, he⟩ := za he
              simp at he h0 h1; obtain ⟨rfl, rfl⟩ := he
              obtain ⟨b, o', n', sz, hr, hv⟩ := ptr_rel hH hb (by simp) vx
              obtain ⟨hsz, hn, _⟩ := row_of hH hb hr
              rw [hv, zlG hu hj h0 h1]
              refine ⟨rfl, _, rfl, ?_⟩
              simp only [VRel, hr]
              rw [zb, ← hsz, hK]; rfl
            · simp at he
          · simp at he
        · rename_i cs t' z hb
          obtain ⟨h0, he⟩ := za he
          obtain ⟨h1, he⟩ := za he
          simp at he h0 h1; obtain ⟨rfl, rfl⟩ := he
          obtain ⟨b, o', n', sz, hr, hv⟩ := ptr_rel hH hb (by simp) vx
          rw [hv, zlG hu hj h0 h1]
          refine ⟨rfl, _, rfl, ?_⟩
          simp only [VRel, hr]
          rw [zb, Nat.add_assoc]
        · simp at he
      · simp at he
    · simp at he
  obtain ⟨rfl, u, hr, hv⟩ := key
  exact OpOK.same hH (u := u) (by simp [execOp, hop, hr]) hv
theorem snd_ixa {t e : TypeId} {j : TypeInfo} {len : Nat} {ag : Bool} {x ix : Operand} {sx si : S} (hop : o.op = .index t x ix) (hu : P.underlying t = some (.array len e)) (hj : P.info? e = some j) (ha : isAggL P e = some ag)
    (hs1 : ag = false → j.size = 1) (hx : opL x = some sx) (hi : opL ix = some si)
    (ht : TRel ρ w τ a N) (hH : HRel ρ H w) (he : runI T (.ixa len j.size ag sx si) τ H (fun v H => some (v, H)) = some (v, H')) : OpOK P o a m ρ H w v H' := by
  have vx := opL_rel ht hx
  have vi := opL_rel ht hi
  have key : H' = H ∧ ∃ u, (Instr.index t (a.eval x) (a.eval ix)).run P w = .ok u w ∧ VRel ρ w v u := by
    simp only [runI, ixaI] at he
    split at he
    · rename_i k n ei
      rw [ei] at vi
      simp only [VRel] at vi
      rw [vi]
      split at he
      · rename_i K xs ex
        rw [ex] at vx
        split at he
        · rename_i hK
          obtain ⟨h0, he⟩ := za he
          obtain ⟨h1, he⟩ := za he
          obtain ⟨h2, he⟩ := za he
          simp at h0 h1 h2
          obtain ⟨v', hk, h3, h4⟩ := zB he
          simp at hk; obtain ⟨rfl, rfl⟩ := hk
          simp only [VRel] at vx
          obtain ⟨vs, hv, hsz, hel⟩ := vx
          have hn : n.toNat < xs.length := by omega
          obtain ⟨es, h5, h6⟩ := hel n.toNat (xs.getD n.toNat K.dflt) (by simp [List.getD, List.getElem?_eq_getElem hn])
          have hes := enc_rel h5
          have hidx : Instr.index t (.agg vs) (.int k n) = Instr.index t (.agg vs) (.int k n) := rfl
          rw [hv]
          simp only [Instr.index, asIntOf, Sem.run_bind, Sem.run_pure, Result.andThen_ok, run_underlying hu, zh hj]
          rw [if_pos ⟨h0, h1⟩]
          simp only [Sem.run_bind, zh hj, Result.andThen_ok]
          refine ⟨by first | rfl | trivial, ?_⟩
          unfold part
          simp only [Sem.run_bind, zaE ha, Result.andThen_ok]
          cases ag with
          | false =>
            obtain ⟨u, h7, h8⟩ := hes.get 0 v' (h3 rfl)
            have := h6 0 u h7
            rw [Nat.add_zero, hK] at this
            exact ⟨u, by simp [this], h8⟩
          | true =>
            obtain ⟨h9, rfl⟩ := h4 rfl
            have hel' : (enc K (xs.getD n.toNat K.dflt)).length = j.size := by rw [zY, hK]
            refine ⟨.agg (vs.extract (n.toNat * j.size) (n.toNat * j.size + j.size)), by simp [zh hj], ?_⟩
            simp only [VRel]
            refine ⟨_, rfl, ?_⟩
            have hle : (n.toNat + 1) * j.size ≤ xs.length * j.size := Nat.mul_le_mul_right _ hn
            rw [Nat.add_mul, Nat.one_mul] at hle
            have hex : (vs.extract (n.toNat * j.size) (n.toNat * j.size + j.size)).toList = es := by
              apply List.ext_getElem?
              intro q
              rw [Array.toList_extract, List.extract_eq_take_drop, List.getElem?_take]
              have hlen := h5.length
              by_cases hq : q < j.size
              · rw [if_pos (by omega), List.getElem?_drop, Array.getElem?_toList]
                have hqe : q < es.length := by omega
                have := h6 q es[q] (List.getElem?_eq_getElem hqe)
                rw [hK] at this
                rw [this, List.getElem?_eq_getElem hqe]
              · rw [if_neg (by omega), List.getElem?_eq_none (by omega)]
            rw [hex, List.drop_zero, List.take_of_length_le (by omega)]
            exact hes
        · simp at he
      · rename_i cs ex
        rw [ex] at vx
        obtain ⟨h0, he⟩ := za he
        obtain ⟨h1, he⟩ := za he
        simp at h0 h1
        obtain ⟨v', hk, h3, h4⟩ := zB he
        simp at hk; obtain ⟨rfl, rfl⟩ := hk
        simp only [VRel] at vx
        obtain ⟨vs, hv, hcs⟩ := vx
        rw [hv]
        simp only [Instr.index, asIntOf, Sem.run_bind, Sem.run_pure, Result.andThen_ok, run_underlying hu]
        rw [if_pos ⟨h0, h1⟩]
        simp only [Sem.run_bind, zh hj, Result.andThen_ok]
        exact ⟨by first | rfl | trivial, zlF hj ha hs1 hcs h3 h4⟩
      · simp at he
    · simp at he
  obtain ⟨rfl, u, hr, hv⟩ := key
  exact OpOK.same hH (u := u) (by simp [execOp, hop, hr]) hv
end
end Go.Proofs.Ytmkekjmckdkcnaa.Den
