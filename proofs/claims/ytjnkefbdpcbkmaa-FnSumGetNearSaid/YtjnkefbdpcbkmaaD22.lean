/- Contracts of functions that make a struct and hand over a pointer to it. -/
import Derived.Test.YtjnkefbdpcbkmaaD21
namespace Go.Proofs.Ytjnkefbdpcbkmaa.Den
open Go Go.RowKit
set_option linter.unusedVariables false
set_option linter.unusedSimpArgs false

structure TFP where
  ps : List Pm
  cs : List (Kd × Bool)
  t : TypeId
  fn : PsT ps → Option (CsT cs)

def TFP.rf (tf : TFP) : Rf := .cells tf.cs tf.t

def TFP.te (tf : TFP) : TE where
  X := PsT tf.ps
  Y := CsT tf.cs
  mono := true
  view args H := viewPs [] tf.ps args
  fn := tf.fn
  put _ y _ H := some (.ptr H.length 0, H ++ [.cells (svCs tf.cs y) tf.t tf.cs.length])

def FnSpecP (P : Program) (f : FuncId) (tf : TFP) : Prop :=
  ∀ (w : World) (res : Nat → Prop) (vs : List Value) (x : PsT tf.ps) (y : CsT tf.cs), (∀ b, res b → b < w.heap.size) → PsRel w (fun b => b < w.heap.size ∧ ¬ res b) tf.ps x vs → tf.fn x = some y →
    Calls P f vs.toArray w fun e w' => ∃ b o, e = .returned (.pointer (some ⟨b, o, none⟩)) ∧ w'.os = w.os ∧ w'.tape = w.tape ∧ w'.output = w.output ∧ w.heap.size ≤ w'.heap.size ∧ (∀ b, b < w.heap.size → w'.heap[b]? = w.heap[b]?) ∧
      w.heap.size ≤ b ∧ RefAt w' (fun b' => b' < w'.heap.size ∧ ¬ res b' ∧ b' ≠ b) (.cells tf.cs tf.t) y b o

def endP (rv : List (Nat × Option (Nat × Bool))) (cs : List (Kd × Bool)) (t : TypeId) (ex : Ex) (τ : Env) (H : Heap) : Option (CsT cs) :=
  match ex with
  | .exit _ => none
  | _ => match evalRes τ H rv with
    | some [.ptr β 0] => Rf.view (H.set β .dead) (.cells cs t) H[β]?
    | _ => none

section
variable {P : Program}

theorem fn_specP {T : Tab} {f : FuncId} {fn : Func} {c : Code} {tf : TFP} {frz : List Nat} {ann : List Norm} {cuts : List (Nat × Norm)} {ci : C} {j fuel : Nat} {rv : List (Nat × Option (Nat × Bool))} (hT : TabOK P T) (hmix : P.follows .mixedOrders = true)
    (hf : P.funcs[f]? = some fn) (hb : fn.body = some c) (hl : lightC P frz fn.ntmps ann cuts 0 c = some (ci, j)) (ho : okC T c ci = true) (hn : tf.ps.length ≤ fn.ntmps) (hrv : lightRes P fn.results.toList = some rv)
    (hrun : ∀ x, run T 0 fuel ci (env0 (svPs tf.ps x) 0) [] (endP rv tf.cs tf.t) = tf.fn x) : FnSpecP P f tf := by
  intro w res vs x y hres hps hy
  refine calls_of_wp hf hb ?_
  let ρ0 : Map := ⟨fun _ => .unborn, res⟩
  have hv : VRels ρ0 w (svPs tf.ps x) vs := svPs_rel (fun b hb => ⟨hb.1, hb.2, fun _ _ _ _ h => by cases h⟩) hps
  have hpl : ∀ {ps : List Pm} {x : PsT ps}, (svPs ps x).length = ps.length := by
    intro ps
    induction ps with
    | nil => intro x; rfl
    | cons p r ih => intro x; simp [svPs, ih]
  have hvl := hv.length
  rw [hpl] at hvl
  have hat : At P fn.ntmps ρ0 [] w (env0 (svPs tf.ps x) 0) { tmps := vs.toArray ++ Array.replicate (fn.ntmps - vs.toArray.size) undef, defers := [] } := by
    refine ⟨⟨by simp; omega, rfl, fun n => ?_⟩, ?_, fun _ _ => rfl⟩
    · rw [env0_get]
      simp only [Nat.zero_le, if_true, Nat.sub_zero]
      split
      · rename_i s hs
        obtain ⟨u, h1, h2⟩ := hv.get n s hs
        have : (vs.toArray ++ Array.replicate (fn.ntmps - vs.toArray.size) undef).getD n undef = u := by
          rw [Array.getD_eq_getD_getElem?, Array.getElem?_append_left (by have := (List.getElem?_eq_some_iff.1 h1).1; simpa using this)]
          simp [h1]
        rw [this]; exact h2
      · simp [VRel]
    · exact ⟨fun β h => by simp at h, fun β h => by simp at h, fun β h => by simp at h, fun _ _ _ _ _ _ _ _ _ h => by (cases h), fun _ _ _ _ _ h => by (cases h), hres, fun _ _ _ _ _ h => by (cases h)⟩
  have hrun' := hrun x
  rw [hy] at hrun'
  refine code_sound hT hmix c hl ho hat hrun' fun ex τ' H' ρ' a' w' h1 h2 h3 => ?_
  have hend : ∃ β, evalRes τ' H' rv = some [.ptr β 0] ∧ Rf.view (H'.set β .dead) (.cells tf.cs tf.t) H'[β]? = some y ∧ (ex = .normal ∨ ex = .ret) := by
    unfold endP at h3
    split at h3
    · simp at h3
    · rename_i hex
      split at h3
      · rename_i β h4
        refine ⟨β, h4, h3, ?_⟩
        cases ex with
        | normal => exact .inl rfl
        | ret => exact .inr rfl
        | exit id => exact absurd rfl (hex id)
      · simp at h3
  obtain ⟨β, h4, h6, hex⟩ := hend
  obtain ⟨us, h8, h9⟩ := results_sound h1.t h1.h hrv h4
  have h9' := resV_rel h9
  simp only [resV] at h9'
  obtain ⟨y0, hy0, hnd⟩ := Rf.view_some h6
  obtain ⟨b, o, n, sz, hr, hu⟩ := ptr_rel h1.h hy0 hnd h9'
  rw [Nat.add_zero] at hu
  have hl0 : β < H'.length := (List.getElem?_eq_some_iff.1 hy0).1
  have g3 := Gave.of_take h1.h h1.u hl0 hr
  have hd : ∀ {K : Kd} {s : SV} {x : K.T} {u : Value}, decH true (H'.set β .dead) K [s] = some x → VRel ρ' w' s u → CRel w' (fun b' => Free (ρ'.take β b) w' b' ∨ ∃ γ o n sz, (ρ'.take β b) γ = .at b' o n sz) K x [u] := fun h11 h12 =>
    decH_rel g3.h (fun b hb => .inl hb) (fun γ b o n sz _ hg => .inr ⟨γ, o, n, sz, hg⟩) h11 (VRels.single (h12.stepF g3.st))
  have hB3 : ∀ b', (Free (ρ'.take β b) w' b' ∨ ∃ γ o n sz, (ρ'.take β b) γ = .at b' o n sz) → b' < w'.heap.size ∧ ¬ res b' ∧ b' ≠ b := by
    intro b' hb
    have hr0 : ρ'.res = res := h2.res
    have : b' < w'.heap.size ∧ ¬ (ρ'.take β b).res b' := by
      rcases hb with hb | ⟨γ, o, n, sz, hb⟩
      · exact ⟨hb.1, hb.2.1⟩
      · exact ⟨g3.h.lt _ _ _ _ _ hb, g3.h.resf _ _ _ _ _ hb⟩
    exact ⟨this.1, fun h => this.2 (.inl (by rw [hr0]; exact h)), fun h => this.2 (.inr h)⟩
  obtain ⟨k1, _, _, _, _⟩ := RefAt.of_view (ρ := ρ') hd (fun b hb => .inl (take_free hr b hb)) h1.h hr h6
  have hbn : w.heap.size ≤ b := by
    rcases h2.img β b o n sz hr with ⟨_, _, _, _, h⟩ | h
    · cases h
    · exact h
  have hpost : a'.defers = [] ∧ ∃ v, (results fn a'.tmps).run P w' = .ok v w' ∧ (fun e w' => ∃ b o, e = Ending.returned (.pointer (some ⟨b, o, none⟩)) ∧ w'.os = w.os ∧ w'.tape = w.tape ∧ w'.output = w.output ∧ w.heap.size ≤ w'.heap.size ∧ (∀ b, b < w.heap.size → w'.heap[b]? = w.heap[b]?) ∧
      w.heap.size ≤ b ∧ RefAt w' (fun b' => b' < w'.heap.size ∧ ¬ res b' ∧ b' ≠ b) (.cells tf.cs tf.t) y b o) (Ending.returned v) w' := by
    refine ⟨h1.t.2.1, resU us, h8, b, o, by rw [hu], h2.os, h2.tape, h2.output, h2.size, fun b hb => h2.kept b hb (fun _ _ _ _ h => by (cases h)), hbn, k1.mono hB3⟩
  rcases hex with rfl | rfl
  · exact hpost
  · exact hpost

theorem te_soundP {f : FuncId} {tf : TFP} (h : FnSpecP P f tf) : TESound P f tf.te := by
  intro ρ H w args vs x y v H' hH hv hun hview hfn hput
  change PsT tf.ps at x
  change CsT tf.cs at y
  have hput' : v = .ptr H.length 0 ∧ H' = H ++ [.cells (svCs tf.cs y) tf.t tf.cs.length] := by
    simp only [TFP.te, Option.some.injEq, Prod.mk.injEq] at hput
    exact ⟨hput.1.symm, hput.2.symm⟩
  obtain ⟨rfl, rfl⟩ := hput'
  let res : Nat → Prop := fun b => ρ.res b ∨ ∃ β o n sz, ρ β = .at b o n sz
  have hres : ∀ b, res b → b < w.heap.size := by
    rintro b (hb | ⟨β, o, n, sz, hb⟩)
    · exact hH.resl b hb
    · exact hH.lt _ _ _ _ _ hb
  have hps : PsRel w (fun b => b < w.heap.size ∧ ¬ res b) tf.ps x vs := by
    refine PsRel.of_view (ρ := ρ) (H := []) (fun {K s x u} h1 h2 => ?_) hview hv
    exact CRel.mono (fun b hb => ⟨hb.1, fun h3 => by
      rcases h3 with h3 | ⟨β, o, n, sz, h3⟩
      · exact hb.2.1 h3
      · exact hb.2.2 _ _ _ _ h3⟩) (fun _ _ => rfl) (decC_rel h1 (VRels.single h2))
  refine Calls.mono (h w res vs x y hres hps hfn) fun e w' he => ?_
  obtain ⟨b, o, rfl, hos, htape, hout, hsize, hkept, hbn, href⟩ := he
  have hu : ρ H.length = .unborn := hun _ (Nat.le_refl _) (by simp)
  have hbl := href.lt
  let ρ' := ρ.put H.length (.at b o 1 tf.cs.length)
  have hsb : ∀ {β b o n sz}, ρ β = .at b o n sz → b < w.heap.size := fun h => hH.lt _ _ _ _ _ h
  have hcase : ∀ {β b1 o1 n1 sz1}, ρ' β = .at b1 o1 n1 sz1 → (β ≠ H.length ∧ ρ β = .at b1 o1 n1 sz1) ∨ (β = H.length ∧ b1 = b ∧ o1 = o ∧ n1 = 1 ∧ sz1 = tf.cs.length) := by
    intro β b1 o1 n1 sz1 h1
    by_cases e : β = H.length
    · subst e
      simp only [ρ', Map.put_same] at h1
      injection h1 with h2 h3 h4 h5
      exact .inr ⟨rfl, h2.symm, h3.symm, h4.symm, h5.symm⟩
    · simp only [ρ', Map.put_other _ _ e] at h1
      exact .inl ⟨e, h1⟩
  have hstep : Step ρ w ρ' w' := {
    os := hos, tape := htape, output := hout, size := hsize
    kept := fun b hb _ => hkept b hb
    shape := fun b C t fr hb => ⟨C, by rw [hkept b (Array.getElem?_eq_some_iff.1 hb).1]; exact hb, rfl⟩
    img := fun β b1 o1 n1 sz1 hb => by
      rcases hcase hb with ⟨_, h2⟩ | ⟨_, rfl, _⟩
      · exact .inl ⟨β, _, _, _, h2⟩
      · exact .inr hbn
    ref := fun β hb => .inl (Map.put_other _ _ (fun e => hb (by rw [e]; exact hu)))
    res := rfl }
  have hfree : ∀ b', (b' < w'.heap.size ∧ ¬ res b' ∧ b' ≠ b) → Free ρ' w' b' := fun b' hb => ⟨hb.1, fun h3 => hb.2.1 (.inl h3), fun β o n sz h1 => by
    rcases hcase h1 with ⟨_, h2⟩ | ⟨_, h2, _⟩
    · exact hb.2.1 (.inr ⟨_, _, _, _, h2⟩)
    · exact hb.2.2 h2⟩
  have hbr : BRel ρ' w' b o 1 tf.cs.length (.cells (svCs tf.cs y) tf.t tf.cs.length) := href.brel (rf := .cells tf.cs tf.t) hfree rfl rfl fun _ _ e => (by cases e)
  refine ⟨_, ρ', rfl, hstep, ?_, ?_, by simp, ?_, ?_⟩
  · constructor
    · intro β hl hd
      by_cases e : β = H.length
      · subst e; simp only [ρ', Map.put_same] at hd; cases hd
      · simp only [ρ', Map.put_other _ _ e] at hd
        have hl' : β < H.length := by simp at hl; omega
        rw [List.getElem?_append_left hl']; exact hH.dead β hl' hd
    · intro β hl hd
      by_cases e : β = H.length
      · subst e; simp only [ρ', Map.put_same] at hd; cases hd
      · simp only [ρ', Map.put_other _ _ e] at hd
        have hl' : β < H.length := by simp at hl; omega
        rw [List.getElem?_append_left hl']; exact hH.none_ β hl' hd
    · intro β hl b1 o1 n1 sz1 hd
      rcases hcase hd with ⟨e, h2⟩ | ⟨rfl, rfl, rfl, rfl, rfl⟩
      · have hl' : β < H.length := by simp at hl; omega
        obtain ⟨z, h3, h4⟩ := hH.at_ β hl' _ _ _ _ h2
        exact ⟨z, by rw [List.getElem?_append_left hl']; exact h3, h4.keep hstep (hkept b1 (hsb h2))⟩
      · exact ⟨_, by simp, hbr⟩
    · intro β γ b1 o1 n1 sz1 o2 n2 sz2 h1 h2
      rcases hcase h1 with ⟨e, h3⟩ | ⟨rfl, rfl, _⟩ <;> rcases hcase h2 with ⟨e2, h4⟩ | ⟨rfl, h5, _⟩
      · exact hH.inj _ _ _ _ _ _ _ _ _ h3 h4
      · have := hsb h3; omega
      · have := hsb h4; omega
      · rfl
    · intro β b1 o1 n1 sz1 h1
      rcases hcase h1 with ⟨e, h3⟩ | ⟨rfl, rfl, _⟩
      · have := hsb h3; omega
      · exact hbl
    · intro b hb; have := hH.resl b hb; omega
    · intro β b1 o1 n1 sz1 h1 hr
      rcases hcase h1 with ⟨e, h3⟩ | ⟨rfl, rfl, _⟩
      · exact hH.resf _ _ _ _ _ h3 hr
      · have := hH.resl _ hr; omega
  · simp only [VRel, ρ', Map.put_same, Nat.add_zero]
  · intro γ hb hc
    have e : γ ≠ H.length := by rintro rfl; simp at hc; omega
    simp only [ρ', Map.put_other _ _ e]; exact hb
  · intro _
    refine ⟨⟨_, rfl⟩, fun γ hc => ?_, fun b hb => hkept b hb⟩
    have e : γ ≠ H.length := by rintro rfl; simp at hc; omega
    simp only [ρ', Map.put_other _ _ e]
end
end Go.Proofs.Ytjnkefbdpcbkmaa.Den
