/- Tables of callees from a list; a function's loops, with what comes behind them. -/
import Derived.Test.YtjnkefbdpcbkmaaD23
namespace Go.Proofs.Ytjnkefbdpcbkmaa.Den
open Go Go.RowKit
set_option linter.unusedVariables false

def teIn : List (Nat × TE) → Nat → Option TE
  | [], _ => none
  | (g, te) :: r, f => cond (Nat.beq g f) (some te) (teIn r f)

def methIn : List (Nat × String × Nat) → Nat → String → Option Nat
  | [], _, _ => none
  | (t, m, f) :: r, t', m' => cond (Nat.beq t t' && decide (m = m')) (some f) (methIn r t' m')

def Tab.of (l : List (Nat × TE)) (ms : List (Nat × String × Nat)) : Tab := ⟨teIn l, methIn ms⟩

/-- One entry of a table is as it says. -/
structure EntryOK (P : Program) (f : Nat) (te : TE) : Prop where
  snd : TESound P f te
  fn : ∃ fn, P.funcs[f]? = some fn ∧ fn.name ≠ "runtime.NumGoroutine" ∧ fn.body.isSome = true
  ext : te.mono = true → ∀ x y args H v H', te.put x y args H = some (v, H') → ∃ Δ, H' = H ++ Δ
  tch : ∀ x y args H v H', te.view args H = some x → te.put x y args H = some (v, H') → H.length ≤ H'.length ∧ ∀ γ, γ < H.length → γ ∉ (args.headD .junk).refs → H'[γ]? = H[γ]?

def MethOK (P : Program) (t : Nat) (m : String) (f : Nat) : Prop := ∀ v args w, (callMethod (.iface t v) m args).run P w = .ok (.enter f (#[v] ++ args)) w

theorem teIn_some {l : List (Nat × TE)} {f : Nat} {te : TE} (h : teIn l f = some te) : (f, te) ∈ l := by
  induction l with
  | nil => simp [teIn] at h
  | cons p r ih =>
    obtain ⟨g, te'⟩ := p
    simp only [teIn] at h
    cases hb : Nat.beq g f with
    | true =>
      rw [hb] at h
      have h2 : te' = te := Option.some.inj h
      rw [Nat.eq_of_beq_eq_true hb, h2]; simp
    | false =>
      rw [hb] at h
      exact List.mem_cons_of_mem _ (ih h)

theorem methIn_some {l : List (Nat × String × Nat)} {t : Nat} {m : String} {f : Nat} (h : methIn l t m = some f) : (t, m, f) ∈ l := by
  induction l with
  | nil => simp [methIn] at h
  | cons p r ih =>
    obtain ⟨t', m', f'⟩ := p
    simp only [methIn] at h
    rcases cond_some h with ⟨h1, h2⟩ | ⟨_, h2⟩
    · simp only [Bool.and_eq_true, decide_eq_true_eq] at h1
      simp at h2; subst h2
      rw [Nat.eq_of_beq_eq_true h1.1, h1.2]; simp
    · exact List.mem_cons_of_mem _ (ih h2)

theorem TabOK.of {P : Program} {l : List (Nat × TE)} {ms : List (Nat × String × Nat)} (h : ∀ p ∈ l, EntryOK P p.1 p.2) (hm : ∀ p ∈ ms, MethOK P p.1 p.2.1 p.2.2) : TabOK P (Tab.of l ms) where
  te f te hte := (h _ (teIn_some hte)).snd
  fn f te hte := (h _ (teIn_some hte)).fn
  ext f te hte := (h _ (teIn_some hte)).ext
  tch f te hte := (h _ (teIn_some hte)).tch
  meth t m f hf := hm _ (methIn_some hf)

theorem ext_tch {te : TE} {x : te.X} {y : te.Y} {args : List SV} {H : Heap} {v : SV} {H' : Heap} (h : ∃ Δ, H' = H ++ Δ) : H.length ≤ H'.length ∧ ∀ γ, γ < H.length → γ ∉ (args.headD .junk).refs → H'[γ]? = H[γ]? := by
  obtain ⟨Δ, rfl⟩ := h
  exact ⟨by simp, fun γ h _ => List.getElem?_append_left h⟩

theorem putCs_ext : ∀ {cs : List (Kd × Bool)} {x : CsT cs} {H : Heap}, ∃ Δ, (putCs cs x H).2 = H ++ Δ := by
  intro cs
  induction cs with
  | nil => intro x H; exact ⟨[], by simp [putCs]⟩
  | cons c cs ih =>
    intro x H
    match c, x with
    | (.list e, true), x =>
      obtain ⟨Δ, h⟩ := ih (x := x.2) (H := H ++ [.arr e x.1 0])
      exact ⟨_, by simp only [putCs]; rw [h, List.append_assoc]⟩
    | (.list e, false), x => exact ih (x := x.2) (H := H)
    | (.int _, _), x => exact ih (x := x.2) (H := H)
    | (.bool, _), x => exact ih (x := x.2) (H := H)
    | (.unit, _), x => exact ih (x := x.2) (H := H)
    | (.pair _ _, _), x => exact ih (x := x.2) (H := H)

theorem putPs_ext : ∀ {ps : List Pm} {y : PsT ps} {H : Heap}, ∃ Δ, (putPs ps y H).2 = H ++ Δ := by
  intro ps
  induction ps with
  | nil => intro y H; exact ⟨[], by simp [putPs]⟩
  | cons p ps ih =>
    intro y H
    obtain ⟨Δ1, h1⟩ := putCs_ext (cs := p.cs) (x := y.1) (H := H)
    obtain ⟨Δ2, h2⟩ := ih (y := y.2) (H := (putCs p.cs y.1 H).2)
    exact ⟨Δ1 ++ Δ2, by simp only [putPs]; rw [h2, h1, List.append_assoc]⟩

theorem set_ext_tch {H Δ : Heap} {β : Nat} {x : Blk} {l : List Nat} (hβ : β ∈ l) : H.length ≤ (H.set β x ++ Δ).length ∧ ∀ γ, γ < H.length → γ ∉ l → (H.set β x ++ Δ)[γ]? = H[γ]? :=
  ⟨by simp, fun γ h1 h2 => by rw [List.getElem?_append_left (by simpa using h1), List.getElem?_set_ne (fun e : β = γ => h2 (by rw [← e]; exact hβ))]⟩

theorem EntryOK.tf {P : Program} {f : Nat} {tf : TF} (hok : tf.ok = true) (h : FnSpec P f tf) (hf : ∃ fn, P.funcs[f]? = some fn ∧ fn.name ≠ "runtime.NumGoroutine" ∧ fn.body.isSome = true) : EntryOK P f tf.te where
  snd := te_sound hok h
  fn := hf
  ext _ x y args H v H' hp := by
    have h2 : (putPs tf.rs y H).2 = H' := congrArg Prod.snd (Option.some.inj hp)
    rw [← h2]; exact putPs_ext
  tch x y args H v H' _ hp := by
    have h2 : (putPs tf.rs y H).2 = H' := congrArg Prod.snd (Option.some.inj hp)
    rw [← h2]; exact ext_tch (te := tf.te) (x := x) (y := y) (v := v) putPs_ext

theorem EntryOK.tfu {P : Program} {f : Nat} {tf : TFU} (h : FnSpecU P f tf) (hf : ∃ fn, P.funcs[f]? = some fn ∧ fn.name ≠ "runtime.NumGoroutine" ∧ fn.body.isSome = true) : EntryOK P f tf.te where
  snd := te_soundU h
  fn := hf
  ext hm := by simp [TFU.te] at hm
  tch x y args H v H' hv hp := by
    change tf.rf.T × PsT tf.rs at y
    simp only [TFU.te] at hp
    split at hp
    · rename_i β r
      have h2 : (putPs tf.rs y.2 (H.set β (tf.rf.blk y.1))).2 = H' := congrArg Prod.snd (Option.some.inj hp)
      obtain ⟨Δ, h3⟩ := putPs_ext (ps := tf.rs) (y := y.2) (H := H.set β (tf.rf.blk y.1))
      rw [← h2, h3]
      exact set_ext_tch (by simp [SV.refs])
    · simp at hp

theorem EntryOK.tfp {P : Program} {f : Nat} {tf : TFP} (h : FnSpecP P f tf) (hf : ∃ fn, P.funcs[f]? = some fn ∧ fn.name ≠ "runtime.NumGoroutine" ∧ fn.body.isSome = true) : EntryOK P f tf.te where
  snd := te_soundP h
  fn := hf
  ext _ x y args H v H' hp := ⟨_, (congrArg Prod.snd (Option.some.inj hp)).symm⟩
  tch x y args H v H' _ hp := ext_tch (te := tf.te) (x := x) (y := y) (v := v) ⟨_, (congrArg Prod.snd (Option.some.inj hp)).symm⟩

/-! ### a function's loops -/
def C.loops : C → Nat
  | .seq a b => a.loops + b.loops
  | .cnd _ a b => a.loops + b.loops
  | .blk _ a => a.loops
  | .loop _ a => a.loops + 1
  | _ => 0

/-- The loop with a number, in the text's order: what its head keeps, its body. -/
def C.loopAt : C → Nat → Option (Norm × C)
  | .seq a b, i => cond (Nat.blt i a.loops) (a.loopAt i) (b.loopAt (i - a.loops))
  | .cnd _ a b, i => cond (Nat.blt i a.loops) (a.loopAt i) (b.loopAt (i - a.loops))
  | .blk _ a, i => a.loopAt i
  | .loop nm a, i => match i with
    | 0 => some (nm, a)
    | i + 1 => a.loopAt i
  | _, _ => none
def C.nmAt (c : C) (i : Nat) : Norm := match c.loopAt i with | some p => p.1 | none => ⟨[], []⟩
def C.bdAt (c : C) (i : Nat) : C := match c.loopAt i with | some p => p.2 | none => .skip

/-- What comes behind the loop with a number; 'G': the next rounds of the loops about it, by number from 'j' on. -/
def C.contAt {R : Type} (T : Tab) (n0 fuel : Nat) (G : Nat → Env → Heap → Option R) : C → Nat → Nat → (Ex → Env → Heap → Option R) → (Ex → Env → Heap → Option R)
  | .seq a b, j, i, k => cond (Nat.blt i a.loops) (a.contAt T n0 fuel G j i (seqK (run T n0 fuel b) k)) (b.contAt T n0 fuel G (j + a.loops) (i - a.loops) k)
  | .cnd _ a b, j, i, k => cond (Nat.blt i a.loops) (a.contAt T n0 fuel G j i k) (b.contAt T n0 fuel G (j + a.loops) (i - a.loops) k)
  | .blk id a, j, i, k => a.contAt T n0 fuel G j i (blkK id k)
  | .loop nm a, j, i, k => match i with
    | 0 => k
    | i + 1 => a.contAt T n0 fuel G (j + 1) i (loopK n0 nm (G j) k)
  | _, _, _, k => k

/-- A loop of a function, as the reading sees it from its head on. -/
def C.lp {R V : Type} (T : Tab) (n0 fuel : Nat) (G : Nat → Env → Heap → Option R) (c : C) (k : Ex → Env → Heap → Option R) (i : Nat) (enc : V → Env × Heap) (v : V) : Option R :=
  loopN (run T n0 fuel (c.bdAt i)) n0 (c.nmAt i) fuel (enc v).1 (enc v).2 (c.contAt T n0 fuel G 0 i k)

theorem C.lp_iter {R V : Type} {T : Tab} {n0 fuel : Nat} {G : Nat → Env → Heap → Option R} {c : C} {k : Ex → Env → Heap → Option R} {i : Nat} {enc : V → Env × Heap} {step : (V → Option R) → V → Option R}
    (h : ∀ (g : Env → Heap → Option R) (v : V), run T n0 fuel (c.bdAt i) (enc v).1 (enc v).2 (loopK n0 (c.nmAt i) g (c.contAt T n0 fuel G 0 i k)) = step (fun v => g (enc v).1 (enc v).2) v) :
    c.lp T n0 fuel G k i enc = iter step fuel := loop_iter h fuel
end Go.Proofs.Ytjnkefbdpcbkmaa.Den
