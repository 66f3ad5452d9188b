/- Part 5 of the texts behind the row. -/
import Derived.Test.YtdgdoeknpakmlaaGreatB01cdb10801
set_option linter.unusedVariables false
set_option linter.unusedSimpArgs false
namespace Go.Proofs.YtdgdoeknpakmlaaGreat.Den
open Go Go.RowKit
set_option linter.unusedVariables false
set_option linter.unusedSimpArgs false
structure TFT where
  e : Kd
  ag : Bool
  cs : List (Kd × Bool)
  ps : Sh
  rs : List Pm
  al : Bool
  fn : List e.T × CsT cs × ps.T → Option (List e.T × PsT rs)
def TFT.te (tf : TFT) : TE where
  X := List tf.e.T × CsT tf.cs × tf.ps.T
  Y := List tf.e.T × PsT tf.rs
  mono := false
  view args H := match args with
    | a :: r => match firstOf tf.ag a with
      | some (β, ss) => match Rf.view [] (.arr tf.e 0) H[β]?, viewCs [] tf.cs ss, viewS [] tf.ps r with
        | some c, some d, some x => some (c, d, x)
        | _, _, _ => none
      | none => none
    | _ => none
  fn := tf.fn
  put _ y args H := match args with
    | a :: _ => match firstOf tf.ag a with
      | some (β, _) => match tf.al with
        | true => some (.own β, H.set β (.arr tf.e y.1 0))
        | false => some (resV (putPs tf.rs y.2 (H.set β (.arr tf.e y.1 0))).1, (putPs tf.rs y.2 (H.set β (.arr tf.e y.1 0))).2)
      | none => none
    | _ => none
def FnSpecT (P : Program) (f : FuncId) (tf : TFT) : Prop :=
  ∀ (w : World) (res : Nat → Prop) (u0 : Value) (us2 vs : List Value) (m : Img) (c c' : List tf.e.T) (d : CsT tf.cs) (x : tf.ps.T) (y : PsT tf.rs), (∀ b, res b → b < w.heap.size) →
    SlIn w (fun b' => b' < w.heap.size ∧ ¬ res b' ∧ ¬ m.has b') res tf.e c u0 m →
    CsRel w (fun b' => b' < w.heap.size ∧ ¬ res b' ∧ ¬ m.has b') tf.cs d us2 →
    ShRel w (fun b' => b' < w.heap.size ∧ ¬ res b' ∧ ¬ m.has b') tf.ps x vs → tf.fn (c, d, x) = some (c', y) →
    Calls P f (firstU tf.ag u0 us2 :: vs).toArray w fun e w' => ∃ us tk, e = .returned (resU us) ∧ w'.os = w.os ∧ w'.tape = w.tape ∧ w'.output = w.output ∧ w.heap.size ≤ w'.heap.size ∧ (∀ b', b' < w.heap.size → ¬ m.has b' → w'.heap[b']? = w.heap[b']?) ∧
      (∀ (b : Nat) C t fr, w.heap[b]? = some (.cells C t fr) → ∃ C', w'.heap[b]? = some (.cells C' t fr) ∧ C'.size = C.size) ∧
      tk.Nodup ∧ (∀ b ∈ tk, w.heap.size ≤ b ∧ b < w'.heap.size) ∧ (match tf.al with
        | true => tk = [] ∧ ∃ u, us = #[u] ∧ OwnV w' m u
        | false => PsOut w' (fun b' => b' < w'.heap.size ∧ ¬ res b' ∧ ¬ m.has b' ∧ b' ∉ tk) tf.rs y us.toList tk) ∧
      SlOut w' (fun b' => b' < w'.heap.size ∧ ¬ res b' ∧ ¬ m.has b' ∧ b' ∉ tk) tf.e c' c m
section
variable {P : Program} {w : World} {ρ ρ' : Map} {H H' : Heap}
theorem fn_specT {T : Tab} {f : FuncId} {fn : Func} {c : Code} {tf : TFT} {frz : List Nat} {ann : List Norm} {cuts : List (Nat × Norm)} {ci : C} {j fuel : Nat} {rv : List (Nat × Option (Nat × Bool))} (hT : TabOK P T) (hmix : P.follows .mixedOrders = true)
    (hf : P.funcs[f]? = some fn) (hb : fn.body = some c) (hl : lightC P frz fn.ntmps ann cuts 0 c = some (ci, j)) (ho : okC T c ci = true) (hn : tf.ps.len + 1 ≤ fn.ntmps) (hrv : lightRes P fn.results.toList = some rv)
    (hrun : ∀ c d x, run T 1 fuel ci ((0, firstV tf.ag 0 (svCs tf.cs d)) :: env0 (svS tf.ps x) 1) [.arr tf.e c 0] (endS rv tf.e tf.al tf.rs) = tf.fn (c, d, x)) : FnSpecT P f tf := by
  intro w res u0 us2 vs m cc cc' d x y hres hsl hcd hps hy
  refine calls_of_wp hf hb ?_
  let ρ0 : Map := ⟨fun β => if β = 0 then m else .unborn, res⟩
  have hm0 : ρ0 0 = m := by simp [ρ0]
  have hi0 : ∀ {β b' o' n' sz'}, ρ0 β = .at b' o' n' sz' → β = 0 ∧ m = .at b' o' n' sz' := by
    intro β b' o' n' sz' h
    simp only [ρ0] at h
    split at h
    · rename_i e; exact ⟨e, h⟩
    · cases h
  have hmb : ∀ {b o n sz}, m = .at b o n sz → b < w.heap.size ∧ ¬ res b ∧ n = cc.length ∧ sz = tf.e.sz ∧ RefAt w (fun b' => b' < w.heap.size ∧ ¬ res b' ∧ ¬ m.has b') (.arr tf.e 0) cc b o := by
    intro b o n sz e
    rcases hsl with ⟨h1, _⟩ | ⟨b1, o1, cp, h1, _, _, _, h2, h3⟩
    · rw [e] at h1; cases h1
    · have h1' := h1
      rw [e] at h1; injection h1 with e1 e2 e3 e4
      subst e1; subst e2
      exact ⟨h3.lt, h2, e3, e4, h3⟩
  have hmd : m ≠ .dead ∧ m ≠ .unborn := by
    rcases hsl with ⟨h1, _⟩ | ⟨b1, o1, cp, h1, _⟩ <;> rw [h1] <;> simp
  have hfree0 : ∀ b', (b' < w.heap.size ∧ ¬ res b' ∧ ¬ m.has b') → Free ρ0 w b' := fun b' hb => ⟨hb.1, hb.2.1, fun β o' n' sz' h => hb.2.2 ⟨_, _, _, (hi0 h).2⟩⟩
  have hv : VRels ρ0 w (firstV tf.ag 0 (svCs tf.cs d) :: svS tf.ps x) (firstU tf.ag u0 us2 :: vs) := by
    simp only [VRels]
    refine ⟨_, vs, rfl, ?_, svS_rel hfree0 hps⟩
    have ho := hsl.ownV.vrel hm0
    cases hag : tf.ag with
    | true =>
      simp only [firstV, firstU, VRel, VRels]
      exact ⟨_, rfl, u0, us2, by simp, ho, svCs_rel hfree0 hcd⟩
    | false =>
      simp only [firstV, firstU]
      exact ho
  have hvl := hv.length
  rw [List.length_cons, svS_len] at hvl
  have hat : At P fn.ntmps ρ0 [.arr tf.e cc 0] w ((0, firstV tf.ag 0 (svCs tf.cs d)) :: env0 (svS tf.ps x) 1) { tmps := (firstU tf.ag u0 us2 :: vs).toArray ++ Array.replicate (fn.ntmps - (firstU tf.ag u0 us2 :: vs).toArray.size) undef, defers := [] } := by
    refine ⟨⟨by simp at hvl ⊢; omega, rfl, fun n => ?_⟩, ?_, fun β hβ => ?_⟩
    · have e : ((0, firstV tf.ag 0 (svCs tf.cs d)) :: env0 (svS tf.ps x) 1) = env0 (firstV tf.ag 0 (svCs tf.cs d) :: svS tf.ps x) 0 := rfl
      rw [e, env0_get]
      simp only [Nat.zero_le, if_true, Nat.sub_zero]
      split
      · rename_i s hs
        obtain ⟨u, h1, h2⟩ := hv.get n s hs
        have : ((firstU tf.ag u0 us2 :: vs).toArray ++ Array.replicate (fn.ntmps - (firstU tf.ag u0 us2 :: vs).toArray.size) undef).getD n undef = u := by
          rw [Array.getD_eq_getD_getElem?, Array.getElem?_append_left (by have := (List.getElem?_eq_some_iff.1 h1).1; simpa using this), List.getElem?_toArray, h1]
          rfl
        rw [this]; exact h2
      · simp [VRel]
    · refine ⟨fun β hl h => ?_, fun β hl h => ?_, fun β hl b' o' n' sz' h => ?_, fun β γ b' o1 n1 s1 o2 n2 s2 h1 h2 => by rw [(hi0 h1).1, (hi0 h2).1], fun β b' o' n' sz' h => (hmb (hi0 h).2).1, hres, fun β b' o' n' sz' h => (hmb (hi0 h).2).2.1⟩
      · simp at hl; subst hl; rw [hm0] at h; exact absurd h hmd.1
      · simp at hl; subst hl; rw [hm0] at h
        rcases hsl with ⟨_, h1, _⟩ | ⟨b1, o1, cp, h1, _⟩
        · subst h1; exact .inl ⟨_, _, rfl⟩
        · rw [h1] at h; cases h
      · obtain ⟨rfl, hm⟩ := hi0 h
        obtain ⟨_, _, h3, h4, h5⟩ := hmb hm
        exact ⟨_, rfl, h5.brel (rf := .arr tf.e 0) hfree0 h4.symm (by simp only [Rf.len]; rw [h3]) fun _ _ _ => h3.symm⟩
    · simp at hβ
      simp only [ρ0]; rw [if_neg (by omega)]
  have hrun' := hrun cc d x
  rw [hy] at hrun'
  refine code_sound hT hmix c hl ho hat hrun' fun ex τ' H' ρ' a' w' h1 h2 h3 => ?_
  have hend : ∃ ss us ls H2 ρ2 tk, evalRes τ' H' rv = some ss ∧ (results fn a'.tmps).run P w' = .ok (resU us) w' ∧ Gave ρ' H' w' ρ2 H2 tk ∧
      Rf.view (H2.set 0 .dead) (.arr tf.e 0) H2[0]? = some cc' ∧ viewPs (H2.set 0 .dead) tf.rs ls = some y ∧ (ex = .normal ∨ ex = .ret) ∧ (match tf.al with
        | true => tk = [] ∧ ρ2 = ρ' ∧ ∃ u, us = #[u] ∧ VRel ρ' w' (.own 0) u
        | false => TkPs ρ2 w' tf.rs ls us.toList tk) := by
    unfold endS at h3
    split at h3
    · simp at h3
    · rename_i hex
      have hex' : ex = .normal ∨ ex = .ret := by
        cases ex with
        | normal => exact .inl rfl
        | ret => exact .inr rfl
        | exit id => exact absurd rfl (hex id)
      split at h3
      · rename_i ss h4
        obtain ⟨us, h8, h9⟩ := results_sound h1.t h1.h hrv h4
        split at h3
        · rename_i hal
          simp only [hal]
          split at h3
          · split at h3
            · rename_i c1 y1 h6 h7
              simp only [Option.some.injEq, Prod.mk.injEq] at h3
              obtain ⟨rfl, rfl⟩ := h3
              refine ⟨_, us, [], H', ρ', [], h4, h8, Gave.refl h1.h h1.u, h6, h7, hex', ?_⟩
              simp only [VRels] at h9
              obtain ⟨u, us', e, h10, h11⟩ := h9
              subst h11
              exact ⟨rfl, rfl, u, Array.toList_inj.1 (by simpa using e), h10⟩
            · simp at h3
          · simp at h3
        · rename_i hal
          simp only [hal]
          split at h3
          · rename_i ls H2 h5
            split at h3
            · rename_i c1 y1 h6 h7
              simp only [Option.some.injEq, Prod.mk.injEq] at h3
              obtain ⟨rfl, rfl⟩ := h3
              obtain ⟨ρ2, tk, g, h10⟩ := takePs_sound h1.h h1.u h9 h5
              exact ⟨ss, us, ls, H2, ρ2, tk, h4, h8, g, h6, h7, hex', h10⟩
            · simp at h3
          · simp at h3
      · simp at h3
  obtain ⟨ss, us, ls, H2, ρ2, tk, h4, h8, g, h6, h7, hex, hal⟩ := hend
  obtain ⟨y0, hy0, hnd⟩ := Rf.view_some h6
  have hl0 : 0 < H2.length := (List.getElem?_eq_some_iff.1 hy0).1
  have hr2 : ρ2 0 = m ∧ ρ' 0 = m := by
    have nd : ρ2 0 ≠ .dead := fun h => by
      have := g.h.dead 0 hl0 h
      rw [hy0] at this; cases this; exact hnd rfl
    rcases h2.ref 0 (by omega) (by rw [hm0]; exact hmd.2) with e | e
    · rcases g.st.ref 0 (by rw [e, hm0]; exact hmd.2) with e2 | e2
      · exact ⟨by rw [e2, e, hm0], by rw [e, hm0]⟩
      · exact absurd e2 nd
    · rcases g.st.ref 0 (by rw [e]; simp) with e2 | e2
      · rw [e] at e2; exact absurd e2 nd
      · exact absurd e2 nd
  have hr0 : ρ'.res = res := h2.res
  obtain ⟨ρ3, g3h, g3st, hB3⟩ : ∃ ρ3 : Map, HRel ρ3 (H2.set 0 .dead) w' ∧ StepF ρ2 w' ρ3 w' ∧ ∀ b', (Free ρ3 w' b' ∨ ∃ β o n sz, ρ3 β = .at b' o n sz) → b' < w'.heap.size ∧ ¬ res b' ∧ ¬ m.has b' ∧ b' ∉ tk := by
    rcases hsl with ⟨hm, _⟩ | ⟨b, o, cp, hm, _, _, _, _, _⟩
    · refine ⟨ρ2.kill [0], g.h.kill [0], dead_step, fun b' hb => ?_⟩
      have hk : (ρ2.kill [0]).res = ρ2.res := rfl
      have : b' < w'.heap.size ∧ ¬ ρ2.res b' := by
        rcases hb with hb | ⟨β, o, n, sz, hb⟩
        · exact ⟨hb.1, hb.2.1⟩
        · exact ⟨(g.h.kill [0]).lt _ _ _ _ _ hb, (g.h.kill [0]).resf _ _ _ _ _ hb⟩
      exact ⟨this.1, fun h => this.2 (g.res b' (by rw [hr0]; exact h)), fun ⟨_, _, _, h⟩ => by (rw [hm] at h; cases h), fun h => this.2 (g.tks b' h).1⟩
    · have hr2' := hr2.1
      rw [hm] at hr2'
      have g3 := Gave.of_take g.h g.u hl0 hr2'
      refine ⟨_, g3.h, g3.st, fun b' hb => ?_⟩
      have : b' < w'.heap.size ∧ ¬ (ρ2.take 0 b).res b' := by
        rcases hb with hb | ⟨β, o, n, sz, hb⟩
        · exact ⟨hb.1, hb.2.1⟩
        · exact ⟨g3.h.lt _ _ _ _ _ hb, g3.h.resf _ _ _ _ _ hb⟩
      exact ⟨this.1, fun h => this.2 (.inl (g.res b' (by rw [hr0]; exact h))), fun ⟨_, _, _, h⟩ => this.2 (.inr (by rw [hm] at h; injection h with e; exact e.symm)), fun h => this.2 (.inl (g.tks b' h).1)⟩
  have hd : ∀ {K : Kd} {s : SV} {x : K.T} {u : Value}, decH true (H2.set 0 .dead) K [s] = some x → VRel ρ2 w' s u → CRel w' (fun b' => Free ρ3 w' b' ∨ ∃ β o n sz, ρ3 β = .at b' o n sz) K x [u] := fun h11 h12 =>
    decH_rel g3h (fun b hb => .inl hb) (fun γ b o n sz _ hg => .inr ⟨γ, o, n, sz, hg⟩) h11 (VRels.single (h12.stepF g3st))
  have hfr : ∀ b, Free ρ2 w' b → Free ρ3 w' b := g3st.free
  have hslo : SlOut w' (fun b' => b' < w'.heap.size ∧ ¬ res b' ∧ ¬ m.has b' ∧ b' ∉ tk) tf.e cc' cc m := by
    rcases hsl with ⟨hm, _⟩ | ⟨b, o, cp, hm, _⟩
    · exact .inl ⟨hm, view_none g.h (by rw [hr2.1, hm]) h6⟩
    · have hr2' := hr2.1
      rw [hm] at hr2'
      obtain ⟨k1, _, _, k4, _⟩ := RefAt.of_view (ρ := ρ2) hd (fun b hb => .inl (hfr b hb)) g.h hr2' h6
      exact .inr ⟨b, o, _, _, hm, k1.mono hB3, k4 _ _ rfl⟩
  have hpost : a'.defers = [] ∧ ∃ v, (results fn a'.tmps).run P w' = .ok v w' ∧ (fun e w' => ∃ us tk, e = Ending.returned (resU us) ∧ w'.os = w.os ∧ w'.tape = w.tape ∧ w'.output = w.output ∧ w.heap.size ≤ w'.heap.size ∧ (∀ b', b' < w.heap.size → ¬ m.has b' → w'.heap[b']? = w.heap[b']?) ∧
      (∀ (b : Nat) C t fr, w.heap[b]? = some (.cells C t fr) → ∃ C', w'.heap[b]? = some (.cells C' t fr) ∧ C'.size = C.size) ∧
      tk.Nodup ∧ (∀ b ∈ tk, w.heap.size ≤ b ∧ b < w'.heap.size) ∧ (match tf.al with
        | true => tk = [] ∧ ∃ u, us = #[u] ∧ OwnV w' m u
        | false => PsOut w' (fun b' => b' < w'.heap.size ∧ ¬ res b' ∧ ¬ m.has b' ∧ b' ∉ tk) tf.rs y us.toList tk) ∧
      SlOut w' (fun b' => b' < w'.heap.size ∧ ¬ res b' ∧ ¬ m.has b' ∧ b' ∉ tk) tf.e cc' cc m) (Ending.returned v) w' := by
    refine ⟨h1.t.2.1, resU us, h8, us, tk, rfl, h2.os, h2.tape, h2.output, h2.size, fun b' hb hne => h2.kept b' hb (fun β o n sz h => hne ⟨_, _, _, (hi0 h).2⟩), h2.shape, g.nd, fun b' hb => ?_, ?_, hslo⟩
    · obtain ⟨hrs, β, o', n', sz', hg⟩ := g.tks b' hb
      refine ⟨?_, h1.h.lt _ _ _ _ _ hg⟩
      rcases h2.img β b' o' n' sz' hg with ⟨γ, _, _, _, h⟩ | h
      · exfalso
        have hm := (hi0 h).2
        have hr2' := hr2.1
        rw [hm] at hr2'
        exact g.h.resf _ _ _ _ _ hr2' hrs
      · exact h
    · cases hal' : tf.al with
      | true =>
        rw [hal'] at hal
        obtain ⟨e1, _, u, e2, h9⟩ := hal
        exact ⟨e1, u, e2, ownV_of_vrel h9 hr2.2 hmd.1⟩
      | false =>
        rw [hal'] at hal
        exact PsOut.mono (.inl hB3) (viewPs_out (ρ := ρ2) (fun b hb => .inl (hfr b hb)) hd h7 hal)
  rcases hex with rfl | rfl
  · exact hpost
  · exact hpost
end
end Go.Proofs.YtdgdoeknpakmlaaGreat.Den
namespace Go.Proofs.YtdgdoeknpakmlaaGreat.Den
open Go Go.RowKit
set_option linter.unusedVariables false
set_option linter.unusedSimpArgs false
section
variable {w : World} {ρ : Map} {H : Heap}
theorem te_soundT {P : Program} {f : FuncId} {tf : TFT} (h : FnSpecT P f tf) : TESound P f tf.te := by
  intro ρ H w args vs x y v H' hH hv hun hview hfn hput
  change List tf.e.T × CsT tf.cs × tf.ps.T at x
  change List tf.e.T × PsT tf.rs at y
  obtain ⟨a, r, β, ss, c, d, xx, rfl, hfo, hc, hdd, hxx, rfl⟩ : ∃ a r β ss c d xx, args = a :: r ∧ firstOf tf.ag a = some (β, ss) ∧ Rf.view [] (.arr tf.e 0) H[β]? = some c ∧ viewCs [] tf.cs ss = some d ∧ viewS [] tf.ps r = some xx ∧ x = (c, d, xx) := by
    change (match (generalizing := false) args with
      | a :: r => (match firstOf tf.ag a with
        | some (β, ss) => (match Rf.view [] (.arr tf.e 0) H[β]?, viewCs [] tf.cs ss, viewS [] tf.ps r with
          | some c, some d, some x => some (c, d, x)
          | _, _, _ => none)
        | none => none)
      | _ => none) = some x at hview
    split at hview
    · rename_i a r
      split at hview
      · rename_i β ss hfo
        split at hview
        · rename_i c d xx h1 h2 h3
          simp only [Option.some.injEq] at hview
          exact ⟨a, r, β, ss, c, d, xx, rfl, hfo, h1, h2, h3, hview.symm⟩
        · simp at hview
      · simp at hview
    · simp at hview
  obtain ⟨c', yy⟩ := y
  obtain ⟨hfa, hss⟩ := firstOf_some hfo
  have hput' : (tf.al = true → v = .own β ∧ H' = H.set β (.arr tf.e c' 0)) ∧ (tf.al = false → v = resV (putPs tf.rs yy (H.set β (.arr tf.e c' 0))).1 ∧ H' = (putPs tf.rs yy (H.set β (.arr tf.e c' 0))).2) := by
    simp only [TFT.te, hfo] at hput
    constructor
    · intro e
      rw [e] at hput
      simp only [Option.some.injEq, Prod.mk.injEq] at hput
      exact ⟨hput.1.symm, hput.2.symm⟩
    · intro e
      rw [e] at hput
      simp only [Option.some.injEq, Prod.mk.injEq] at hput
      exact ⟨hput.1.symm, hput.2.symm⟩
  clear hput
  simp only [VRels] at hv
  obtain ⟨v0, vs', rfl, hv0, hv'⟩ := hv
  obtain ⟨y0, hy0, hnd0⟩ := Rf.view_some hc
  obtain ⟨u0, us2, rfl, hu0, hus2⟩ : ∃ u0 us2, v0 = firstU tf.ag u0 us2 ∧ VRel ρ w (.own β) u0 ∧ VRels ρ w ss us2 := by
    subst hfa
    cases hag : tf.ag with
    | true =>
      rw [hag] at hv0
      simp only [firstV, VRel, VRels] at hv0
      obtain ⟨us, rfl, u0, us2, e, h1, h2⟩ := hv0
      refine ⟨u0, us2, ?_, by simp only [VRel]; exact h1, h2⟩
      simp only [firstU]
      rw [← e]
    | false =>
      rw [hag] at hv0
      simp only [firstV] at hv0
      rw [hss hag]
      exact ⟨v0, [], by simp [firstU], hv0, by simp [VRels]⟩
  let m := ρ β
  have hm : ρ β = m := rfl
  let res : Nat → Prop := fun b' => ρ.res b' ∨ (¬ m.has b' ∧ ∃ β o n sz, ρ β = .at b' o n sz)
  have hres : ∀ b, res b → b < w.heap.size := by
    rintro b (hb | ⟨_, β, o, n, sz, hb⟩)
    · exact hH.resl b hb
    · exact hH.lt _ _ _ _ _ hb
  have hrb : ∀ b o n sz, ρ β = .at b o n sz → ¬ res b := by
    rintro b o n sz hr (hb | ⟨hb, _⟩)
    · exact hH.resf _ _ _ _ _ hr hb
    · exact hb ⟨_, _, _, hr⟩
  have hfB : ∀ b', Free ρ w b' → b' < w.heap.size ∧ ¬ res b' ∧ ¬ m.has b' := fun b' hb => ⟨hb.1, fun h3 => by
    rcases h3 with h3 | ⟨_, β, o, n, sz, h3⟩
    · exact hb.2.1 h3
    · exact hb.2.2 _ _ _ _ h3, fun ⟨_, _, _, e⟩ => hb.2.2 _ _ _ _ (hm.trans e)⟩
  have hd : ∀ {K : Kd} {s : SV} {x : K.T} {u : Value}, decH true [] K [s] = some x → VRel ρ w s u → CRel w (fun b' => b' < w.heap.size ∧ ¬ res b' ∧ ¬ m.has b') K x [u] := fun h1 h2 =>
    CRel.mono hfB (fun _ _ => rfl) (decC_rel h1 (VRels.single h2))
  have hsl := HRel.sliceIn hH hc hu0 hrb hfB
  have hβl : β < H.length := (List.getElem?_eq_some_iff.1 hy0).1
  refine Calls.mono (h w res u0 us2 vs' m c c' d xx yy hres hsl (CsRel.of_view hd hdd hus2) (ShRel.of_view hd hxx hv') hfn) fun e w' he => ?_
  obtain ⟨us, tk, rfl, hos, htape, hout, hsize, hkept, hshape, hnd, htk, hps', hso⟩ := he
  obtain ⟨bs, ms, hent, hH', hvr⟩ : ∃ bs ms, Ent w' (fun b' => b' < w'.heap.size ∧ ¬ res b' ∧ ¬ m.has b' ∧ b' ∉ tk) bs ms tk ∧ H' = H.set β (.arr tf.e c' 0) ++ bs ∧
      ∀ ρ' : Map, Agree ρ' H.length ms → (∀ γ, γ < H.length → ρ' γ = ρ γ) → (∀ b', (b' < w'.heap.size ∧ ¬ res b' ∧ ¬ m.has b' ∧ b' ∉ tk) → Free ρ' w' b') → VRel ρ' w' v (resU us) := by
    cases hal : tf.al with
    | true =>
      rw [hal] at hps'
      obtain ⟨rfl, u, rfl, hou⟩ := hps'
      obtain ⟨rfl, rfl⟩ := hput'.1 hal
      refine ⟨[], [], rfl, by simp, fun ρ' _ h2 _ => ?_⟩
      have e : resU #[u] = u := by simp [resU]
      rw [e]
      exact hou.vrel (h2 β hβl)
    | false =>
      rw [hal] at hps'
      obtain ⟨rfl, rfl⟩ := hput'.2 hal
      obtain ⟨bs, ms, hent, hputs⟩ := putPs_ent hps'
      obtain ⟨h1, h2⟩ := hputs (H.set β (.arr tf.e c' 0))
      exact ⟨bs, ms, hent, h1, fun ρ' h3 _ h5 => resV_rel (h2 ρ' (by simpa using h3) h5)⟩
  clear hput' hps'
  have hl1 : (H.set β (.arr tf.e c' 0)).length = H.length := by simp
  have hml := hent.length
  have hlt' : ∀ {β}, β < H.length → (ρ.add H.length ms) β = ρ β := fun h => by simp [Map.add, h]
  have hge : ∀ {i}, i < ms.length → ∃ m, ms[i]? = some m ∧ (ρ.add H.length ms) (H.length + i) = m := fun {i} h => by
    refine ⟨ms[i], List.getElem?_eq_getElem h, ?_⟩
    simp only [Map.add]; rw [if_neg (by omega), Nat.add_sub_cancel_left, List.getElem?_eq_getElem h]
  have hgt : ∀ {β}, H.length + ms.length ≤ β → (ρ.add H.length ms) β = ρ β := fun {β} h => by
    simp only [Map.add]; rw [if_neg (by omega), List.getElem?_eq_none (by omega)]
  have cases3 : ∀ β, (β < H.length ∧ (ρ.add H.length ms) β = ρ β) ∨ (H.length + ms.length ≤ β ∧ (ρ.add H.length ms) β = ρ β) ∨ ∃ i m, β = H.length + i ∧ ms[i]? = some m ∧ (ρ.add H.length ms) β = m := by
    intro β
    rcases Nat.lt_or_ge β H.length with h1 | h1
    · exact .inl ⟨h1, hlt' h1⟩
    · rcases Nat.lt_or_ge β (H.length + ms.length) with h2 | h2
      · obtain ⟨m, h3, h4⟩ := hge (i := β - H.length) (by omega)
        rw [show H.length + (β - H.length) = β by omega] at h4
        exact .inr (.inr ⟨β - H.length, m, by omega, h3, h4⟩)
      · exact .inr (.inl ⟨h2, hgt h2⟩)
  have htkn : ∀ {i : Nat} {b o n sz : Nat}, ms[i]? = some (.at b o n sz) → b ∈ tk := fun hm => by
    obtain ⟨_, t, _, h6, h7⟩ := hent.get _ _ hm
    exact h7 _ h6.at_
  have hub : ∀ β, H.length ≤ β → β < H.length + ms.length → ρ β = .unborn := fun β h1 h2 => hun β h1 (by rw [hH']; simp; omega)
  have hsb : ∀ {β b o n sz}, ρ β = .at b o n sz → b < w.heap.size := fun h => hH.lt _ _ _ _ _ h
  have hstep : Step ρ w (ρ.add H.length ms) w' := {
    os := hos, tape := htape, output := hout, size := hsize
    kept := fun b' hb hn => hkept b' hb (fun ⟨_, _, _, e⟩ => hn _ _ _ _ (hm.trans e))
    shape := hshape
    img := fun β b o n sz hb => by
      rcases cases3 β with ⟨_, h2⟩ | ⟨_, h2⟩ | ⟨i, m, _, h3, h4⟩
      · rw [h2] at hb; exact .inl ⟨β, o, n, sz, hb⟩
      · rw [h2] at hb; exact .inl ⟨β, o, n, sz, hb⟩
      · rw [h4] at hb; subst hb
        exact .inr (htk b (htkn h3)).1
    ref := fun β hb => by
      rcases cases3 β with ⟨_, h2⟩ | ⟨_, h2⟩ | ⟨i, m, h2, h3, _⟩
      · exact .inl h2
      · exact .inl h2
      · exact absurd (hub β (by omega) (by have := (List.getElem?_eq_some_iff.1 h3).1; omega)) hb
    res := rfl }
  have hfree : ∀ b', (b' < w'.heap.size ∧ ¬ res b' ∧ ¬ m.has b' ∧ b' ∉ tk) → Free (ρ.add H.length ms) w' b' := fun b' hb => ⟨hb.1, fun h3 => hb.2.1 (.inl h3), fun β o n sz h1 => by
    rcases cases3 β with ⟨_, h2⟩ | ⟨_, h2⟩ | ⟨i, m, _, h3, h4⟩
    · rw [h2] at h1; exact hb.2.1 (.inr ⟨hb.2.2.1, _, _, _, _, h1⟩)
    · rw [h2] at h1; exact hb.2.1 (.inr ⟨hb.2.2.1, _, _, _, _, h1⟩)
    · rw [h4] at h1; subst h1; exact hb.2.2.2 (htkn h3)⟩
  have hget : ∀ {γ}, γ < H.length → γ ≠ β → (H.set β (.arr tf.e c' 0) ++ bs)[γ]? = H[γ]? := fun {γ} h1 h2 => by
    rw [List.getElem?_append_left (by rw [hl1]; exact h1), List.getElem?_set_ne (Ne.symm h2)]
  have hbr : ∀ b o n sz, ρ β = .at b o n sz → BRel (ρ.add H.length ms) w' b o n sz (.arr tf.e c' 0) := by
    intro b o n sz hr
    rcases hso with ⟨h1, _⟩ | ⟨b1, o1, n1, sz1, h1, h2, h3⟩
    · rw [hm, h1] at hr; cases hr
    · rw [hm, h1] at hr
      injection hr with e1 e2 e3 e4
      subst e1; subst e2; subst e3; subst e4
      rcases hsl with ⟨h4, _⟩ | ⟨b2, o2, cp, h4, _⟩
      · rw [hm, h1] at h4; cases h4
      · rw [hm, h1] at h4
        injection h4 with e1 e2 e3 e4
        exact h2.brel (rf := .arr tf.e 0) hfree e4.symm (by simp only [Rf.len]; rw [h3, e3]) fun _ _ _ => by simp only [Rf.len]; rw [h3, e3]
  refine ⟨resU us, ρ.add H.length ms, rfl, hstep, ?_, ?_, ?_, ?_, by simp [TFT.te]⟩
  · rw [hH']
    constructor
    · intro γ hl hgd
      rcases cases3 γ with ⟨h1, h2⟩ | ⟨h1, h2⟩ | ⟨i, m, h2, h3, h4⟩
      · rw [h2] at hgd
        rw [hget h1 (fun e => by subst e; exact live_of hH hy0 hnd0 hgd)]
        exact hH.dead γ h1 hgd
      · simp at hl; omega
      · rw [h4] at hgd; subst hgd
        obtain ⟨_, t, _, h6, _⟩ := hent.get _ _ h3
        rcases h6 with ⟨h6, _⟩ | ⟨_, _, _, _, _, _, _, _, h6, _⟩ <;> cases h6
    · intro γ hl hgd
      rcases cases3 γ with ⟨h1, h2⟩ | ⟨h1, h2⟩ | ⟨i, m, h2, h3, h4⟩
      · rw [h2] at hgd
        by_cases e : γ = β
        · subst e
          rcases hso with ⟨_, h5⟩ | ⟨_, _, _, _, h5, _⟩
          · subst h5
            refine .inl ⟨tf.e, 0, ?_⟩
            rw [List.getElem?_append_left (by rw [hl1]; exact h1)]
            exact List.getElem?_set_self h1
          · rw [hm, h5] at hgd; cases hgd
        · rw [hget h1 e]
          exact hH.none_ γ h1 hgd
      · simp at hl; omega
      · rw [h4] at hgd; subst hgd; subst h2
        obtain ⟨x, t, h5, h6, _⟩ := hent.get _ _ h3
        rcases h6 with ⟨_, _, e, h6⟩ | ⟨_, _, _, _, _, _, _, _, h6, _⟩
        · subst h6
          exact .inl ⟨e, 0, by rw [List.getElem?_append_right (by omega), hl1, Nat.add_sub_cancel_left]; exact h5⟩
        · cases h6
    · intro γ hl b1 o1 n1 sz1 hq
      rcases cases3 γ with ⟨h1, h2⟩ | ⟨h1, h2⟩ | ⟨i, m, h2, h3, h4⟩
      · rw [h2] at hq
        by_cases e : γ = β
        · subst e
          refine ⟨_, ?_, hbr _ _ _ _ hq⟩
          rw [List.getElem?_append_left (by rw [hl1]; exact h1)]
          simp [h1]
        · obtain ⟨x, h5, h6⟩ := hH.at_ γ h1 _ _ _ _ hq
          refine ⟨x, by rw [hget h1 e]; exact h5, h6.keep hstep (hkept b1 (hsb hq) fun ⟨_, _, _, e2⟩ => ?_)⟩
          exact e (hH.inj _ _ _ _ _ _ _ _ _ hq (hm.trans e2))
      · simp at hl; omega
      · rw [h4] at hq; subst hq; subst h2
        obtain ⟨x, t, h5, h6, _⟩ := hent.get _ _ h3
        rcases h6 with ⟨h6, _⟩ | ⟨b', o', n', sz', e, xs, C, tC, h6, h7, h8, h9, h10, h11, h12, h13⟩
        · cases h6
        · cases h6; subst h8
          refine ⟨_, by rw [List.getElem?_append_right (by omega), hl1, Nat.add_sub_cancel_left]; exact h5, ?_⟩
          simp only [BRel]
          exact ⟨h9, h10, C, tC, h11, h12, fun i x hx => by
            obtain ⟨es, h14, h15⟩ := h13 i x hx
            exact ⟨es, CRel.mono hfree (fun _ _ => rfl) h14, h15⟩⟩
    · intro β1 γ b1 o1 n1 sz1 o' n' sz' hb hc
      rcases cases3 β1 with ⟨h1, h2⟩ | ⟨h1, h2⟩ | ⟨i, m, h2, h3, h4⟩ <;> rcases cases3 γ with ⟨g1, g2⟩ | ⟨g1, g2⟩ | ⟨j, m', g2, g3, g4⟩
      · rw [h2] at hb; rw [g2] at hc; exact hH.inj _ _ _ _ _ _ _ _ _ hb hc
      · rw [h2] at hb; rw [g2] at hc; exact hH.inj _ _ _ _ _ _ _ _ _ hb hc
      · rw [h2] at hb; rw [g4] at hc; subst hc
        have := (htk b1 (htkn g3)).1; have := hsb hb; omega
      · rw [h2] at hb; rw [g2] at hc; exact hH.inj _ _ _ _ _ _ _ _ _ hb hc
      · rw [h2] at hb; rw [g2] at hc; exact hH.inj _ _ _ _ _ _ _ _ _ hb hc
      · rw [h2] at hb; rw [g4] at hc; subst hc
        have := (htk b1 (htkn g3)).1; have := hsb hb; omega
      · rw [h4] at hb; subst hb; rw [g2] at hc
        have := (htk b1 (htkn h3)).1; have := hsb hc; omega
      · rw [h4] at hb; subst hb; rw [g2] at hc
        have := (htk b1 (htkn h3)).1; have := hsb hc; omega
      · rw [h4] at hb; subst hb; rw [g4] at hc; subst hc
        rw [h2, g2, hent.inj hnd i j h3 g3]
    · intro β b o n sz hb
      rcases cases3 β with ⟨h1, h2⟩ | ⟨h1, h2⟩ | ⟨i, m, h2, h3, h4⟩
      · rw [h2] at hb; have := hsb hb; omega
      · rw [h2] at hb; have := hsb hb; omega
      · rw [h4] at hb; subst hb; exact (htk b (htkn h3)).2
    · intro b hb; have := hH.resl b hb; omega
    · intro β b o n sz hb hr
      rcases cases3 β with ⟨h1, h2⟩ | ⟨h1, h2⟩ | ⟨i, m, h2, h3, h4⟩
      · rw [h2] at hb; exact hH.resf _ _ _ _ _ hb hr
      · rw [h2] at hb; exact hH.resf _ _ _ _ _ hb hr
      · rw [h4] at hb; subst hb
        have := (htk b (htkn h3)).1; have := hH.resl b hr; omega
  · exact hvr (ρ.add H.length ms) (fun i m hm => by
      obtain ⟨m', h1, h2⟩ := hge (List.getElem?_eq_some_iff.1 hm).1
      rw [hm] at h1; cases h1; exact h2) (fun γ h => hlt' h) hfree
  · rw [hH']; simp
  · intro γ hb hc
    rcases cases3 γ with ⟨_, h2⟩ | ⟨_, h2⟩ | ⟨i, m, h2, h3, h4⟩
    · rw [h2]; exact hb
    · rw [h2]; exact hb
    · exfalso
      rw [hH'] at hc
      have := (List.getElem?_eq_some_iff.1 h3).1
      simp at hc; omega
theorem EntryOK.tft {P : Program} {f : Nat} {tf : TFT} (h : FnSpecT P f tf) (hf : ∃ fn, P.funcs[f]? = some fn ∧ fn.name ≠ "runtime.NumGoroutine" ∧ fn.body.isSome = true) : EntryOK P f tf.te where
  snd := te_soundT h
  fn := hf
  ext hm := by simp [TFT.te] at hm
  tch x y args H v H' hv hp := by
    change List tf.e.T × PsT tf.rs at y
    simp only [TFT.te] at hp
    split at hp
    · rename_i a r
      split at hp
      · rename_i β ss hfo
        have hm : β ∈ (List.headD (a :: r) .junk).refs := by
          rw [(firstOf_some hfo).1]
          unfold firstV
          split <;> simp [SV.refs, SV.refsL]
        split at hp
        · have h2 : H.set β (.arr tf.e y.1 0) = H' := congrArg Prod.snd (Option.some.inj hp)
          rw [← h2]
          have := set_ext_tch (H := H) (Δ := []) (x := .arr tf.e y.1 0) hm
          simpa using this
        · have h2 : (putPs tf.rs y.2 (H.set β (.arr tf.e y.1 0))).2 = H' := congrArg Prod.snd (Option.some.inj hp)
          obtain ⟨Δ, h3⟩ := putPs_ext (ps := tf.rs) (y := y.2) (H := H.set β (.arr tf.e y.1 0))
          rw [← h2, h3]
          exact set_ext_tch hm
      · simp at hp
    · simp at hp
end
end Go.Proofs.YtdgdoeknpakmlaaGreat.Den
