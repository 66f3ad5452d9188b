/- Contracts of functions that write through a slice: the first parameter, or the first cell of it. -/
import Derived.Test.YtjnkefbdpcbkmaaD24
namespace Go.Proofs.Ytjnkefbdpcbkmaa.Den
open Go Go.RowKit
set_option linter.unusedVariables false
set_option linter.unusedSimpArgs false

structure TFS where
  e : Kd
  ag : Bool
  cs : List (Kd × Bool)
  ps : List Pm
  rs : List Pm
  al : Bool
  fn : List e.T × CsT cs × PsT ps → Option (List e.T × PsT rs)

def firstV (ag : Bool) (β : Nat) (ss : List SV) : SV := match ag with
  | true => .agg (.own β :: ss)
  | false => .own β
def firstU (ag : Bool) (u : Value) (us : List Value) : Value := match ag with
  | true => .agg (u :: us).toArray
  | false => u
def firstOf (ag : Bool) (s : SV) : Option (Nat × List SV) := match ag with
  | true => match s with
    | .agg (.own β :: ss) => some (β, ss)
    | _ => none
  | false => match s with
    | .own β => some (β, [])
    | _ => none

def Img.has (m : Img) (b : Nat) : Prop := ∃ o n sz, m = .at b o n sz

def SlIn (w : World) (B : Nat → Prop) (res : Nat → Prop) (e : Kd) (c : List e.T) (u : Value) (m : Img) : Prop :=
  (m = .none_ ∧ c = [] ∧ ∃ a, u = .slice a 0 0) ∨
  ∃ b o cp, m = .at b o c.length e.sz ∧ c.length ≤ cp ∧ u = .slice (some ⟨b, o, none⟩) c.length cp ∧ Room w b (o + cp * e.sz) ∧ ¬ res b ∧ RefAt w B (.arr e 0) c b o

def SlOut (w : World) (B : Nat → Prop) (e : Kd) (c' c : List e.T) (m : Img) : Prop :=
  (m = .none_ ∧ c' = []) ∨ ∃ b o n sz, m = .at b o n sz ∧ RefAt w B (.arr e 0) c' b o ∧ c'.length = c.length

def OwnV (w : World) (m : Img) (u : Value) : Prop := match m with
  | .none_ => ∃ a, u = .slice a 0 0
  | .at b o n sz => ∃ c, n ≤ c ∧ u = .slice (some ⟨b, o, none⟩) n c ∧ Room w b (o + c * sz)
  | _ => False

def TFS.te (tf : TFS) : TE where
  X := List tf.e.T × CsT tf.cs × PsT tf.ps
  Y := List tf.e.T × PsT tf.rs
  mono := false
  view args H := match args with
    | a :: r => match firstOf tf.ag a with
      | some (β, ss) => match Rf.view [] (.arr tf.e 0) H[β]?, viewCs [] tf.cs ss, viewPs [] tf.ps r with
        | some c, some d, some x => some (c, d, x)
        | _, _, _ => none
      | none => none
    | _ => none
  fn := tf.fn
  put _ y args H := match args with
    | a :: _ => match firstOf tf.ag a with
      | some (β, _) => match tf.al with
        | true => some (.own β, H.set β (.arr tf.e y.1 0))
        | false => some (resV (putPs tf.rs y.2 (H.set β (.arr tf.e y.1 0))).1, (putPs tf.rs y.2 (H.set β (.arr tf.e y.1 0))).2)
      | none => none
    | _ => none

def FnSpecS (P : Program) (f : FuncId) (tf : TFS) : Prop :=
  ∀ (w : World) (res : Nat → Prop) (u0 : Value) (us2 vs : List Value) (m : Img) (c c' : List tf.e.T) (d : CsT tf.cs) (x : PsT tf.ps) (y : PsT tf.rs), (∀ b, res b → b < w.heap.size) →
    SlIn w (fun b' => b' < w.heap.size ∧ ¬ res b' ∧ ¬ m.has b') res tf.e c u0 m →
    CsRel w (fun b' => b' < w.heap.size ∧ ¬ res b' ∧ ¬ m.has b') tf.cs d us2 →
    PsRel w (fun b' => b' < w.heap.size ∧ ¬ res b' ∧ ¬ m.has b') tf.ps x vs → tf.fn (c, d, x) = some (c', y) →
    Calls P f (firstU tf.ag u0 us2 :: vs).toArray w fun e w' => ∃ us tk, e = .returned (resU us) ∧ w'.os = w.os ∧ w'.tape = w.tape ∧ w'.output = w.output ∧ w.heap.size ≤ w'.heap.size ∧ (∀ b', b' < w.heap.size → ¬ m.has b' → w'.heap[b']? = w.heap[b']?) ∧
      (∀ (b : Nat) C t fr, w.heap[b]? = some (.cells C t fr) → ∃ C', w'.heap[b]? = some (.cells C' t fr) ∧ C'.size = C.size) ∧
      tk.Nodup ∧ (∀ b ∈ tk, w.heap.size ≤ b ∧ b < w'.heap.size) ∧ (match tf.al with
        | true => tk = [] ∧ ∃ u, us = #[u] ∧ OwnV w' m u
        | false => PsOut w' (fun b' => b' < w'.heap.size ∧ ¬ res b' ∧ ¬ m.has b' ∧ b' ∉ tk) tf.rs y us.toList tk) ∧
      SlOut w' (fun b' => b' < w'.heap.size ∧ ¬ res b' ∧ ¬ m.has b' ∧ b' ∉ tk) tf.e c' c m

def endS (rv : List (Nat × Option (Nat × Bool))) (e : Kd) (al : Bool) (rs : List Pm) (ex : Ex) (τ : Env) (H : Heap) : Option (List e.T × PsT rs) :=
  match ex with
  | .exit _ => none
  | _ => match evalRes τ H rv with
    | some ss => match al with
      | true => match ss with
        | [.own 0] => match Rf.view (H.set 0 .dead) (.arr e 0) H[0]?, viewPs (H.set 0 .dead) rs [] with
          | some c, some y => some (c, y)
          | _, _ => none
        | _ => none
      | false => match takePs rs ss H with
        | some (ls, H2) => match Rf.view (H2.set 0 .dead) (.arr e 0) H2[0]?, viewPs (H2.set 0 .dead) rs ls with
          | some c, some y => some (c, y)
          | _, _ => none
        | none => none
    | none => none

section
variable {P : Program} {w : World} {ρ ρ' : Map} {H H' : Heap}

theorem SlIn.ownV {B res : Nat → Prop} {e : Kd} {c : List e.T} {u : Value} {m : Img} (h : SlIn w B res e c u m) : OwnV w m u := by
  rcases h with ⟨rfl, _, h⟩ | ⟨b, o, cp, rfl, h1, h2, h3, _⟩
  · exact h
  · exact ⟨cp, h1, h2, h3⟩

theorem OwnV.vrel {m : Img} {u : Value} {β : Nat} (h : OwnV w m u) (e : ρ β = m) : VRel ρ w (.own β) u := by
  simp only [VRel, e]
  cases m with
  | none_ => exact h
  | «at» b o n sz => exact h
  | unborn => exact h
  | dead => exact absurd h (by simp [OwnV])

theorem ownV_of_vrel {m : Img} {u : Value} {β : Nat} (h : VRel ρ w (.own β) u) (e : ρ β = m) (hd : m ≠ .dead) : OwnV w m u := by
  simp only [VRel, e] at h
  cases m with
  | none_ => exact h
  | «at» b o n sz => exact h
  | unborn => exact h
  | dead => exact absurd rfl hd

theorem view_none {H2 : Heap} {e : Kd} {c : List e.T} {β : Nat} (hH : HRel ρ H w) (hr : ρ β = .none_) (h : Rf.view H2 (.arr e 0) H[β]? = some c) : c = [] := by
  obtain ⟨y, hy, hd⟩ := Rf.view_some h
  simp only [Rf.view] at h
  split at h
  · rename_i K' xs t' e'
    split at h
    · rename_i hk
      subst hk
      simp only [Option.some.injEq] at h; subst h
      exact none_arr hH e' hr
    · simp at h
  · simp at h

theorem viewPs_nil {H2 : Heap} {rs : List Pm} {y : PsT rs} (h : viewPs H2 rs [] = some y) : rs = [] := by
  cases rs with
  | nil => rfl
  | cons p r => simp [viewPs] at h

theorem fn_specS {T : Tab} {f : FuncId} {fn : Func} {c : Code} {tf : TFS} {frz : List Nat} {ann : List Norm} {cuts : List (Nat × Norm)} {ci : C} {j fuel : Nat} {rv : List (Nat × Option (Nat × Bool))} (hT : TabOK P T) (hmix : P.follows .mixedOrders = true)
    (hf : P.funcs[f]? = some fn) (hb : fn.body = some c) (hl : lightC P frz fn.ntmps ann cuts 0 c = some (ci, j)) (ho : okC T c ci = true) (hn : tf.ps.length + 1 ≤ fn.ntmps) (hrv : lightRes P fn.results.toList = some rv)
    (hrun : ∀ c d x, run T 1 fuel ci ((0, firstV tf.ag 0 (svCs tf.cs d)) :: env0 (svPs tf.ps x) 1) [.arr tf.e c 0] (endS rv tf.e tf.al tf.rs) = tf.fn (c, d, x)) : FnSpecS P f tf := by
  intro w res u0 us2 vs m cc cc' d x y hres hsl hcd hps hy
  refine calls_of_wp hf hb ?_
  let ρ0 : Map := ⟨fun β => if β = 0 then m else .unborn, res⟩
  have hm0 : ρ0 0 = m := by simp [ρ0]
  have hi0 : ∀ {β b' o' n' sz'}, ρ0 β = .at b' o' n' sz' → β = 0 ∧ m = .at b' o' n' sz' := by
    intro β b' o' n' sz' h
    simp only [ρ0] at h
    split at h
    · rename_i e; exact ⟨e, h⟩
    · cases h
  have hmb : ∀ {b o n sz}, m = .at b o n sz → b < w.heap.size ∧ ¬ res b ∧ n = cc.length ∧ sz = tf.e.sz ∧ RefAt w (fun b' => b' < w.heap.size ∧ ¬ res b' ∧ ¬ m.has b') (.arr tf.e 0) cc b o := by
    intro b o n sz e
    rcases hsl with ⟨h1, _⟩ | ⟨b1, o1, cp, h1, _, _, _, h2, h3⟩
    · rw [e] at h1; cases h1
    · have h1' := h1
      rw [e] at h1; injection h1 with e1 e2 e3 e4
      subst e1; subst e2
      exact ⟨h3.lt, h2, e3, e4, h3⟩
  have hmd : m ≠ .dead ∧ m ≠ .unborn := by
    rcases hsl with ⟨h1, _⟩ | ⟨b1, o1, cp, h1, _⟩ <;> rw [h1] <;> simp
  have hfree0 : ∀ b', (b' < w.heap.size ∧ ¬ res b' ∧ ¬ m.has b') → Free ρ0 w b' := fun b' hb => ⟨hb.1, hb.2.1, fun β o' n' sz' h => hb.2.2 ⟨_, _, _, (hi0 h).2⟩⟩
  have hv : VRels ρ0 w (firstV tf.ag 0 (svCs tf.cs d) :: svPs tf.ps x) (firstU tf.ag u0 us2 :: vs) := by
    simp only [VRels]
    refine ⟨_, vs, rfl, ?_, svPs_rel hfree0 hps⟩
    have ho := hsl.ownV.vrel hm0
    cases hag : tf.ag with
    | true =>
      simp only [firstV, firstU, VRel, VRels]
      exact ⟨_, rfl, u0, us2, by simp, ho, svCs_rel hfree0 hcd⟩
    | false =>
      simp only [firstV, firstU]
      exact ho
  have hpl : ∀ {ps : List Pm} {x : PsT ps}, (svPs ps x).length = ps.length := by
    intro ps
    induction ps with
    | nil => intro x; rfl
    | cons p r ih => intro x; simp [svPs, ih]
  have hvl := hv.length
  rw [List.length_cons, hpl] at hvl
  have hat : At P fn.ntmps ρ0 [.arr tf.e cc 0] w ((0, firstV tf.ag 0 (svCs tf.cs d)) :: env0 (svPs tf.ps x) 1) { tmps := (firstU tf.ag u0 us2 :: vs).toArray ++ Array.replicate (fn.ntmps - (firstU tf.ag u0 us2 :: vs).toArray.size) undef, defers := [] } := by
    refine ⟨⟨by simp at hvl ⊢; omega, rfl, fun n => ?_⟩, ?_, fun β hβ => ?_⟩
    · have e : ((0, firstV tf.ag 0 (svCs tf.cs d)) :: env0 (svPs tf.ps x) 1) = env0 (firstV tf.ag 0 (svCs tf.cs d) :: svPs tf.ps x) 0 := rfl
      rw [e, env0_get]
      simp only [Nat.zero_le, if_true, Nat.sub_zero]
      split
      · rename_i s hs
        obtain ⟨u, h1, h2⟩ := hv.get n s hs
        have : ((firstU tf.ag u0 us2 :: vs).toArray ++ Array.replicate (fn.ntmps - (firstU tf.ag u0 us2 :: vs).toArray.size) undef).getD n undef = u := by
          rw [Array.getD_eq_getD_getElem?, Array.getElem?_append_left (by have := (List.getElem?_eq_some_iff.1 h1).1; simpa using this), List.getElem?_toArray, h1]
          rfl
        rw [this]; exact h2
      · simp [VRel]
    · refine ⟨fun β hl h => ?_, fun β hl h => ?_, fun β hl b' o' n' sz' h => ?_, fun β γ b' o1 n1 s1 o2 n2 s2 h1 h2 => by rw [(hi0 h1).1, (hi0 h2).1], fun β b' o' n' sz' h => (hmb (hi0 h).2).1, hres, fun β b' o' n' sz' h => (hmb (hi0 h).2).2.1⟩
      · simp at hl; subst hl; rw [hm0] at h; exact absurd h hmd.1
      · simp at hl; subst hl; rw [hm0] at h
        rcases hsl with ⟨_, h1, _⟩ | ⟨b1, o1, cp, h1, _⟩
        · subst h1; exact .inl ⟨_, _, rfl⟩
        · rw [h1] at h; cases h
      · obtain ⟨rfl, hm⟩ := hi0 h
        obtain ⟨_, _, h3, h4, h5⟩ := hmb hm
        exact ⟨_, rfl, h5.brel (rf := .arr tf.e 0) hfree0 h4.symm (by simp only [Rf.len]; rw [h3]) fun _ _ _ => h3.symm⟩
    · simp at hβ
      simp only [ρ0]; rw [if_neg (by omega)]
  have hrun' := hrun cc d x
  rw [hy] at hrun'
  refine code_sound hT hmix c hl ho hat hrun' fun ex τ' H' ρ' a' w' h1 h2 h3 => ?_
  have hend : ∃ ss us ls H2 ρ2 tk, evalRes τ' H' rv = some ss ∧ (results fn a'.tmps).run P w' = .ok (resU us) w' ∧ Gave ρ' H' w' ρ2 H2 tk ∧
      Rf.view (H2.set 0 .dead) (.arr tf.e 0) H2[0]? = some cc' ∧ viewPs (H2.set 0 .dead) tf.rs ls = some y ∧ (ex = .normal ∨ ex = .ret) ∧ (match tf.al with
        | true => tk = [] ∧ ρ2 = ρ' ∧ ∃ u, us = #[u] ∧ VRel ρ' w' (.own 0) u
        | false => TkPs ρ2 w' tf.rs ls us.toList tk) := by
    unfold endS at h3
    split at h3
    · simp at h3
    · rename_i hex
      have hex' : ex = .normal ∨ ex = .ret := by
        cases ex with
        | normal => exact .inl rfl
        | ret => exact .inr rfl
        | exit id => exact absurd rfl (hex id)
      split at h3
      · rename_i ss h4
        obtain ⟨us, h8, h9⟩ := results_sound h1.t h1.h hrv h4
        split at h3
        · rename_i hal
          split at h3
          · split at h3
            · rename_i c1 y1 h6 h7
              simp only [Option.some.injEq, Prod.mk.injEq] at h3
              obtain ⟨rfl, rfl⟩ := h3
              refine ⟨_, us, [], H', ρ', [], h4, h8, Gave.refl h1.h h1.u, h6, h7, hex', ?_⟩
              simp only [VRels] at h9
              obtain ⟨u, us', e, h10, h11⟩ := h9
              subst h11
              exact ⟨rfl, rfl, u, Array.toList_inj.1 (by simpa using e), h10⟩
            · simp at h3
          · simp at h3
        · rename_i hal
          split at h3
          · rename_i ls H2 h5
            split at h3
            · rename_i c1 y1 h6 h7
              simp only [Option.some.injEq, Prod.mk.injEq] at h3
              obtain ⟨rfl, rfl⟩ := h3
              obtain ⟨ρ2, tk, g, h10⟩ := takePs_sound h1.h h1.u h9 h5
              exact ⟨ss, us, ls, H2, ρ2, tk, h4, h8, g, h6, h7, hex', h10⟩
            · simp at h3
          · simp at h3
      · simp at h3
  obtain ⟨ss, us, ls, H2, ρ2, tk, h4, h8, g, h6, h7, hex, hal⟩ := hend
  obtain ⟨y0, hy0, hnd⟩ := Rf.view_some h6
  have hl0 : 0 < H2.length := (List.getElem?_eq_some_iff.1 hy0).1
  have hr2 : ρ2 0 = m ∧ ρ' 0 = m := by
    have nd : ρ2 0 ≠ .dead := fun h => by
      have := g.h.dead 0 hl0 h
      rw [hy0] at this; cases this; exact hnd rfl
    rcases h2.ref 0 (by omega) (by rw [hm0]; exact hmd.2) with e | e
    · rcases g.st.ref 0 (by rw [e, hm0]; exact hmd.2) with e2 | e2
      · exact ⟨by rw [e2, e, hm0], by rw [e, hm0]⟩
      · exact absurd e2 nd
    · rcases g.st.ref 0 (by rw [e]; simp) with e2 | e2
      · rw [e] at e2; exact absurd e2 nd
      · exact absurd e2 nd
  have hr0 : ρ'.res = res := h2.res
  obtain ⟨ρ3, g3h, g3st, hB3⟩ : ∃ ρ3 : Map, HRel ρ3 (H2.set 0 .dead) w' ∧ StepF ρ2 w' ρ3 w' ∧ ∀ b', (Free ρ3 w' b' ∨ ∃ β o n sz, ρ3 β = .at b' o n sz) → b' < w'.heap.size ∧ ¬ res b' ∧ ¬ m.has b' ∧ b' ∉ tk := by
    rcases hsl with ⟨hm, _⟩ | ⟨b, o, cp, hm, _, _, _, _, _⟩
    · refine ⟨ρ2.kill [0], g.h.kill [0], dead_step, fun b' hb => ?_⟩
      have hk : (ρ2.kill [0]).res = ρ2.res := rfl
      have : b' < w'.heap.size ∧ ¬ ρ2.res b' := by
        rcases hb with hb | ⟨β, o, n, sz, hb⟩
        · exact ⟨hb.1, hb.2.1⟩
        · exact ⟨(g.h.kill [0]).lt _ _ _ _ _ hb, (g.h.kill [0]).resf _ _ _ _ _ hb⟩
      exact ⟨this.1, fun h => this.2 (g.res b' (by rw [hr0]; exact h)), fun ⟨_, _, _, h⟩ => by (rw [hm] at h; cases h), fun h => this.2 (g.tks b' h).1⟩
    · have hr2' := hr2.1
      rw [hm] at hr2'
      have g3 := Gave.of_take g.h g.u hl0 hr2'
      refine ⟨_, g3.h, g3.st, fun b' hb => ?_⟩
      have : b' < w'.heap.size ∧ ¬ (ρ2.take 0 b).res b' := by
        rcases hb with hb | ⟨β, o, n, sz, hb⟩
        · exact ⟨hb.1, hb.2.1⟩
        · exact ⟨g3.h.lt _ _ _ _ _ hb, g3.h.resf _ _ _ _ _ hb⟩
      exact ⟨this.1, fun h => this.2 (.inl (g.res b' (by rw [hr0]; exact h))), fun ⟨_, _, _, h⟩ => this.2 (.inr (by rw [hm] at h; injection h with e; exact e.symm)), fun h => this.2 (.inl (g.tks b' h).1)⟩
  have hd : ∀ {K : Kd} {s : SV} {x : K.T} {u : Value}, decH true (H2.set 0 .dead) K [s] = some x → VRel ρ2 w' s u → CRel w' (fun b' => Free ρ3 w' b' ∨ ∃ β o n sz, ρ3 β = .at b' o n sz) K x [u] := fun h11 h12 =>
    decH_rel g3h (fun b hb => .inl hb) (fun γ b o n sz _ hg => .inr ⟨γ, o, n, sz, hg⟩) h11 (VRels.single (h12.stepF g3st))
  have hfr : ∀ b, Free ρ2 w' b → Free ρ3 w' b := g3st.free
  have hslo : SlOut w' (fun b' => b' < w'.heap.size ∧ ¬ res b' ∧ ¬ m.has b' ∧ b' ∉ tk) tf.e cc' cc m := by
    rcases hsl with ⟨hm, _⟩ | ⟨b, o, cp, hm, _⟩
    · exact .inl ⟨hm, view_none g.h (by rw [hr2.1, hm]) h6⟩
    · have hr2' := hr2.1
      rw [hm] at hr2'
      obtain ⟨k1, _, _, k4, _⟩ := RefAt.of_view (ρ := ρ2) hd (fun b hb => .inl (hfr b hb)) g.h hr2' h6
      exact .inr ⟨b, o, _, _, hm, k1.mono hB3, k4 _ _ rfl⟩
  have hpost : a'.defers = [] ∧ ∃ v, (results fn a'.tmps).run P w' = .ok v w' ∧ (fun e w' => ∃ us tk, e = Ending.returned (resU us) ∧ w'.os = w.os ∧ w'.tape = w.tape ∧ w'.output = w.output ∧ w.heap.size ≤ w'.heap.size ∧ (∀ b', b' < w.heap.size → ¬ m.has b' → w'.heap[b']? = w.heap[b']?) ∧
      (∀ (b : Nat) C t fr, w.heap[b]? = some (.cells C t fr) → ∃ C', w'.heap[b]? = some (.cells C' t fr) ∧ C'.size = C.size) ∧
      tk.Nodup ∧ (∀ b ∈ tk, w.heap.size ≤ b ∧ b < w'.heap.size) ∧ (match tf.al with
        | true => tk = [] ∧ ∃ u, us = #[u] ∧ OwnV w' m u
        | false => PsOut w' (fun b' => b' < w'.heap.size ∧ ¬ res b' ∧ ¬ m.has b' ∧ b' ∉ tk) tf.rs y us.toList tk) ∧
      SlOut w' (fun b' => b' < w'.heap.size ∧ ¬ res b' ∧ ¬ m.has b' ∧ b' ∉ tk) tf.e cc' cc m) (Ending.returned v) w' := by
    refine ⟨h1.t.2.1, resU us, h8, us, tk, rfl, h2.os, h2.tape, h2.output, h2.size, fun b' hb hne => h2.kept b' hb (fun β o n sz h => hne ⟨_, _, _, (hi0 h).2⟩), h2.shape, g.nd, fun b' hb => ?_, ?_, hslo⟩
    · obtain ⟨hrs, β, o', n', sz', hg⟩ := g.tks b' hb
      refine ⟨?_, h1.h.lt _ _ _ _ _ hg⟩
      rcases h2.img β b' o' n' sz' hg with ⟨γ, _, _, _, h⟩ | h
      · exfalso
        have hm := (hi0 h).2
        have hr2' := hr2.1
        rw [hm] at hr2'
        exact g.h.resf _ _ _ _ _ hr2' hrs
      · exact h
    · cases hal' : tf.al with
      | true =>
        rw [hal'] at hal
        obtain ⟨e1, _, u, e2, h9⟩ := hal
        exact ⟨e1, u, e2, ownV_of_vrel h9 hr2.2 hmd.1⟩
      | false =>
        rw [hal'] at hal
        exact PsOut.mono (.inl hB3) (viewPs_out (ρ := ρ2) (fun b hb => .inl (hfr b hb)) hd h7 hal)
  rcases hex with rfl | rfl
  · exact hpost
  · exact hpost
end
end Go.Proofs.Ytjnkefbdpcbkmaa.Den
