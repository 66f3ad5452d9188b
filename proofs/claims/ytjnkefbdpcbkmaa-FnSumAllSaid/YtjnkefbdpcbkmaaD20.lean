/- Contracts of functions that write through their first parameter, a pointer; and of functions that make one. -/
import Derived.Test.YtjnkefbdpcbkmaaD19
namespace Go.Proofs.Ytjnkefbdpcbkmaa.Den
open Go Go.RowKit
set_option linter.unusedVariables false
set_option linter.unusedSimpArgs false

/-- What a pointer leads to. -/
inductive Rf where
  | cells (cs : List (Kd × Bool)) (t : TypeId)
  | arr (K : Kd) (t : TypeId)

@[reducible] def Rf.T : Rf → Type
  | .cells cs _ => CsT cs
  | .arr K _ => List K.T

def Rf.blk : (rf : Rf) → rf.T → Blk
  | .cells cs t, c => .cells (svCs cs c) t cs.length
  | .arr K t, c => .arr K c t

/-- The contents of a block, read with 'H'. -/
def Rf.view (H : Heap) : (rf : Rf) → Option Blk → Option rf.T
  | .cells cs _, x => match x with
    | some (.cells ds _ z) => if z = cs.length then viewCs H cs ds else none
    | _ => none
  | .arr K _, x => match x with
    | some (.arr K' xs _) => if h : K' = K then some (h ▸ xs) else none
    | _ => none

structure TFU where
  rf : Rf
  ps : List Pm
  rs : List Pm
  fn : rf.T × PsT ps → Option (rf.T × PsT rs)

def TFU.te (tf : TFU) : TE where
  X := tf.rf.T × PsT tf.ps
  Y := tf.rf.T × PsT tf.rs
  mono := false
  view args H := match args with
    | .ptr β 0 :: r => match Rf.view [] tf.rf H[β]?, viewPs [] tf.ps r with
      | some c, some x => some (c, x)
      | _, _ => none
    | _ => none
  fn := tf.fn
  put _ y args H := match args with
    | .ptr β 0 :: _ => some (resV (putPs tf.rs y.2 (H.set β (tf.rf.blk y.1))).1, (putPs tf.rs y.2 (H.set β (tf.rf.blk y.1))).2)
    | _ => none

def RefAt (w : World) (B : Nat → Prop) : (rf : Rf) → rf.T → Nat → Nat → Prop
  | .cells cs _, c, b, o => ∃ C tC, w.heap[b]? = some (.cells C tC (0, 0)) ∧ o + cs.length ≤ C.size ∧ CsRel w B cs c ((C.toList.drop o).take cs.length)
  | .arr K _, c, b, o => ∃ C tC, w.heap[b]? = some (.cells C tC (0, 0)) ∧ o + c.length * K.sz ≤ C.size ∧ RowRel w B K c C o

def Rf.len : (rf : Rf) → rf.T → Nat
  | .cells _ _, _ => 1
  | .arr _ _, c => c.length
def Rf.sz : Rf → Nat
  | .cells cs _ => cs.length
  | .arr K _ => K.sz

def FnSpecU (P : Program) (f : FuncId) (tf : TFU) : Prop :=
  ∀ (w : World) (res : Nat → Prop) (vs : List Value) (c c' : tf.rf.T) (x : PsT tf.ps) (y : PsT tf.rs) (b o : Nat), (∀ b, res b → b < w.heap.size) → ¬ res b → RefAt w (fun b' => b' < w.heap.size ∧ ¬ res b' ∧ b' ≠ b) tf.rf c b o →
    PsRel w (fun b' => b' < w.heap.size ∧ ¬ res b' ∧ b' ≠ b) tf.ps x vs → tf.fn (c, x) = some (c', y) →
    Calls P f (Value.pointer (some ⟨b, o, none⟩) :: vs).toArray w fun e w' => ∃ us tk, e = .returned (resU us) ∧ w'.os = w.os ∧ w'.tape = w.tape ∧ w'.output = w.output ∧ w.heap.size ≤ w'.heap.size ∧ (∀ b', b' < w.heap.size → b' ≠ b → w'.heap[b']? = w.heap[b']?) ∧
      (∀ (b : Nat) C t fr, w.heap[b]? = some (.cells C t fr) → ∃ C', w'.heap[b]? = some (.cells C' t fr) ∧ C'.size = C.size) ∧
      tk.Nodup ∧ (∀ b ∈ tk, w.heap.size ≤ b ∧ b < w'.heap.size) ∧ PsOut w' (fun b' => b' < w'.heap.size ∧ ¬ res b' ∧ b' ≠ b ∧ b' ∉ tk) tf.rs y us.toList tk ∧
      RefAt w' (fun b' => b' < w'.heap.size ∧ ¬ res b' ∧ b' ≠ b ∧ b' ∉ tk) tf.rf c' b o ∧ tf.rf.len c' = tf.rf.len c

def endU (rv : List (Nat × Option (Nat × Bool))) (rf : Rf) (rs : List Pm) (ex : Ex) (τ : Env) (H : Heap) : Option (rf.T × PsT rs) :=
  match ex with
  | .exit _ => none
  | _ => match evalRes τ H rv with
    | some ss => match takePs rs ss H with
      | some (ls, H2) => match Rf.view (H2.set 0 .dead) rf H2[0]?, viewPs (H2.set 0 .dead) rs ls with
        | some c, some y => some (c, y)
        | _, _ => none
      | none => none
    | none => none

section
variable {P : Program} {w : World} {ρ ρ' : Map} {H H' : Heap}

theorem CsRel.length {B : Nat → Prop} : ∀ {cs : List (Kd × Bool)} {x : CsT cs} {us : List Value}, CsRel w B cs x us → us.length = cs.length
  | [], _, _, h => by simp only [CsRel] at h; subst h; rfl
  | (K, f) :: r, x, us, h => by
    simp only [CsRel] at h
    obtain ⟨u, us', rfl, _, h2⟩ := h
    simp [h2.length]

theorem CsRel.mono {B B' : Nat → Prop} (hB : ∀ b, B b → B' b) : ∀ {cs : List (Kd × Bool)} {x : CsT cs} {us : List Value}, CsRel w B cs x us → CsRel w B' cs x us
  | [], _, _, h => h
  | (K, f) :: r, x, us, h => by
    simp only [CsRel] at h ⊢
    obtain ⟨u, us', h1, h2, h3⟩ := h
    exact ⟨u, us', h1, CRel.mono hB (fun _ _ => rfl) h2, CsRel.mono hB h3⟩

theorem svCs_length : ∀ {cs : List (Kd × Bool)} {x : CsT cs}, (svCs cs x).length = cs.length
  | [], _ => rfl
  | (K, f) :: r, x => by simp [svCs, svCs_length (cs := r)]

/-- A block as its owner sees it, from its contents. -/
theorem RefAt.brel {B : Nat → Prop} (hB : ∀ b, B b → Free ρ w b) {rf : Rf} {c : rf.T} {b o n sz : Nat} (h : RefAt w B rf c b o) (hsz : rf.sz = sz) (hn : rf.len c * sz = n * sz) (ha : ∀ K t, rf = .arr K t → rf.len c = n) : BRel ρ w b o n sz (rf.blk c) := by
  subst hsz
  cases rf with
  | cells cs t =>
    simp only [RefAt] at h
    obtain ⟨C, tC, h1, h2, h3⟩ := h
    have hv := svCs_rel hB h3
    simp only [Rf.len, Rf.sz] at hn
    simp only [Rf.blk, BRel, Rf.sz]
    refine ⟨by first | rfl | trivial, by rw [svCs_length]; omega, C, tC, h1, by omega, fun j s hs => ?_⟩
    obtain ⟨u, h4, h5⟩ := hv.get j s hs
    rw [List.getElem?_take] at h4
    split at h4
    · rw [List.getElem?_drop, Array.getElem?_toList] at h4
      exact ⟨u, h4, h5⟩
    · simp at h4
  | arr K t =>
    simp only [RefAt] at h
    obtain ⟨C, tC, h1, h2, h3⟩ := h
    have ha := ha K t rfl
    simp only [Rf.len] at ha
    simp only [Rf.blk, BRel, Rf.sz]
    exact ⟨ha, by first | rfl | trivial, C, tC, h1, by rw [← ha]; exact h2, fun i x hx => by
      obtain ⟨es, h4, h5⟩ := h3 i x hx
      exact ⟨es, CRel.mono hB (fun _ _ => rfl) h4, h5⟩⟩

theorem RefAt.mono {B B' : Nat → Prop} (hB : ∀ b, B b → B' b) {rf : Rf} {c : rf.T} {b o : Nat} (h : RefAt w B rf c b o) : RefAt w B' rf c b o := by
  cases rf with
  | cells cs t =>
    simp only [RefAt] at h ⊢
    obtain ⟨C, tC, h1, h2, h3⟩ := h
    exact ⟨C, tC, h1, h2, CsRel.mono hB h3⟩
  | arr K t =>
    simp only [RefAt] at h ⊢
    obtain ⟨C, tC, h1, h2, h3⟩ := h
    exact ⟨C, tC, h1, h2, fun i x hx => by
      obtain ⟨es, h4, h5⟩ := h3 i x hx
      exact ⟨es, CRel.mono hB (fun _ _ => rfl) h4, h5⟩⟩

theorem RefAt.lt {B : Nat → Prop} {rf : Rf} {c : rf.T} {b o : Nat} (h : RefAt w B rf c b o) : b < w.heap.size := by
  cases rf with
  | cells cs t =>
    simp only [RefAt] at h
    obtain ⟨C, tC, h1, _⟩ := h
    exact (Array.getElem?_eq_some_iff.1 h1).1
  | arr K t =>
    simp only [RefAt] at h
    obtain ⟨C, tC, h1, _⟩ := h
    exact (Array.getElem?_eq_some_iff.1 h1).1

theorem Rf.len_eq {rf : Rf} {c c' : rf.T} (h : ∀ K t, rf = .arr K t → rf.len c' = rf.len c) : rf.len c' = rf.len c := by
  cases rf with
  | cells cs t => rfl
  | arr K t => exact h K t rfl

theorem Rf.view_some {H2 : Heap} {rf : Rf} {x : Option Blk} {c : rf.T} (h : Rf.view H2 rf x = some c) : ∃ y, x = some y ∧ y ≠ .dead := by
  cases rf with
  | cells cs t =>
    simp only [Rf.view] at h
    split at h
    · exact ⟨_, rfl, by simp⟩
    · simp at h
  | arr K t =>
    simp only [Rf.view] at h
    split at h
    · exact ⟨_, rfl, by simp⟩
    · simp at h

/-- The contents of a live block, read. -/
theorem RefAt.of_view {B : Nat → Prop} {H2 : Heap} (hd : ∀ {K : Kd} {s : SV} {x : K.T} {u : Value}, decH true H2 K [s] = some x → VRel ρ w s u → CRel w B K x [u]) (hB : ∀ b, Free ρ w b → B b) {rf : Rf} {c : rf.T} {β b o n sz : Nat}
    (hH : HRel ρ H w) (hr : ρ β = .at b o n sz) (h : Rf.view H2 rf H[β]? = some c) : RefAt w B rf c b o ∧ rf.sz = sz ∧ rf.len c * sz = n * sz ∧ (∀ K t, rf = .arr K t → rf.len c = n) ∧ β < H.length := by
  cases rf with
  | cells cs t =>
    simp only [Rf.view] at h
    split at h
    · rename_i ds t' z e
      split at h
      · rename_i hz
        subst hz
        obtain ⟨C, tC, hC, h1, h2, h3, h4, h5⟩ := cells_of hH e hr
        have hrel := CsRel.of_view hd h h4
        have hl := hrel.length
        have hdl : ds.length = cs.length := by
          simp only [List.length_take, List.length_drop, Array.length_toList] at hl; omega
        refine ⟨?_, h1, by simp only [Rf.len]; omega, fun _ _ h => (by cases h), (List.getElem?_eq_some_iff.1 e).1⟩
        simp only [RefAt]
        exact ⟨C, tC, hC, by omega, by rw [hdl] at hrel; exact hrel⟩
      · simp at h
    · simp at h
  | arr K t =>
    simp only [Rf.view] at h
    split at h
    · rename_i K' xs t' e
      split at h
      · rename_i hk
        subst hk
        simp only [Option.some.injEq] at h; subst h
        obtain ⟨h1, h2, C, tC, hC, h3, h4⟩ := row_raw hH e hr
        refine ⟨?_, h2, by simp only [Rf.len]; rw [h1], fun _ _ _ => h1, (List.getElem?_eq_some_iff.1 e).1⟩
        simp only [RefAt]
        exact ⟨C, tC, hC, by rw [h1, h2]; exact h3, fun i x hx => by
          obtain ⟨es, h5, h6⟩ := h4 i x hx
          exact ⟨es, CRel.mono hB (fun _ _ => rfl) h5, h6⟩⟩
      · simp at h
    · simp at h

theorem fn_specU {T : Tab} {f : FuncId} {fn : Func} {c : Code} {tf : TFU} {frz : List Nat} {ann : List Norm} {cuts : List (Nat × Norm)} {ci : C} {j fuel : Nat} {rv : List (Nat × Option (Nat × Bool))} (hT : TabOK P T) (hmix : P.follows .mixedOrders = true)
    (hf : P.funcs[f]? = some fn) (hb : fn.body = some c) (hl : lightC P frz fn.ntmps ann cuts 0 c = some (ci, j)) (ho : okC T c ci = true) (hn : tf.ps.length + 1 ≤ fn.ntmps) (hrv : lightRes P fn.results.toList = some rv)
    (hrun : ∀ c x, run T 1 fuel ci ((0, .ptr 0 0) :: env0 (svPs tf.ps x) 1) [tf.rf.blk c] (endU rv tf.rf tf.rs) = tf.fn (c, x)) : FnSpecU P f tf := by
  intro w res vs cc cc' x y b o hres hrb href hps hy
  refine calls_of_wp hf hb ?_
  let ρ0 : Map := ⟨fun β => if β = 0 then .at b o (tf.rf.len cc) tf.rf.sz else .unborn, res⟩
  have hi0 : ∀ {β b' o' n' sz'}, ρ0 β = .at b' o' n' sz' → β = 0 ∧ b' = b := by
    intro β b' o' n' sz' h
    simp only [ρ0] at h
    split at h
    · rename_i e; injection h with h1; exact ⟨e, h1.symm⟩
    · cases h
  have hfree0 : ∀ b', (b' < w.heap.size ∧ ¬ res b' ∧ b' ≠ b) → Free ρ0 w b' := fun b' hb => ⟨hb.1, hb.2.1, fun β o' n' sz' h => hb.2.2 (hi0 h).2⟩
  have hv : VRels ρ0 w (.ptr 0 0 :: svPs tf.ps x) (.pointer (some ⟨b, o, none⟩) :: vs) := by
    simp only [VRels]
    exact ⟨_, vs, rfl, by simp [VRel, ρ0], svPs_rel hfree0 hps⟩
  have hpl : ∀ {ps : List Pm} {x : PsT ps}, (svPs ps x).length = ps.length := by
    intro ps
    induction ps with
    | nil => intro x; rfl
    | cons p r ih => intro x; simp [svPs, ih]
  have hvl := hv.length
  rw [List.length_cons, hpl] at hvl
  have hbs : b < w.heap.size := href.lt
  have hat : At P fn.ntmps ρ0 [tf.rf.blk cc] w ((0, .ptr 0 0) :: env0 (svPs tf.ps x) 1) { tmps := (Value.pointer (some ⟨b, o, none⟩) :: vs).toArray ++ Array.replicate (fn.ntmps - (Value.pointer (some ⟨b, o, none⟩) :: vs).toArray.size) undef, defers := [] } := by
    refine ⟨⟨by simp at hvl ⊢; omega, rfl, fun n => ?_⟩, ?_, fun β hβ => ?_⟩
    · have e : ((0, SV.ptr 0 0) :: env0 (svPs tf.ps x) 1) = env0 (.ptr 0 0 :: svPs tf.ps x) 0 := rfl
      rw [e, env0_get]
      simp only [Nat.zero_le, if_true, Nat.sub_zero]
      split
      · rename_i s hs
        obtain ⟨u, h1, h2⟩ := hv.get n s hs
        have : ((Value.pointer (some ⟨b, o, none⟩) :: vs).toArray ++ Array.replicate (fn.ntmps - (Value.pointer (some ⟨b, o, none⟩) :: vs).toArray.size) undef).getD n undef = u := by
          rw [Array.getD_eq_getD_getElem?, Array.getElem?_append_left (by have := (List.getElem?_eq_some_iff.1 h1).1; simpa using this), List.getElem?_toArray, h1]
          rfl
        rw [this]; exact h2
      · simp [VRel]
    · refine ⟨fun β hl h => ?_, fun β hl h => ?_, fun β hl b' o' n' sz' h => ?_, fun β γ b' o1 n1 s1 o2 n2 s2 h1 h2 => by rw [(hi0 h1).1, (hi0 h2).1], fun β b' o' n' sz' h => by rw [(hi0 h).2]; exact hbs, hres, fun β b' o' n' sz' h => by rw [(hi0 h).2]; exact hrb⟩
      · simp at hl; subst hl; simp [ρ0] at h
      · simp at hl; subst hl; simp [ρ0] at h
      · obtain ⟨rfl, rfl⟩ := hi0 h
        simp only [ρ0, if_true] at h
        injection h with h1 h2 h3 h4
        subst h2; subst h3; subst h4
        exact ⟨_, rfl, href.brel hfree0 rfl rfl fun _ _ _ => rfl⟩
    · simp at hβ
      simp only [ρ0]; rw [if_neg (by omega)]
  have hrun' := hrun cc x
  rw [hy] at hrun'
  refine code_sound hT hmix c hl ho hat hrun' fun ex τ' H' ρ' a' w' h1 h2 h3 => ?_
  have hend : ∃ ss ls H2, evalRes τ' H' rv = some ss ∧ takePs tf.rs ss H' = some (ls, H2) ∧ Rf.view (H2.set 0 .dead) tf.rf H2[0]? = some cc' ∧ viewPs (H2.set 0 .dead) tf.rs ls = some y ∧ (ex = .normal ∨ ex = .ret) := by
    unfold endU at h3
    split at h3
    · simp at h3
    · rename_i hex
      split at h3
      · rename_i ss h4
        split at h3
        · rename_i ls H2 h5
          split at h3
          · rename_i c1 y1 h6 h7
            simp only [Option.some.injEq, Prod.mk.injEq] at h3
            obtain ⟨rfl, rfl⟩ := h3
            refine ⟨ss, ls, H2, h4, h5, h6, h7, ?_⟩
            cases ex with
            | normal => exact .inl rfl
            | ret => exact .inr rfl
            | exit id => exact absurd rfl (hex id)
          · simp at h3
        · simp at h3
      · simp at h3
  obtain ⟨ss, ls, H2, h4, h5, h6, h7, hex⟩ := hend
  obtain ⟨us, h8, h9⟩ := results_sound h1.t h1.h hrv h4
  obtain ⟨ρ2, tk, g, h10⟩ := takePs_sound h1.h h1.u h9 h5
  obtain ⟨y0, hy0, hnd⟩ := Rf.view_some h6
  have hl0 : 0 < H2.length := (List.getElem?_eq_some_iff.1 hy0).1
  have hr2 : ρ2 0 = .at b o (tf.rf.len cc) tf.rf.sz := by
    have e0 : ρ0 0 = .at b o (tf.rf.len cc) tf.rf.sz := by simp [ρ0]
    have nd : ρ2 0 ≠ .dead := fun h => by
      have := g.h.dead 0 hl0 h
      rw [hy0] at this; cases this; exact hnd rfl
    rcases h2.ref 0 (by omega) (by rw [e0]; simp) with e | e
    · rcases g.st.ref 0 (by rw [e, e0]; simp) with e2 | e2
      · rw [e2, e, e0]
      · exact absurd e2 nd
    · rcases g.st.ref 0 (by rw [e]; simp) with e2 | e2
      · rw [e] at e2; exact absurd e2 nd
      · exact absurd e2 nd
  have g3 := Gave.of_take g.h g.u hl0 hr2
  have hd : ∀ {K : Kd} {s : SV} {x : K.T} {u : Value}, decH true (H2.set 0 .dead) K [s] = some x → VRel ρ2 w' s u → CRel w' (fun b' => Free (ρ2.take 0 b) w' b' ∨ ∃ β o n sz, (ρ2.take 0 b) β = .at b' o n sz) K x [u] := fun h11 h12 =>
    decH_rel g3.h (fun b hb => .inl hb) (fun γ b o n sz _ hg => .inr ⟨γ, o, n, sz, hg⟩) h11 (VRels.single (h12.stepF g3.st))
  have hB3 : ∀ b', (Free (ρ2.take 0 b) w' b' ∨ ∃ β o n sz, (ρ2.take 0 b) β = .at b' o n sz) → b' < w'.heap.size ∧ ¬ res b' ∧ b' ≠ b ∧ b' ∉ tk := by
    intro b' hb
    have hr0 : ρ'.res = res := h2.res
    have : b' < w'.heap.size ∧ ¬ (ρ2.take 0 b).res b' := by
      rcases hb with hb | ⟨β, o, n, sz, hb⟩
      · exact ⟨hb.1, hb.2.1⟩
      · exact ⟨g3.h.lt _ _ _ _ _ hb, g3.h.resf _ _ _ _ _ hb⟩
    exact ⟨this.1, fun h => this.2 (.inl (g.res b' (by rw [hr0]; exact h))), fun h => this.2 (.inr h), fun h => this.2 (.inl (g.tks b' h).1)⟩
  have hout := viewPs_out (ρ := ρ2) (fun b hb => .inl (take_free hr2 b hb)) hd h7 h10
  obtain ⟨k1, _, _, k4, _⟩ := RefAt.of_view (ρ := ρ2) hd (fun b hb => .inl (take_free hr2 b hb)) g.h hr2 h6
  have hpost : a'.defers = [] ∧ ∃ v, (results fn a'.tmps).run P w' = .ok v w' ∧ (fun e w' => ∃ us tk, e = Ending.returned (resU us) ∧ w'.os = w.os ∧ w'.tape = w.tape ∧ w'.output = w.output ∧ w.heap.size ≤ w'.heap.size ∧ (∀ b', b' < w.heap.size → b' ≠ b → w'.heap[b']? = w.heap[b']?) ∧
      (∀ (b : Nat) C t fr, w.heap[b]? = some (.cells C t fr) → ∃ C', w'.heap[b]? = some (.cells C' t fr) ∧ C'.size = C.size) ∧
      tk.Nodup ∧ (∀ b ∈ tk, w.heap.size ≤ b ∧ b < w'.heap.size) ∧ PsOut w' (fun b' => b' < w'.heap.size ∧ ¬ res b' ∧ b' ≠ b ∧ b' ∉ tk) tf.rs y us.toList tk ∧
      RefAt w' (fun b' => b' < w'.heap.size ∧ ¬ res b' ∧ b' ≠ b ∧ b' ∉ tk) tf.rf cc' b o ∧ tf.rf.len cc' = tf.rf.len cc) (Ending.returned v) w' := by
    refine ⟨h1.t.2.1, resU us, h8, us, tk, rfl, h2.os, h2.tape, h2.output, h2.size, fun b' hb hne => h2.kept b' hb (fun β o n sz h => hne (hi0 h).2), h2.shape, g.nd, fun b' hb => ?_, PsOut.mono (.inl hB3) hout, k1.mono hB3, ?_⟩
    · obtain ⟨hrs, β, o', n', sz', hg⟩ := g.tks b' hb
      refine ⟨?_, h1.h.lt _ _ _ _ _ hg⟩
      rcases h2.img β b' o' n' sz' hg with ⟨γ, _, _, _, h⟩ | h
      · exfalso
        obtain ⟨_, rfl⟩ := hi0 h
        exact g.h.resf _ _ _ _ _ hr2 hrs
      · exact h
    · exact Rf.len_eq k4
  rcases hex with rfl | rfl
  · exact hpost
  · exact hpost
end
end Go.Proofs.Ytjnkefbdpcbkmaa.Den
