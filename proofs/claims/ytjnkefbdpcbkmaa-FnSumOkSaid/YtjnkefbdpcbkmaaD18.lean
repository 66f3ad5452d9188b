/- A function's contract on plain data. -/
import Derived.Test.YtjnkefbdpcbkmaaD17
namespace Go.Proofs.Ytjnkefbdpcbkmaa.Den
open Go Go.RowKit
set_option linter.unusedVariables false
set_option linter.unusedSimpArgs false

/-- A parameter or a result: its cells (each with 'is it handed over'), and whether it is a struct. -/
structure Pm where
  cs : List (Kd × Bool)
  ag : Bool

@[reducible] def CsT : List (Kd × Bool) → Type
  | [] => Unit
  | p :: r => p.1.T × CsT r
@[reducible] def PsT : List Pm → Type
  | [] => Unit
  | p :: r => CsT p.cs × PsT r

def viewCs (H : Heap) : (cs : List (Kd × Bool)) → List SV → Option (CsT cs)
  | [], [] => some ()
  | (K, _) :: r, s :: ss => match decH true H K [s], viewCs H r ss with
    | some x, some y => some (x, y)
    | _, _ => none
  | _, _ => none

def cellsP (ag : Bool) (s : SV) : Option (List SV) :=
  match ag with
  | true => match s with
    | .agg cs => some cs
    | _ => none
  | false => some [s]

def viewPs (H : Heap) : (ps : List Pm) → List SV → Option (PsT ps)
  | [], [] => some ()
  | p :: r, s :: ss => match cellsP p.ag s with
    | some cs => match viewCs H p.cs cs, viewPs H r ss with
      | some x, some y => some (x, y)
      | _, _ => none
    | none => none
  | _, _ => none

def encS : (K : Kd) → K.T → SV
  | .int k, n => .int k n
  | .bool, b => .bool b
  | .list e, xs => .es e xs
  | _, _ => .junk

def svCs : (cs : List (Kd × Bool)) → CsT cs → List SV
  | [], _ => []
  | (K, _) :: r, x => encS K x.1 :: svCs r x.2

def svPs : (ps : List Pm) → PsT ps → List SV
  | [], _ => []
  | p :: r, x => (match p.ag with
    | true => .agg (svCs p.cs x.1)
    | false => (svCs p.cs x.1).headD .junk) :: svPs r x.2

/-- The handed-over slices become blocks of the caller's. -/
def putCs : (cs : List (Kd × Bool)) → CsT cs → Heap → List SV × Heap
  | [], _, H => ([], H)
  | (.list e, true) :: r, x, H => ((.own H.length) :: (putCs r x.2 (H ++ [.arr e x.1 0])).1, (putCs r x.2 (H ++ [.arr e x.1 0])).2)
  | (K, _) :: r, x, H => (encS K x.1 :: (putCs r x.2 H).1, (putCs r x.2 H).2)

def putPs : (ps : List Pm) → PsT ps → Heap → List SV × Heap
  | [], _, H => ([], H)
  | p :: r, x, H => ((match p.ag with
    | true => .agg (putCs p.cs x.1 H).1
    | false => (putCs p.cs x.1 H).1.headD .junk) :: (putPs r x.2 (putCs p.cs x.1 H).2).1, (putPs r x.2 (putCs p.cs x.1 H).2).2)

def resV : List SV → SV
  | [s] => s
  | ss => .tup ss

/-- A function on plain data. 'pure': its results lead to no memory; its arguments may be slices of the caller's own. -/
structure TF where
  ps : List Pm
  rs : List Pm
  flat : Bool
  fn : PsT ps → Option (PsT rs)

def TF.te (tf : TF) : TE where
  X := PsT tf.ps
  Y := PsT tf.rs
  mono := true
  view args H := cond tf.flat (viewPs H tf.ps args) (viewPs [] tf.ps args)
  fn := tf.fn
  put _ y _ H := some (resV (putPs tf.rs y H).1, (putPs tf.rs y H).2)

/-! ### data and memory -/
def CsRel (w : World) (B : Nat → Prop) : (cs : List (Kd × Bool)) → CsT cs → List Value → Prop
  | [], _, us => us = []
  | (K, _) :: r, x, us => ∃ u us', us = u :: us' ∧ CRel w B K x.1 [u] ∧ CsRel w B r x.2 us'

def PsRel (w : World) (B : Nat → Prop) : (ps : List Pm) → PsT ps → List Value → Prop
  | [], _, vs => vs = []
  | p :: r, x, vs => ∃ v vs', vs = v :: vs' ∧ (match p.ag with
    | true => ∃ us : Array Value, v = .agg us ∧ CsRel w B p.cs x.1 us.toList
    | false => CsRel w B p.cs x.1 [v]) ∧ PsRel w B r x.2 vs'

def OwnAt (w : World) (B : Nat → Prop) (e : Kd) (xs : List e.T) (u : Value) (tk : List Nat) : Prop :=
  (tk = [] ∧ xs = [] ∧ ∃ a, u = .slice a 0 0) ∨
  ∃ b o c C tC, tk = [b] ∧ u = .slice (some ⟨b, o, none⟩) xs.length c ∧ xs.length ≤ c ∧ w.heap[b]? = some (.cells C tC (0, 0)) ∧ o + c * e.sz ≤ C.size ∧ RowRel w B e xs C o

def CsOut (w : World) (B : Nat → Prop) : (cs : List (Kd × Bool)) → CsT cs → List Value → List Nat → Prop
  | [], _, us, tk => us = [] ∧ tk = []
  | (.list e, true) :: r, x, us, tk => ∃ u us' t1 t2, us = u :: us' ∧ tk = t1 ++ t2 ∧ OwnAt w B e x.1 u t1 ∧ CsOut w B r x.2 us' t2
  | (K, _) :: r, x, us, tk => ∃ u us', us = u :: us' ∧ CRel w B K x.1 [u] ∧ CsOut w B r x.2 us' tk

def PsOut (w : World) (B : Nat → Prop) : (ps : List Pm) → PsT ps → List Value → List Nat → Prop
  | [], _, vs, tk => vs = [] ∧ tk = []
  | p :: r, x, vs, tk => ∃ v vs' t1 t2, vs = v :: vs' ∧ tk = t1 ++ t2 ∧ (match p.ag with
    | true => ∃ us : Array Value, v = .agg us ∧ CsOut w B p.cs x.1 us.toList t1
    | false => CsOut w B p.cs x.1 [v] t1) ∧ PsOut w B r x.2 vs' t2

def resU (vs : Array Value) : Value := if h : vs.size = 1 then vs[0] else .tuple vs

/-- What a function does, told without its caller. -/
def FnSpec (P : Program) (f : FuncId) (tf : TF) : Prop :=
  ∀ (w : World) (res : Nat → Prop) (vs : List Value) (x : PsT tf.ps) (y : PsT tf.rs), (∀ b, res b → b < w.heap.size) → PsRel w (fun b => b < w.heap.size ∧ ¬ res b) tf.ps x vs → tf.fn x = some y →
    Calls P f vs.toArray w fun e w' => ∃ us tk, e = .returned (resU us) ∧ w'.os = w.os ∧ w'.tape = w.tape ∧ w'.output = w.output ∧ w.heap.size ≤ w'.heap.size ∧ (∀ b, b < w.heap.size → w'.heap[b]? = w.heap[b]?) ∧
      tk.Nodup ∧ (∀ b ∈ tk, w.heap.size ≤ b ∧ b < w'.heap.size) ∧ PsOut w' (fun b => b < w'.heap.size ∧ ¬ res b ∧ b ∉ tk) tf.rs y us.toList tk

/-- Results that lead to no memory. -/
def Kd.noList : Kd → Bool
  | .list _ => false
  | .pair a b => a.noList && b.noList
  | _ => true

def cellOK : Kd × Bool → Bool
  | (.list e, f) => f && e.noList
  | (K, _) => K.noList
def TF.ok (tf : TF) : Bool := !tf.flat || tf.rs.all fun p => p.cs.all cellOK

section
variable {w : World} {ρ : Map} {H : Heap}

theorem CsRel.of_view {B : Nat → Prop} (hd : ∀ {K : Kd} {s : SV} {x : K.T} {u : Value}, decH true H K [s] = some x → VRel ρ w s u → CRel w B K x [u]) : ∀ {cs : List (Kd × Bool)} {ss : List SV} {x : CsT cs} {us : List Value},
    viewCs H cs ss = some x → VRels ρ w ss us → CsRel w B cs x us
  | [], [], x, us, h, hv => by simp only [VRels] at hv; exact hv
  | [], _ :: _, x, us, h, hv => by simp [viewCs] at h
  | (K, f) :: r, [], x, us, h, hv => by simp [viewCs] at h
  | (K, f) :: r, s :: ss, x, us, h, hv => by
    simp only [viewCs] at h
    split at h
    · rename_i y z h1 h2
      simp only [Option.some.injEq] at h; subst h
      simp only [VRels] at hv
      obtain ⟨u, us', rfl, h3, h4⟩ := hv
      exact ⟨u, us', rfl, hd h1 h3, CsRel.of_view hd h2 h4⟩
    · simp at h

theorem PsRel.of_view {B : Nat → Prop} (hd : ∀ {K : Kd} {s : SV} {x : K.T} {u : Value}, decH true H K [s] = some x → VRel ρ w s u → CRel w B K x [u]) : ∀ {ps : List Pm} {ss : List SV} {x : PsT ps} {vs : List Value},
    viewPs H ps ss = some x → VRels ρ w ss vs → PsRel w B ps x vs
  | [], [], x, vs, h, hv => by simp only [VRels] at hv; exact hv
  | [], _ :: _, x, vs, h, hv => by simp [viewPs] at h
  | p :: r, [], x, vs, h, hv => by simp [viewPs] at h
  | p :: r, s :: ss, x, vs, h, hv => by
    simp only [viewPs] at h
    split at h
    · rename_i cs hc
      split at h
      · rename_i y z h1 h2
        simp only [Option.some.injEq] at h; subst h
        simp only [VRels] at hv
        obtain ⟨v, vs', rfl, h3, h4⟩ := hv
        refine ⟨v, vs', rfl, ?_, PsRel.of_view hd h2 h4⟩
        cases hag : p.ag with
        | true =>
          rw [hag] at hc
          simp only [cellsP] at hc
          split at hc
          · simp only [Option.some.injEq] at hc; subst hc
            simp only [VRel] at h3
            obtain ⟨us, rfl, h5⟩ := h3
            exact ⟨us, rfl, CsRel.of_view hd h1 h5⟩
          · simp at hc
        | false =>
          rw [hag] at hc
          simp only [cellsP, Option.some.injEq] at hc; subst hc
          exact CsRel.of_view hd h1 (VRels.single h3)
      · simp at h
    · simp at h

theorem encS_rel {B : Nat → Prop} (hB : ∀ b, B b → Free ρ w b) : ∀ {K : Kd} {x : K.T} {u : Value}, CRel w B K x [u] → VRel ρ w (encS K x) u
  | .int k, n, u, h => by simp only [CRel] at h; simp at h; subst h; simp [encS, VRel]
  | .bool, b, u, h => by simp only [CRel] at h; simp at h; subst h; simp [encS, VRel]
  | .unit, _, u, h => by simp only [CRel] at h; simp at h
  | .pair a b, _, u, h => by simp [encS, VRel]
  | .list e, xs, u, h => by simp only [encS, VRel]; exact CRel.mono hB (fun _ _ => rfl) h

theorem svCs_rel {B : Nat → Prop} (hB : ∀ b, B b → Free ρ w b) : ∀ {cs : List (Kd × Bool)} {x : CsT cs} {us : List Value}, CsRel w B cs x us → VRels ρ w (svCs cs x) us
  | [], x, us, h => by simp only [CsRel] at h; subst h; simp [svCs, VRels]
  | (K, f) :: r, x, us, h => by
    simp only [CsRel] at h
    obtain ⟨u, us', rfl, h1, h2⟩ := h
    simp only [svCs, VRels]
    exact ⟨u, us', rfl, encS_rel hB h1, svCs_rel hB h2⟩

theorem svPs_rel {B : Nat → Prop} (hB : ∀ b, B b → Free ρ w b) : ∀ {ps : List Pm} {x : PsT ps} {vs : List Value}, PsRel w B ps x vs → VRels ρ w (svPs ps x) vs
  | [], x, vs, h => by simp only [PsRel] at h; subst h; simp [svPs, VRels]
  | p :: r, x, vs, h => by
    simp only [PsRel] at h
    obtain ⟨v, vs', rfl, h1, h2⟩ := h
    simp only [svPs, VRels]
    refine ⟨v, vs', rfl, ?_, svPs_rel hB h2⟩
    cases hag : p.ag with
    | true =>
      rw [hag] at h1
      obtain ⟨us, rfl, h3⟩ := h1
      simp only [VRel]
      exact ⟨us, rfl, svCs_rel hB h3⟩
    | false =>
      rw [hag] at h1
      have h3 := svCs_rel hB h1
      cases hs : svCs p.cs x.1 with
      | nil => rw [hs] at h3; simp [VRels] at h3
      | cons s l =>
        rw [hs] at h3
        simp only [VRels] at h3
        obtain ⟨u, us', e, h4, _⟩ := h3
        simp at e
        simp only [List.headD_cons, e.1]; exact h4

theorem noList_any {B B' : Nat → Prop} : ∀ {K : Kd} {x : K.T} {us : List Value}, K.noList = true → CRel w B K x us → CRel w B' K x us
  | .int _, _, _, _, h => h
  | .bool, _, _, _, h => h
  | .unit, _, _, _, h => h
  | .pair a b, x, us, hn, h => by
    simp only [Kd.noList, Bool.and_eq_true] at hn
    simp only [CRel] at h ⊢
    obtain ⟨c1, c2, e, h1, h2⟩ := h
    exact ⟨c1, c2, e, noList_any hn.1 h1, noList_any hn.2 h2⟩
  | .list _, _, _, hn, _ => by simp [Kd.noList] at hn

theorem OwnAt.mono {B B' : Nat → Prop} (hB : ∀ b, B b → B' b) {e : Kd} {xs : List e.T} {u : Value} {tk : List Nat} (h : OwnAt w B e xs u tk) : OwnAt w B' e xs u tk := by
  rcases h with h | ⟨b, o, c, C, tC, h1, h2, h3, h4, h5, h6⟩
  · exact .inl h
  · exact .inr ⟨b, o, c, C, tC, h1, h2, h3, h4, h5, fun i x hx => by
      obtain ⟨es, h7, h8⟩ := h6 i x hx
      exact ⟨es, CRel.mono hB (fun _ _ => rfl) h7, h8⟩⟩

theorem OwnAt.noList {B B' : Nat → Prop} {e : Kd} {xs : List e.T} {u : Value} {tk : List Nat} (hn : e.noList = true) (h : OwnAt w B e xs u tk) : OwnAt w B' e xs u tk := by
  rcases h with h | ⟨b, o, c, C, tC, h1, h2, h3, h4, h5, h6⟩
  · exact .inl h
  · exact .inr ⟨b, o, c, C, tC, h1, h2, h3, h4, h5, fun i x hx => by
      obtain ⟨es, h7, h8⟩ := h6 i x hx
      exact ⟨es, noList_any hn h7, h8⟩⟩

theorem CsOut.mono {B B' : Nat → Prop} : ∀ {cs : List (Kd × Bool)} {x : CsT cs} {us : List Value} {tk : List Nat}, ((∀ b, B b → B' b) ∨ cs.all cellOK = true) → CsOut w B cs x us tk → CsOut w B' cs x us tk
  | [], x, us, tk, hB, h => h
  | (.list e, true) :: r, x, us, tk, hB, h => by
    simp only [CsOut] at h ⊢
    obtain ⟨u, us', t1, t2, h1, h2, h3, h4⟩ := h
    rcases hB with hB | hB
    · exact ⟨u, us', t1, t2, h1, h2, h3.mono hB, CsOut.mono (.inl hB) h4⟩
    · simp only [List.all_cons, Bool.and_eq_true] at hB
      exact ⟨u, us', t1, t2, h1, h2, h3.noList (by simpa [cellOK] using hB.1), CsOut.mono (.inr hB.2) h4⟩
  | (.list e, false) :: r, x, us, tk, hB, h => by
    simp only [CsOut] at h ⊢
    obtain ⟨u, us', h1, h3, h4⟩ := h
    rcases hB with hB | hB
    · exact ⟨u, us', h1, CRel.mono hB (fun _ _ => rfl) h3, CsOut.mono (.inl hB) h4⟩
    · simp [cellOK] at hB
  | (.int k, f) :: r, x, us, tk, hB, h => by
    simp only [CsOut] at h ⊢
    obtain ⟨u, us', h1, h3, h4⟩ := h
    exact ⟨u, us', h1, h3, CsOut.mono (hB.imp id fun h => by simp only [List.all_cons, Bool.and_eq_true] at h; exact h.2) h4⟩
  | (.bool, f) :: r, x, us, tk, hB, h => by
    simp only [CsOut] at h ⊢
    obtain ⟨u, us', h1, h3, h4⟩ := h
    exact ⟨u, us', h1, h3, CsOut.mono (hB.imp id fun h => by simp only [List.all_cons, Bool.and_eq_true] at h; exact h.2) h4⟩
  | (.unit, f) :: r, x, us, tk, hB, h => by
    simp only [CsOut] at h ⊢
    obtain ⟨u, us', h1, h3, h4⟩ := h
    exact ⟨u, us', h1, h3, CsOut.mono (hB.imp id fun h => by simp only [List.all_cons, Bool.and_eq_true] at h; exact h.2) h4⟩
  | (.pair a b, f) :: r, x, us, tk, hB, h => by
    simp only [CsOut] at h ⊢
    obtain ⟨u, us', h1, h3, h4⟩ := h
    refine ⟨u, us', h1, ?_, CsOut.mono (hB.imp id fun h => by simp only [List.all_cons, Bool.and_eq_true] at h; exact h.2) h4⟩
    rcases hB with hB | hB
    · exact CRel.mono hB (fun _ _ => rfl) h3
    · simp only [List.all_cons, Bool.and_eq_true] at hB
      exact noList_any (by simpa [cellOK] using hB.1) h3

theorem PsOut.mono {B B' : Nat → Prop} : ∀ {ps : List Pm} {x : PsT ps} {vs : List Value} {tk : List Nat}, ((∀ b, B b → B' b) ∨ ps.all (fun p => p.cs.all cellOK) = true) → PsOut w B ps x vs tk → PsOut w B' ps x vs tk
  | [], x, vs, tk, hB, h => h
  | p :: r, x, vs, tk, hB, h => by
    simp only [PsOut] at h ⊢
    obtain ⟨v, vs', t1, t2, h1, h2, h3, h4⟩ := h
    have hB1 : (∀ b, B b → B' b) ∨ p.cs.all cellOK = true := hB.imp id fun h => by simp only [List.all_cons, Bool.and_eq_true] at h; exact h.1
    have hB2 : (∀ b, B b → B' b) ∨ r.all (fun p => p.cs.all cellOK) = true := hB.imp id fun h => by simp only [List.all_cons, Bool.and_eq_true] at h; exact h.2
    refine ⟨v, vs', t1, t2, h1, h2, ?_, PsOut.mono hB2 h4⟩
    cases hag : p.ag with
    | true =>
      rw [hag] at h3
      obtain ⟨us, h5, h6⟩ := h3
      exact ⟨us, h5, CsOut.mono hB1 h6⟩
    | false =>
      rw [hag] at h3
      exact CsOut.mono hB1 h3

/-! ### what is handed over becomes the caller's -/
def EntOK (w : World) (B : Nat → Prop) (x : Blk) (m : Img) (t : List Nat) : Prop :=
  (m = .none_ ∧ t = [] ∧ ∃ e, x = .arr e [] 0) ∨
  ∃ b o n sz e xs C tC, m = .at b o n sz ∧ t = [b] ∧ x = .arr e xs 0 ∧ xs.length = n ∧ e.sz = sz ∧ w.heap[b]? = some (.cells C tC (0, 0)) ∧ o + n * sz ≤ C.size ∧ RowRel w B e xs C o

def Ent (w : World) (B : Nat → Prop) : List Blk → List Img → List Nat → Prop
  | [], [], tk => tk = []
  | x :: bs, m :: ms, tk => ∃ t1 t2, tk = t1 ++ t2 ∧ EntOK w B x m t1 ∧ Ent w B bs ms t2
  | _, _, _ => False

theorem Ent.append {B : Nat → Prop} : ∀ {bs bs' : List Blk} {ms ms' : List Img} {tk tk' : List Nat}, Ent w B bs ms tk → Ent w B bs' ms' tk' → Ent w B (bs ++ bs') (ms ++ ms') (tk ++ tk')
  | [], _, [], _, tk, _, h1, h2 => by simp only [Ent] at h1; subst h1; simpa using h2
  | [], _, _ :: _, _, tk, _, h1, h2 => by simp [Ent] at h1
  | _ :: _, _, [], _, tk, _, h1, h2 => by simp [Ent] at h1
  | x :: bs, bs', m :: ms, ms', tk, tk', h1, h2 => by
    simp only [Ent] at h1
    obtain ⟨t1, t2, rfl, h3, h4⟩ := h1
    simp only [List.cons_append, Ent]
    exact ⟨t1, t2 ++ tk', by simp, h3, Ent.append h4 h2⟩

theorem Ent.length {B : Nat → Prop} : ∀ {bs : List Blk} {ms : List Img} {tk : List Nat}, Ent w B bs ms tk → ms.length = bs.length
  | [], [], _, _ => rfl
  | [], _ :: _, _, h => by simp [Ent] at h
  | _ :: _, [], _, h => by simp [Ent] at h
  | x :: bs, m :: ms, tk, h => by
    simp only [Ent] at h
    obtain ⟨t1, t2, _, _, h4⟩ := h
    simp [Ent.length h4]

theorem Ent.get {B : Nat → Prop} : ∀ {bs : List Blk} {ms : List Img} {tk : List Nat}, Ent w B bs ms tk → ∀ (i : Nat) (m : Img), ms[i]? = some m → ∃ x t, bs[i]? = some x ∧ EntOK w B x m t ∧ ∀ b ∈ t, b ∈ tk
  | [], [], _, _, i, m, hm => by simp at hm
  | [], _ :: _, _, h, _, _, _ => by simp [Ent] at h
  | _ :: _, [], _, h, _, _, _ => by simp [Ent] at h
  | x :: bs, m0 :: ms, tk, h, i, m, hm => by
    simp only [Ent] at h
    obtain ⟨t1, t2, rfl, h3, h4⟩ := h
    cases i with
    | zero => simp at hm; subst hm; exact ⟨x, t1, rfl, h3, fun b hb => List.mem_append.2 (.inl hb)⟩
    | succ i =>
      obtain ⟨y, t, h5, h6, h7⟩ := Ent.get h4 i m (by simpa using hm)
      exact ⟨y, t, by simpa using h5, h6, fun b hb => List.mem_append.2 (.inr (h7 b hb))⟩

theorem EntOK.at_ {B : Nat → Prop} {x : Blk} {t : List Nat} {b o n sz : Nat} (h : EntOK w B x (.at b o n sz) t) : b ∈ t := by
  rcases h with ⟨h, _⟩ | ⟨b', _, _, _, _, _, _, _, h, rfl, _⟩
  · cases h
  · cases h; simp

theorem Ent.inj {B : Nat → Prop} : ∀ {bs : List Blk} {ms : List Img} {tk : List Nat}, Ent w B bs ms tk → tk.Nodup → ∀ (i j : Nat) {b o n sz o' n' sz' : Nat}, ms[i]? = some (.at b o n sz) → ms[j]? = some (.at b o' n' sz') → i = j
  | [], [], _, _, _, i, j, _, _, _, _, _, _, _, hm, _ => by simp at hm
  | [], _ :: _, _, h, _, _, _, _, _, _, _, _, _, _, _, _ => by simp [Ent] at h
  | _ :: _, [], _, h, _, _, _, _, _, _, _, _, _, _, _, _ => by simp [Ent] at h
  | x :: bs, m0 :: ms, tk, h, hnd, i, j, b, o, n, sz, o', n', sz', h1, h2 => by
    simp only [Ent] at h
    obtain ⟨t1, t2, rfl, h3, h4⟩ := h
    rw [List.nodup_append] at hnd
    obtain ⟨hd1, hd2, hd3⟩ := hnd
    have tail : ∀ {k b o n sz : Nat}, ms[k]? = some (Img.at b o n sz) → b ∈ t2 := fun hk => by
      obtain ⟨y, t, _, h6, h7⟩ := Ent.get h4 _ _ hk
      exact h7 _ h6.at_
    cases i with
    | zero =>
      simp at h1; subst h1
      cases j with
      | zero => rfl
      | succ j => exact absurd rfl (hd3 b h3.at_ b (tail (by simpa using h2)))
    | succ i =>
      cases j with
      | zero => simp at h2; subst h2; exact absurd rfl (hd3 b h3.at_ b (tail (by simpa using h1)))
      | succ j => rw [Ent.inj h4 hd2 i j (by simpa using h1) (by simpa using h2)]

/-- Images agree with a list. -/
def Agree (ρ : Map) (k : Nat) (ms : List Img) : Prop := ∀ (i : Nat) (m : Img), ms[i]? = some m → ρ (k + i) = m

theorem Agree.split {ρ : Map} {k : Nat} {ms ms' : List Img} (h : Agree ρ k (ms ++ ms')) : Agree ρ k ms ∧ Agree ρ (k + ms.length) ms' := by
  refine ⟨fun i m hm => h i m (by rw [List.getElem?_append_left (List.getElem?_eq_some_iff.1 hm).1]; exact hm), fun i m hm => ?_⟩
  have := h (ms.length + i) m (by rw [List.getElem?_append_right (by omega)]; simpa using hm)
  rw [← this]; congr 1; omega

theorem OwnAt.ent {B : Nat → Prop} {e : Kd} {xs : List e.T} {u : Value} {t : List Nat} (h : OwnAt w B e xs u t) : ∃ m, EntOK w B (.arr e xs 0) m t ∧ ∀ (ρ : Map) (β : Nat), ρ β = m → VRel ρ w (.own β) u := by
  rcases h with ⟨rfl, rfl, a, rfl⟩ | ⟨b, o, c, C, tC, rfl, rfl, h3, h4, h5, h6⟩
  · exact ⟨.none_, .inl ⟨rfl, rfl, e, rfl⟩, fun ρ β hb => by simp only [VRel, hb]; exact ⟨a, rfl⟩⟩
  · have hle : xs.length * e.sz ≤ c * e.sz := Nat.mul_le_mul_right _ h3
    exact ⟨.at b o xs.length e.sz, .inr ⟨b, o, _, _, e, xs, C, tC, rfl, rfl, rfl, rfl, rfl, h4, by omega, h6⟩, fun ρ β hb => by
      simp only [VRel, hb]; exact ⟨c, h3, rfl, C, tC, h4, h5⟩⟩

theorem putCs_ent {B : Nat → Prop} : ∀ {cs : List (Kd × Bool)} {x : CsT cs} {us : List Value} {tk : List Nat}, CsOut w B cs x us tk →
    ∃ bs ms, Ent w B bs ms tk ∧ ∀ H, (putCs cs x H).2 = H ++ bs ∧ ∀ ρ : Map, Agree ρ H.length ms → (∀ b, B b → Free ρ w b) → VRels ρ w (putCs cs x H).1 us
  | [], x, us, tk, h => by
    simp only [CsOut] at h
    obtain ⟨rfl, rfl⟩ := h
    exact ⟨[], [], rfl, fun H => ⟨by simp [putCs], fun ρ _ _ => by simp [putCs, VRels]⟩⟩
  | (.list e, true) :: r, x, us, tk, h => by
    simp only [CsOut] at h
    obtain ⟨u, us', t1, t2, rfl, rfl, h3, h4⟩ := h
    obtain ⟨m, h5, h6⟩ := h3.ent
    obtain ⟨bs, ms, h7, h8⟩ := putCs_ent h4
    refine ⟨.arr e x.1 0 :: bs, m :: ms, ⟨t1, t2, rfl, h5, h7⟩, fun H => ⟨by simp only [putCs]; rw [(h8 _).1]; simp, fun ρ ha hB => ?_⟩⟩
    simp only [putCs, VRels]
    refine ⟨u, us', rfl, h6 ρ _ (by simpa using ha 0 m rfl), (h8 _).2 ρ (fun i m' hm => ?_) hB⟩
    have := ha (i + 1) m' (by simpa using hm)
    rw [← this]; congr 1; simp; omega
  | (.list e, false) :: r, x, us, tk, h => by
    simp only [CsOut] at h
    obtain ⟨u, us', rfl, h3, h4⟩ := h
    obtain ⟨bs, ms, h7, h8⟩ := putCs_ent h4
    refine ⟨bs, ms, h7, fun H => ⟨by simp only [putCs]; exact (h8 H).1, fun ρ ha hB => ?_⟩⟩
    simp only [putCs, VRels]
    exact ⟨u, us', rfl, encS_rel hB h3, (h8 H).2 ρ ha hB⟩
  | (.int k, f) :: r, x, us, tk, h => by
    simp only [CsOut] at h
    obtain ⟨u, us', rfl, h3, h4⟩ := h
    obtain ⟨bs, ms, h7, h8⟩ := putCs_ent h4
    refine ⟨bs, ms, h7, fun H => ⟨by simp only [putCs]; exact (h8 H).1, fun ρ ha hB => ?_⟩⟩
    simp only [putCs, VRels]
    exact ⟨u, us', rfl, encS_rel hB h3, (h8 H).2 ρ ha hB⟩
  | (.bool, f) :: r, x, us, tk, h => by
    simp only [CsOut] at h
    obtain ⟨u, us', rfl, h3, h4⟩ := h
    obtain ⟨bs, ms, h7, h8⟩ := putCs_ent h4
    refine ⟨bs, ms, h7, fun H => ⟨by simp only [putCs]; exact (h8 H).1, fun ρ ha hB => ?_⟩⟩
    simp only [putCs, VRels]
    exact ⟨u, us', rfl, encS_rel hB h3, (h8 H).2 ρ ha hB⟩
  | (.unit, f) :: r, x, us, tk, h => by
    simp only [CsOut] at h
    obtain ⟨u, us', rfl, h3, h4⟩ := h
    obtain ⟨bs, ms, h7, h8⟩ := putCs_ent h4
    refine ⟨bs, ms, h7, fun H => ⟨by simp only [putCs]; exact (h8 H).1, fun ρ ha hB => ?_⟩⟩
    simp only [putCs, VRels]
    exact ⟨u, us', rfl, encS_rel hB h3, (h8 H).2 ρ ha hB⟩
  | (.pair a b, f) :: r, x, us, tk, h => by
    simp only [CsOut] at h
    obtain ⟨u, us', rfl, h3, h4⟩ := h
    obtain ⟨bs, ms, h7, h8⟩ := putCs_ent h4
    refine ⟨bs, ms, h7, fun H => ⟨by simp only [putCs]; exact (h8 H).1, fun ρ ha hB => ?_⟩⟩
    simp only [putCs, VRels]
    exact ⟨u, us', rfl, encS_rel hB h3, (h8 H).2 ρ ha hB⟩

theorem putPs_ent {B : Nat → Prop} : ∀ {ps : List Pm} {x : PsT ps} {vs : List Value} {tk : List Nat}, PsOut w B ps x vs tk →
    ∃ bs ms, Ent w B bs ms tk ∧ ∀ H, (putPs ps x H).2 = H ++ bs ∧ ∀ ρ : Map, Agree ρ H.length ms → (∀ b, B b → Free ρ w b) → VRels ρ w (putPs ps x H).1 vs
  | [], x, vs, tk, h => by
    simp only [PsOut] at h
    obtain ⟨rfl, rfl⟩ := h
    exact ⟨[], [], rfl, fun H => ⟨by simp [putPs], fun ρ _ _ => by simp [putPs, VRels]⟩⟩
  | p :: r, x, vs, tk, h => by
    simp only [PsOut] at h
    obtain ⟨v, vs', t1, t2, rfl, rfl, h3, h4⟩ := h
    have key : ∃ bs ms, Ent w B bs ms t1 ∧ ∀ H, (putCs p.cs x.1 H).2 = H ++ bs ∧ ∀ ρ : Map, Agree ρ H.length ms → (∀ b, B b → Free ρ w b) → VRel ρ w (match p.ag with
        | true => .agg (putCs p.cs x.1 H).1
        | false => (putCs p.cs x.1 H).1.headD .junk) v := by
      cases hag : p.ag with
      | true =>
        rw [hag] at h3
        obtain ⟨us, rfl, h5⟩ := h3
        obtain ⟨bs, ms, h6, h7⟩ := putCs_ent h5
        exact ⟨bs, ms, h6, fun H => ⟨(h7 H).1, fun ρ ha hB => by simp only [VRel]; exact ⟨us, rfl, (h7 H).2 ρ ha hB⟩⟩⟩
      | false =>
        rw [hag] at h3
        obtain ⟨bs, ms, h6, h7⟩ := putCs_ent h3
        refine ⟨bs, ms, h6, fun H => ⟨(h7 H).1, fun ρ ha hB => ?_⟩⟩
        have h8 := (h7 H).2 ρ ha hB
        cases hs : (putCs p.cs x.1 H).1 with
        | nil => rw [hs] at h8; simp [VRels] at h8
        | cons s l =>
          rw [hs] at h8
          simp only [VRels] at h8
          obtain ⟨u, us', e, h9, _⟩ := h8
          simp at e
          simp only [List.headD_cons, e.1]; exact h9
    obtain ⟨bs, ms, h5, h6⟩ := key
    obtain ⟨bs', ms', h7, h8⟩ := putPs_ent h4
    refine ⟨bs ++ bs', ms ++ ms', h5.append h7, fun H => ⟨by simp only [putPs]; rw [(h8 _).1, (h6 H).1]; simp, fun ρ ha hB => ?_⟩⟩
    have h9 := ha.split
    simp only [putPs, VRels]
    refine ⟨v, vs', rfl, (h6 H).2 ρ h9.1 hB, (h8 _).2 ρ ?_ hB⟩
    rw [(h6 H).1]
    have : (H ++ bs).length = H.length + ms.length := by rw [h5.length]; simp
    rw [this]; exact h9.2

def Map.add (ρ : Map) (k : Nat) (ms : List Img) : Map := ⟨fun β => if β < k then ρ β else match ms[β - k]? with | some m => m | none => ρ β, ρ.res⟩

theorem resV_rel {ss : List SV} {us : Array Value} (h : VRels ρ w ss us.toList) : VRel ρ w (resV ss) (resU us) := by
  unfold resU
  have hl := h.length
  unfold resV
  split
  · rename_i s
    simp at hl
    rw [dif_pos hl.symm]
    simp only [VRels] at h
    obtain ⟨u, us', e, h1, h2⟩ := h
    have : us[0]'(by omega) = u := by
      have h3 : us.toList[0]? = some u := by rw [e]; rfl
      rw [Array.getElem?_toList, Array.getElem?_eq_getElem (by omega)] at h3
      exact Option.some.inj h3
    rw [this]; exact h1
  · rename_i hne
    have : ¬ us.size = 1 := fun h1 => by
      simp only [Array.length_toList] at hl
      match ss, hl, hne with
      | [s], _, hne => exact hne s rfl
      | [], hl, _ => simp at hl; omega
      | _ :: _ :: _, hl, _ => simp at hl; omega
    rw [dif_neg this]
    simp only [VRel]
    exact ⟨us, rfl, h⟩

theorem te_sound {P : Program} {f : FuncId} {tf : TF} (hok : tf.ok = true) (h : FnSpec P f tf) : TESound P f tf.te := by
  intro ρ H w args vs x y v H' hH hv hun hview hfn hput
  have hput' : v = resV (putPs tf.rs y H).1 ∧ H' = (putPs tf.rs y H).2 := by
    simp only [TF.te, Option.some.injEq, Prod.mk.injEq] at hput
    exact ⟨hput.1.symm, hput.2.symm⟩
  obtain ⟨rfl, rfl⟩ := hput'
  -- what is kept from the callee
  let res : Nat → Prop := fun b => ρ.res b ∨ (tf.flat = false ∧ ∃ β o n sz, ρ β = .at b o n sz)
  have hres : ∀ b, res b → b < w.heap.size := by
    rintro b (hb | ⟨_, β, o, n, sz, hb⟩)
    · exact hH.resl b hb
    · exact hH.lt _ _ _ _ _ hb
  have hps : PsRel w (fun b => b < w.heap.size ∧ ¬ res b) tf.ps x vs := by
    simp only [TF.te] at hview
    cases hfl : tf.flat with
    | true =>
      rw [hfl] at hview
      refine PsRel.of_view (ρ := ρ) (fun {K s x u} h1 h2 => ?_) hview hv
      refine decH_rel hH (B := fun b => b < w.heap.size ∧ ¬ res b) (fun b hb => ⟨hb.1, ?_⟩) (fun γ b o n sz _ hg => ⟨hH.lt _ _ _ _ _ hg, ?_⟩) h1 (VRels.single h2)
      · rintro (h3 | ⟨h3, _⟩)
        · exact hb.2.1 h3
        · rw [hfl] at h3; cases h3
      · rintro (h3 | ⟨h3, _⟩)
        · exact hH.resf _ _ _ _ _ hg h3
        · rw [hfl] at h3; cases h3
    | false =>
      rw [hfl] at hview
      refine PsRel.of_view (ρ := ρ) (fun {K s x u} h1 h2 => ?_) hview hv
      exact CRel.mono (fun b hb => ⟨hb.1, fun h3 => by
        rcases h3 with h3 | ⟨_, β, o, n, sz, h3⟩
        · exact hb.2.1 h3
        · exact hb.2.2 _ _ _ _ h3⟩) (fun _ _ => rfl) (decC_rel h1 (VRels.single h2))
  refine Calls.mono (h w res vs x y hres hps hfn) fun e w' he => ?_
  obtain ⟨us, tk, rfl, hos, htape, hout, hsize, hkept, hnd, htk, hps'⟩ := he
  have hB : PsOut w' (fun b => b < w'.heap.size ∧ ¬ ρ.res b ∧ (∀ β o n sz, ρ β ≠ .at b o n sz) ∧ b ∉ tk) tf.rs y us.toList tk := by
    cases hfl : tf.flat with
    | true =>
      refine PsOut.mono (.inr ?_) hps'
      simpa [TF.ok, hfl] using hok
    | false =>
      exact PsOut.mono (.inl fun b hb => ⟨hb.1, fun h3 => hb.2.1 (.inl h3), fun β o n sz h3 => hb.2.1 (.inr ⟨hfl, β, o, n, sz, h3⟩), hb.2.2⟩) hps'
  obtain ⟨bs, ms, hent, hputs⟩ := putPs_ent hB
  obtain ⟨hH', hvr⟩ := hputs H
  have hml := hent.length
  have hlt : ∀ {β}, β < H.length → (ρ.add H.length ms) β = ρ β := fun h => by simp [Map.add, h]
  have hge : ∀ {i}, i < ms.length → ∃ m, ms[i]? = some m ∧ (ρ.add H.length ms) (H.length + i) = m := fun {i} h => by
    refine ⟨ms[i], List.getElem?_eq_getElem h, ?_⟩
    simp only [Map.add]; rw [if_neg (by omega), Nat.add_sub_cancel_left, List.getElem?_eq_getElem h]
  have hgt : ∀ {β}, H.length + ms.length ≤ β → (ρ.add H.length ms) β = ρ β := fun {β} h => by
    simp only [Map.add]; rw [if_neg (by omega), List.getElem?_eq_none (by omega)]
  have cases3 : ∀ β, (β < H.length ∧ (ρ.add H.length ms) β = ρ β) ∨ (H.length + ms.length ≤ β ∧ (ρ.add H.length ms) β = ρ β) ∨ ∃ i m, β = H.length + i ∧ ms[i]? = some m ∧ (ρ.add H.length ms) β = m := by
    intro β
    rcases Nat.lt_or_ge β H.length with h1 | h1
    · exact .inl ⟨h1, hlt h1⟩
    · rcases Nat.lt_or_ge β (H.length + ms.length) with h2 | h2
      · obtain ⟨m, h3, h4⟩ := hge (i := β - H.length) (by omega)
        rw [show H.length + (β - H.length) = β by omega] at h4
        exact .inr (.inr ⟨β - H.length, m, by omega, h3, h4⟩)
      · exact .inr (.inl ⟨h2, hgt h2⟩)
  have htkn : ∀ {i : Nat} {b o n sz : Nat}, ms[i]? = some (.at b o n sz) → b ∈ tk := fun hm => by
    obtain ⟨_, t, _, h6, h7⟩ := hent.get _ _ hm
    exact h7 _ h6.at_
  have hub : ∀ β, H.length ≤ β → β < H.length + ms.length → ρ β = .unborn := fun β h1 h2 => hun β h1 (by rw [hH']; simp; omega)
  have hstep : Step ρ w (ρ.add H.length ms) w' := {
    os := hos, tape := htape, output := hout, size := hsize
    kept := fun b hb _ => hkept b hb
    shape := fun b C t fr hb => ⟨C, by rw [hkept b (Array.getElem?_eq_some_iff.1 hb).1]; exact hb, rfl⟩
    img := fun β b o n sz hb => by
      rcases cases3 β with ⟨_, h2⟩ | ⟨_, h2⟩ | ⟨i, m, _, h3, h4⟩
      · rw [h2] at hb; exact .inl ⟨β, o, n, sz, hb⟩
      · rw [h2] at hb; exact .inl ⟨β, o, n, sz, hb⟩
      · rw [h4] at hb; subst hb
        exact .inr (htk b (htkn h3)).1
    ref := fun β hb => by
      rcases cases3 β with ⟨_, h2⟩ | ⟨_, h2⟩ | ⟨i, m, h2, h3, _⟩
      · exact .inl h2
      · exact .inl h2
      · exact absurd (hub β (by omega) (by have := (List.getElem?_eq_some_iff.1 h3).1; omega)) hb
    res := rfl }
  have hfree : ∀ b, (b < w'.heap.size ∧ ¬ ρ.res b ∧ (∀ β o n sz, ρ β ≠ .at b o n sz) ∧ b ∉ tk) → Free (ρ.add H.length ms) w' b := fun b hb => ⟨hb.1, hb.2.1, fun β o n sz h1 => by
    rcases cases3 β with ⟨_, h2⟩ | ⟨_, h2⟩ | ⟨i, m, _, h3, h4⟩
    · rw [h2] at h1; exact hb.2.2.1 _ _ _ _ h1
    · rw [h2] at h1; exact hb.2.2.1 _ _ _ _ h1
    · rw [h4] at h1; subst h1; exact hb.2.2.2 (htkn h3)⟩
  have hlen : (H ++ bs).length = H.length + ms.length := by rw [hml]; simp
  have hsz : ∀ {β b o n sz}, ρ β = .at b o n sz → b < w.heap.size := fun h => hH.lt _ _ _ _ _ h
  refine ⟨resU us, ρ.add H.length ms, rfl, hstep, ?_, ?_, ?_, ?_, ?_⟩
  · rw [hH']
    constructor
    · intro β hl hd
      rcases cases3 β with ⟨h1, h2⟩ | ⟨h1, h2⟩ | ⟨i, m, h2, h3, h4⟩
      · rw [List.getElem?_append_left h1]; exact hH.dead β h1 (by rw [← h2]; exact hd)
      · omega
      · rw [h4] at hd; subst hd
        obtain ⟨_, t, _, h6, _⟩ := hent.get _ _ h3
        rcases h6 with ⟨h6, _⟩ | ⟨_, _, _, _, _, _, _, _, h6, _⟩ <;> cases h6
    · intro β hl hd
      rcases cases3 β with ⟨h1, h2⟩ | ⟨h1, h2⟩ | ⟨i, m, h2, h3, h4⟩
      · rw [List.getElem?_append_left h1]; exact hH.none_ β h1 (by rw [← h2]; exact hd)
      · omega
      · rw [h4] at hd; subst hd; subst h2
        obtain ⟨x, t, h5, h6, _⟩ := hent.get _ _ h3
        rcases h6 with ⟨_, _, e, h6⟩ | ⟨_, _, _, _, _, _, _, _, h6, _⟩
        · subst h6
          exact .inl ⟨e, 0, by rw [List.getElem?_append_right (by omega), Nat.add_sub_cancel_left]; exact h5⟩
        · cases h6
    · intro β hl b o n sz hd
      rcases cases3 β with ⟨h1, h2⟩ | ⟨h1, h2⟩ | ⟨i, m, h2, h3, h4⟩
      · rw [h2] at hd
        obtain ⟨x, h5, h6⟩ := hH.at_ β h1 _ _ _ _ hd
        exact ⟨x, by rw [List.getElem?_append_left h1]; exact h5, h6.keep hstep (hkept b (hsz hd))⟩
      · omega
      · rw [h4] at hd; subst hd; subst h2
        obtain ⟨x, t, h5, h6, _⟩ := hent.get _ _ h3
        rcases h6 with ⟨h6, _⟩ | ⟨b', o', n', sz', e, xs, C, tC, h6, h7, h8, h9, h10, h11, h12, h13⟩
        · cases h6
        · cases h6; subst h8
          refine ⟨_, by rw [List.getElem?_append_right (by omega), Nat.add_sub_cancel_left]; exact h5, ?_⟩
          simp only [BRel]
          exact ⟨h9, h10, C, tC, h11, h12, fun i x hx => by
            obtain ⟨es, h14, h15⟩ := h13 i x hx
            exact ⟨es, CRel.mono hfree (fun _ _ => rfl) h14, h15⟩⟩
    · intro β γ b o n sz o' n' sz' hb hc
      rcases cases3 β with ⟨h1, h2⟩ | ⟨h1, h2⟩ | ⟨i, m, h2, h3, h4⟩ <;> rcases cases3 γ with ⟨g1, g2⟩ | ⟨g1, g2⟩ | ⟨j, m', g2, g3, g4⟩
      · rw [h2] at hb; rw [g2] at hc; exact hH.inj _ _ _ _ _ _ _ _ _ hb hc
      · rw [h2] at hb; rw [g2] at hc; exact hH.inj _ _ _ _ _ _ _ _ _ hb hc
      · rw [h2] at hb; rw [g4] at hc; subst hc
        have := (htk b (htkn g3)).1; have := hsz hb; omega
      · rw [h2] at hb; rw [g2] at hc; exact hH.inj _ _ _ _ _ _ _ _ _ hb hc
      · rw [h2] at hb; rw [g2] at hc; exact hH.inj _ _ _ _ _ _ _ _ _ hb hc
      · rw [h2] at hb; rw [g4] at hc; subst hc
        have := (htk b (htkn g3)).1; have := hsz hb; omega
      · rw [h4] at hb; subst hb; rw [g2] at hc
        have := (htk b (htkn h3)).1; have := hsz hc; omega
      · rw [h4] at hb; subst hb; rw [g2] at hc
        have := (htk b (htkn h3)).1; have := hsz hc; omega
      · rw [h4] at hb; subst hb; rw [g4] at hc; subst hc
        rw [h2, g2, hent.inj hnd i j h3 g3]
    · intro β b o n sz hb
      rcases cases3 β with ⟨h1, h2⟩ | ⟨h1, h2⟩ | ⟨i, m, h2, h3, h4⟩
      · rw [h2] at hb; have := hsz hb; omega
      · rw [h2] at hb; have := hsz hb; omega
      · rw [h4] at hb; subst hb; exact (htk b (htkn h3)).2
    · intro b hb; have := hH.resl b hb; omega
    · intro β b o n sz hb hr
      rcases cases3 β with ⟨h1, h2⟩ | ⟨h1, h2⟩ | ⟨i, m, h2, h3, h4⟩
      · rw [h2] at hb; exact hH.resf _ _ _ _ _ hb hr
      · rw [h2] at hb; exact hH.resf _ _ _ _ _ hb hr
      · rw [h4] at hb; subst hb
        have := (htk b (htkn h3)).1; have := hH.resl b hr; omega
  · exact resV_rel (hvr (ρ.add H.length ms) (fun i m hm => by
      obtain ⟨m', h1, h2⟩ := hge (List.getElem?_eq_some_iff.1 hm).1
      rw [hm] at h1; cases h1; exact h2) hfree)
  · rw [hH']; simp
  · intro β hb hc
    rcases cases3 β with ⟨_, h2⟩ | ⟨_, h2⟩ | ⟨i, m, h2, h3, h4⟩
    · rw [h2]; exact hb
    · rw [h2]; exact hb
    · exfalso
      rw [hH'] at hc
      have := (List.getElem?_eq_some_iff.1 h3).1
      simp at hc; omega
  · intro _
    refine ⟨⟨bs, hH'⟩, fun β hc => ?_, fun b hb => hkept b hb⟩
    rcases cases3 β with ⟨_, h2⟩ | ⟨_, h2⟩ | ⟨i, m, h2, h3, h4⟩
    · exact h2
    · exact h2
    · exfalso
      rw [hH'] at hc
      have := (List.getElem?_eq_some_iff.1 h3).1
      simp at hc; omega
end
end Go.Proofs.Ytjnkefbdpcbkmaa.Den
