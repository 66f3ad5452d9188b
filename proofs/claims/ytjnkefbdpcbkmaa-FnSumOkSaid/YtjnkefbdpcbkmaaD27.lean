/- Contracts whose parameters and results are of any shape: structs in structs, values in interfaces, known functions, rows that are handed over. -/
import Derived.Test.YtjnkefbdpcbkmaaD26
namespace Go.Proofs.Ytjnkefbdpcbkmaa.Den
open Go Go.RowKit
set_option linter.unusedVariables false
set_option linter.unusedSimpArgs false

/-- The shape of a list of values. A cell's number: 0: data; 1: a slice that is handed over; n + 2: n rows that are handed over, each in memory of its own. -/
inductive Sh where
  | nil
  | cell (K : Kd) (f : Nat) (r : Sh)
  | agg (i r : Sh)
  | ifc (t : TypeId) (i r : Sh)
  | fnc (g : FuncId) (r : Sh)

@[reducible] def Sh.T : Sh → Type
  | .nil => Unit
  | .cell K _ r => K.T × r.T
  | .agg i r => i.T × r.T
  | .ifc _ i r => i.T × r.T
  | .fnc _ r => r.T

def viewS (H : Heap) : (s : Sh) → List SV → Option s.T
  | .nil, [] => some ()
  | .cell K _ r, v :: vs => match decH true H K [v], viewS H r vs with
    | some x, some y => some (x, y)
    | _, _ => none
  | .agg i r, v :: vs => match v with
    | .agg cs => match viewS H i cs, viewS H r vs with
      | some x, some y => some (x, y)
      | _, _ => none
    | _ => none
  | .ifc t i r, v :: vs => match v with
    | .iface t' c => if t' = t then (match viewS H i [c], viewS H r vs with
      | some x, some y => some (x, y)
      | _, _ => none) else none
    | _ => none
  | .fnc g r, v :: vs => match v with
    | .fn (.func g') [] [] => if g' = g then viewS H r vs else none
    | _ => none
  | _, _ => none

def svS : (s : Sh) → s.T → List SV
  | .nil, _ => []
  | .cell K _ r, x => encS K x.1 :: svS r x.2
  | .agg i r, x => .agg (svS i x.1) :: svS r x.2
  | .ifc t i r, x => .iface t ((svS i x.1).headD .junk) :: svS r x.2
  | .fnc g r, x => .fn (.func g) [] [] :: svS r x

def rowsN {α : Type} (n : Nat) (xs : List (List α)) : List (List α) := (List.range n).map fun i => xs.getD i []
def ownRow (k n : Nat) : Blk := .cells ((List.range n).map fun i => .own (k + 1 + i)) 0 1
def innerB (e : Kd) (xs : List (List e.T)) : Heap := xs.map fun x => .arr e x 0

def putS : (s : Sh) → s.T → Heap → List SV × Heap
  | .nil, _, H => ([], H)
  | .cell (.list e) 1 r, x, H => (.own H.length :: (putS r x.2 (H ++ [.arr e x.1 0])).1, (putS r x.2 (H ++ [.arr e x.1 0])).2)
  | .cell (.list (.list e)) (n + 2) r, x, H => (.own H.length :: (putS r x.2 (H ++ (ownRow H.length n :: innerB e (rowsN n x.1)))).1, (putS r x.2 (H ++ (ownRow H.length n :: innerB e (rowsN n x.1)))).2)
  | .cell K _ r, x, H => (encS K x.1 :: (putS r x.2 H).1, (putS r x.2 H).2)
  | .agg i r, x, H => (.agg (putS i x.1 H).1 :: (putS r x.2 (putS i x.1 H).2).1, (putS r x.2 (putS i x.1 H).2).2)
  | .ifc t i r, x, H => (.iface t ((putS i x.1 H).1.headD .junk) :: (putS r x.2 (putS i x.1 H).2).1, (putS r x.2 (putS i x.1 H).2).2)
  | .fnc g r, x, H => (.fn (.func g) [] [] :: (putS r x H).1, (putS r x H).2)

structure TG where
  ps : Sh
  rs : Sh
  flat : Bool
  fn : ps.T → Option rs.T

def TG.te (tf : TG) : TE where
  X := tf.ps.T
  Y := tf.rs.T
  mono := true
  view args H := cond tf.flat (viewS H tf.ps args) (viewS [] tf.ps args)
  fn := tf.fn
  put _ y _ H := some (resV (putS tf.rs y H).1, (putS tf.rs y H).2)

def ShRel (w : World) (B : Nat → Prop) : (s : Sh) → s.T → List Value → Prop
  | .nil, _, us => us = []
  | .cell K _ r, x, us => ∃ u us', us = u :: us' ∧ CRel w B K x.1 [u] ∧ ShRel w B r x.2 us'
  | .agg i r, x, us => ∃ (a : Array Value) (us' : List Value), us = .agg a :: us' ∧ ShRel w B i x.1 a.toList ∧ ShRel w B r x.2 us'
  | .ifc t i r, x, us => ∃ u us', us = .iface t u :: us' ∧ ShRel w B i x.1 [u] ∧ ShRel w B r x.2 us'
  | .fnc g r, x, us => ∃ us', us = .func (.func g) #[] #[] :: us' ∧ ShRel w B r x us'

def OwnL (w : World) (B : Nat → Prop) (e : Kd) : List (List e.T) → List Value → List Nat → Prop
  | [], us, tk => us = [] ∧ tk = []
  | x :: xs, us, tk => ∃ u us' t1 t2, us = u :: us' ∧ tk = t1 ++ t2 ∧ OwnAt w B e x u t1 ∧ OwnL w B e xs us' t2

def OwnRows (w : World) (B : Nat → Prop) (e : Kd) (n : Nat) (xs : List (List e.T)) (u : Value) (tk : List Nat) : Prop :=
  ∃ b o c C tC us t', tk = b :: t' ∧ u = .slice (some ⟨b, o, none⟩) n c ∧ n ≤ c ∧ w.heap[b]? = some (.cells C tC (0, 0)) ∧ o + c * 1 ≤ C.size ∧ us.length = n ∧
    (∀ (i : Nat) (v : Value), us[i]? = some v → C[o + i]? = some v) ∧ OwnL w B e (rowsN n xs) us t'

def ShOut (w : World) (B : Nat → Prop) : (s : Sh) → s.T → List Value → List Nat → Prop
  | .nil, _, us, tk => us = [] ∧ tk = []
  | .cell (.list e) 1 r, x, us, tk => ∃ u us' t1 t2, us = u :: us' ∧ tk = t1 ++ t2 ∧ OwnAt w B e x.1 u t1 ∧ ShOut w B r x.2 us' t2
  | .cell (.list (.list e)) (n + 2) r, x, us, tk => ∃ u us' t1 t2, us = u :: us' ∧ tk = t1 ++ t2 ∧ OwnRows w B e n x.1 u t1 ∧ ShOut w B r x.2 us' t2
  | .cell K _ r, x, us, tk => ∃ u us', us = u :: us' ∧ CRel w B K x.1 [u] ∧ ShOut w B r x.2 us' tk
  | .agg i r, x, us, tk => ∃ (a : Array Value) (us' : List Value) (t1 t2 : List Nat), us = .agg a :: us' ∧ tk = t1 ++ t2 ∧ ShOut w B i x.1 a.toList t1 ∧ ShOut w B r x.2 us' t2
  | .ifc t i r, x, us, tk => ∃ u us' t1 t2, us = .iface t u :: us' ∧ tk = t1 ++ t2 ∧ ShOut w B i x.1 [u] t1 ∧ ShOut w B r x.2 us' t2
  | .fnc g r, x, us, tk => ∃ us', us = .func (.func g) #[] #[] :: us' ∧ ShOut w B r x us' tk

def FnSpecG (P : Program) (f : FuncId) (tf : TG) : Prop :=
  ∀ (w : World) (res : Nat → Prop) (vs : List Value) (x : tf.ps.T) (y : tf.rs.T), (∀ b, res b → b < w.heap.size) → ShRel w (fun b => b < w.heap.size ∧ ¬ res b) tf.ps x vs → tf.fn x = some y →
    Calls P f vs.toArray w fun e w' => ∃ us tk, e = .returned (resU us) ∧ w'.os = w.os ∧ w'.tape = w.tape ∧ w'.output = w.output ∧ w.heap.size ≤ w'.heap.size ∧ (∀ b, b < w.heap.size → w'.heap[b]? = w.heap[b]?) ∧
      tk.Nodup ∧ (∀ b ∈ tk, w.heap.size ≤ b ∧ b < w'.heap.size) ∧ ShOut w' (fun b => b < w'.heap.size ∧ ¬ res b ∧ b ∉ tk) tf.rs y us.toList tk

/-- Handed-over results lead to nothing else. -/
def Sh.flatOK : Sh → Bool
  | .nil => true
  | .cell (.list e) 1 r => e.noList && r.flatOK
  | .cell (.list (.list e)) (n + 2) r => e.noList && r.flatOK
  | .cell K _ r => K.noList && r.flatOK
  | .agg i r => i.flatOK && r.flatOK
  | .ifc _ i r => i.flatOK && r.flatOK
  | .fnc _ r => r.flatOK

def TG.ok (tf : TG) : Bool := !tf.flat || tf.rs.flatOK

section
variable {w : World} {ρ : Map} {H : Heap}

theorem ShRel.of_view {B : Nat → Prop} (hd : ∀ {K : Kd} {s : SV} {x : K.T} {u : Value}, decH true H K [s] = some x → VRel ρ w s u → CRel w B K x [u]) : ∀ {s : Sh} {ss : List SV} {x : s.T} {us : List Value},
    viewS H s ss = some x → VRels ρ w ss us → ShRel w B s x us
  | .nil, [], x, us, h, hv => by simp only [VRels] at hv; exact hv
  | .nil, _ :: _, x, us, h, hv => by simp [viewS] at h
  | .cell K f r, [], x, us, h, hv | .agg i r, [], x, us, h, hv | .ifc t i r, [], x, us, h, hv | .fnc g r, [], x, us, h, hv => by simp [viewS] at h
  | .cell K f r, s :: ss, x, us, h, hv => by
    simp only [viewS] at h
    split at h
    · rename_i y z h1 h2
      simp only [Option.some.injEq] at h; subst h
      simp only [VRels] at hv
      obtain ⟨u, us', rfl, h3, h4⟩ := hv
      exact ⟨u, us', rfl, hd h1 h3, ShRel.of_view hd h2 h4⟩
    · simp at h
  | .agg i r, s :: ss, x, us, h, hv => by
    simp only [viewS] at h
    split at h
    · rename_i cs
      split at h
      · rename_i y z h1 h2
        simp only [Option.some.injEq] at h; subst h
        simp only [VRels, VRel] at hv
        obtain ⟨u, us', rfl, ⟨a, rfl, h3⟩, h4⟩ := hv
        exact ⟨a, us', rfl, ShRel.of_view hd h1 h3, ShRel.of_view hd h2 h4⟩
      · simp at h
    · simp at h
  | .ifc t i r, s :: ss, x, us, h, hv => by
    simp only [viewS] at h
    split at h
    · rename_i t' c
      split at h
      · rename_i ht
        subst ht
        split at h
        · rename_i y z h1 h2
          simp only [Option.some.injEq] at h; subst h
          simp only [VRels, VRel] at hv
          obtain ⟨u, us', rfl, ⟨v, rfl, h3⟩, h4⟩ := hv
          exact ⟨v, us', rfl, ShRel.of_view hd h1 (VRels.single h3), ShRel.of_view hd h2 h4⟩
        · simp at h
      · simp at h
    · simp at h
  | .fnc g r, s :: ss, x, us, h, hv => by
    simp only [viewS] at h
    split at h
    · rename_i g'
      split at h
      · rename_i hg
        subst hg
        simp only [VRels, VRel] at hv
        obtain ⟨u, us', rfl, ⟨vf, vc, rfl, h1, h2⟩, h4⟩ := hv
        have e1 : vf = #[] := Array.toList_inj.1 (by simpa using h1)
        have e2 : vc = #[] := Array.toList_inj.1 (by simpa using h2)
        subst e1; subst e2
        exact ⟨us', rfl, ShRel.of_view hd h h4⟩
      · simp at h
    · simp at h

theorem svS_rel {B : Nat → Prop} (hB : ∀ b, B b → Free ρ w b) : ∀ {s : Sh} {x : s.T} {us : List Value}, ShRel w B s x us → VRels ρ w (svS s x) us
  | .nil, x, us, h => by simp only [ShRel] at h; subst h; simp [svS, VRels]
  | .cell K f r, x, us, h => by
    simp only [ShRel] at h
    obtain ⟨u, us', rfl, h1, h2⟩ := h
    simp only [svS, VRels]
    exact ⟨u, us', rfl, encS_rel hB h1, svS_rel hB h2⟩
  | .agg i r, x, us, h => by
    simp only [ShRel] at h
    obtain ⟨a, us', rfl, h1, h2⟩ := h
    simp only [svS, VRels, VRel]
    exact ⟨_, us', rfl, ⟨a, rfl, svS_rel hB h1⟩, svS_rel hB h2⟩
  | .ifc t i r, x, us, h => by
    simp only [ShRel] at h
    obtain ⟨u, us', rfl, h1, h2⟩ := h
    have h3 := svS_rel hB h1
    simp only [svS, VRels, VRel]
    refine ⟨_, us', rfl, ⟨u, rfl, ?_⟩, svS_rel hB h2⟩
    cases hs : svS i x.1 with
    | nil => rw [hs] at h3; simp [VRels] at h3
    | cons s l =>
      rw [hs] at h3
      simp only [VRels] at h3
      obtain ⟨u', us2, e, h4, _⟩ := h3
      simp at e
      simp only [List.headD_cons, e.1]; exact h4
  | .fnc g r, x, us, h => by
    simp only [ShRel] at h
    obtain ⟨us', rfl, h2⟩ := h
    simp only [svS, VRels, VRel]
    exact ⟨_, us', rfl, ⟨#[], #[], rfl, rfl, rfl⟩, svS_rel hB h2⟩

theorem OwnL.mono {B B' : Nat → Prop} {e : Kd} (hB : (∀ b, B b → B' b) ∨ e.noList = true) : ∀ {xs : List (List e.T)} {us : List Value} {tk : List Nat}, OwnL w B e xs us tk → OwnL w B' e xs us tk
  | [], _, _, h => h
  | x :: xs, us, tk, h => by
    simp only [OwnL] at h ⊢
    obtain ⟨u, us', t1, t2, h1, h2, h3, h4⟩ := h
    exact ⟨u, us', t1, t2, h1, h2, hB.elim (fun hb => h3.mono hb) (fun hn => h3.noList hn), OwnL.mono hB h4⟩

theorem OwnRows.mono {B B' : Nat → Prop} {e : Kd} (hB : (∀ b, B b → B' b) ∨ e.noList = true) {n : Nat} {xs : List (List e.T)} {u : Value} {tk : List Nat} (h : OwnRows w B e n xs u tk) : OwnRows w B' e n xs u tk := by
  obtain ⟨b, o, c, C, tC, us, t', h1, h2, h3, h4, h5, h6, h7, h8⟩ := h
  exact ⟨b, o, c, C, tC, us, t', h1, h2, h3, h4, h5, h6, h7, h8.mono hB⟩

/-- A cell that is neither a slice nor rows handed over. -/
def plainC : Kd → Nat → Bool
  | .list _, 1 => false
  | .list (.list _), _ + 2 => false
  | _, _ => true

theorem ShOut.plain {B : Nat → Prop} {K : Kd} {f : Nat} {r : Sh} (hp : plainC K f = true) {x : (Sh.cell K f r).T} {us : List Value} {tk : List Nat} :
    ShOut w B (.cell K f r) x us tk ↔ ∃ u us', us = u :: us' ∧ CRel w B K x.1 [u] ∧ ShOut w B r x.2 us' tk := by
  unfold plainC at hp
  split at hp
  · cases hp
  · cases hp
  · rename_i h1 h2
    rw [ShOut]
    · exact fun e _ h3 h4 _ => h1 e h3 h4
    · exact fun e n _ h3 h4 _ => h2 e n h3 h4
theorem putS_plain {K : Kd} {f : Nat} {r : Sh} (hp : plainC K f = true) {x : (Sh.cell K f r).T} {H : Heap} : putS (.cell K f r) x H = (encS K x.1 :: (putS r x.2 H).1, (putS r x.2 H).2) := by
  unfold plainC at hp
  split at hp
  · cases hp
  · cases hp
  · rename_i h1 h2
    rw [putS]
    · exact fun e _ h3 h4 _ => h1 e h3 h4
    · exact fun e n _ h3 h4 _ => h2 e n h3 h4
theorem flatOK_plain {K : Kd} {f : Nat} {r : Sh} (hp : plainC K f = true) : (Sh.cell K f r).flatOK = (K.noList && r.flatOK) := by
  unfold plainC at hp
  split at hp
  · cases hp
  · cases hp
  · rename_i h1 h2
    rw [Sh.flatOK]
    · exact h1
    · exact h2

theorem cellCases (K : Kd) (f : Nat) : plainC K f = true ∨ (∃ e, K = .list e ∧ f = 1) ∨ ∃ e n, K = .list (.list e) ∧ f = n + 2 := by
  cases h : plainC K f with
  | true => exact .inl rfl
  | false =>
    unfold plainC at h
    split at h
    · exact .inr (.inl ⟨_, rfl, rfl⟩)
    · exact .inr (.inr ⟨_, _, rfl, rfl⟩)
    · cases h

theorem ShOut.mono {B B' : Nat → Prop} : ∀ {s : Sh} {x : s.T} {us : List Value} {tk : List Nat}, ((∀ b, B b → B' b) ∨ s.flatOK = true) → ShOut w B s x us tk → ShOut w B' s x us tk
  | .nil, x, us, tk, hB, h => h
  | .cell K f r, x, us, tk, hB, h => by
    rcases cellCases K f with hp | ⟨e, rfl, rfl⟩ | ⟨e, n, rfl, rfl⟩
    · rw [ShOut.plain hp] at h ⊢
      rw [flatOK_plain hp, Bool.and_eq_true] at hB
      obtain ⟨u, us', h1, h2, h3⟩ := h
      exact ⟨u, us', h1, hB.elim (fun hb => CRel.mono hb (fun _ _ => rfl) h2) (fun hn => noList_any hn.1 h2), ShOut.mono (hB.imp id fun hn => hn.2) h3⟩
    · simp only [Sh.flatOK, Bool.and_eq_true] at hB
      simp only [ShOut] at h ⊢
      obtain ⟨u, us', t1, t2, h1, h2, h3, h4⟩ := h
      exact ⟨u, us', t1, t2, h1, h2, hB.elim (fun hb => h3.mono hb) (fun hn => h3.noList hn.1), ShOut.mono (hB.imp id fun hn => hn.2) h4⟩
    · simp only [Sh.flatOK, Bool.and_eq_true] at hB
      simp only [ShOut] at h ⊢
      obtain ⟨u, us', t1, t2, h1, h2, h3, h4⟩ := h
      exact ⟨u, us', t1, t2, h1, h2, h3.mono (hB.imp id fun hn => hn.1), ShOut.mono (hB.imp id fun hn => hn.2) h4⟩
  | .agg i r, x, us, tk, hB, h => by
    simp only [Sh.flatOK, Bool.and_eq_true] at hB
    simp only [ShOut] at h ⊢
    obtain ⟨a, us', t1, t2, h1, h2, h3, h4⟩ := h
    exact ⟨a, us', t1, t2, h1, h2, ShOut.mono (hB.imp id fun hn => hn.1) h3, ShOut.mono (hB.imp id fun hn => hn.2) h4⟩
  | .ifc t i r, x, us, tk, hB, h => by
    simp only [Sh.flatOK, Bool.and_eq_true] at hB
    simp only [ShOut] at h ⊢
    obtain ⟨u, us', t1, t2, h1, h2, h3, h4⟩ := h
    exact ⟨u, us', t1, t2, h1, h2, ShOut.mono (hB.imp id fun hn => hn.1) h3, ShOut.mono (hB.imp id fun hn => hn.2) h4⟩
  | .fnc g r, x, us, tk, hB, h => by
    simp only [Sh.flatOK] at hB
    simp only [ShOut] at h ⊢
    obtain ⟨us', h1, h2⟩ := h
    exact ⟨us', h1, ShOut.mono hB h2⟩

/-! ### what is handed over becomes the caller's -/
structure EntP (w : World) (B : Nat → Prop) (k : Nat) (bs : List Blk) (ms : List Img) (tk : List Nat) : Prop where
  len : ms.length = bs.length
  ok : ∀ (ρ : Map), Agree ρ k ms → (∀ b, B b → Free ρ w b) → ∀ (i : Nat) (x : Blk) (m : Img), bs[i]? = some x → ms[i]? = some m → (m = .none_ ∧ ∃ e, x = .arr e [] 0) ∨ ∃ b o n sz, m = .at b o n sz ∧ BRel ρ w b o n sz x
  mem : ∀ (i : Nat) (b o n sz : Nat), ms[i]? = some (.at b o n sz) → b ∈ tk
  inj : tk.Nodup → ∀ (i j : Nat) (b o n sz o' n' sz' : Nat), ms[i]? = some (.at b o n sz) → ms[j]? = some (.at b o' n' sz') → i = j

theorem EntP.nil {B : Nat → Prop} {k : Nat} : EntP w B k [] [] [] := ⟨rfl, fun _ _ _ i x m h => by simp at h, fun i b o n sz h => by simp at h, fun _ i j b o n sz o' n' sz' h => by simp at h⟩

theorem EntP.append {B : Nat → Prop} {k : Nat} {bs bs' : List Blk} {ms ms' : List Img} {tk tk' : List Nat} (h1 : EntP w B k bs ms tk) (h2 : EntP w B (k + bs.length) bs' ms' tk') : EntP w B k (bs ++ bs') (ms ++ ms') (tk ++ tk') where
  len := by rw [List.length_append, List.length_append, h1.len, h2.len]
  ok ρ ha hf i x m hx hm := by
    have ha2 := ha.split
    rw [h1.len] at ha2
    rcases Nat.lt_or_ge i bs.length with hi | hi
    · rw [List.getElem?_append_left hi] at hx
      rw [List.getElem?_append_left (by rw [h1.len]; exact hi)] at hm
      exact h1.ok ρ ha2.1 hf i x m hx hm
    · rw [List.getElem?_append_right hi] at hx
      rw [List.getElem?_append_right (by rw [h1.len]; exact hi), h1.len] at hm
      exact h2.ok ρ ha2.2 hf _ x m hx hm
  mem i b o n sz hm := by
    rcases Nat.lt_or_ge i ms.length with hi | hi
    · rw [List.getElem?_append_left hi] at hm
      exact List.mem_append.2 (.inl (h1.mem i b o n sz hm))
    · rw [List.getElem?_append_right hi] at hm
      exact List.mem_append.2 (.inr (h2.mem _ b o n sz hm))
  inj hnd i j b o n sz o' n' sz' hi hj := by
    obtain ⟨n1, n2, n3⟩ := List.nodup_append.1 hnd
    rcases Nat.lt_or_ge i ms.length with ci | ci <;> rcases Nat.lt_or_ge j ms.length with cj | cj
    · rw [List.getElem?_append_left ci] at hi
      rw [List.getElem?_append_left cj] at hj
      exact h1.inj n1 i j b o n sz o' n' sz' hi hj
    · rw [List.getElem?_append_left ci] at hi
      rw [List.getElem?_append_right cj] at hj
      exact absurd rfl (n3 b (h1.mem _ _ _ _ _ hi) b (h2.mem _ _ _ _ _ hj))
    · rw [List.getElem?_append_right ci] at hi
      rw [List.getElem?_append_left cj] at hj
      exact absurd rfl (n3 b (h1.mem _ _ _ _ _ hj) b (h2.mem _ _ _ _ _ hi))
    · rw [List.getElem?_append_right ci] at hi
      rw [List.getElem?_append_right cj] at hj
      have := h2.inj n2 _ _ b o n sz o' n' sz' hi hj
      omega

theorem OwnAt.entP {B : Nat → Prop} {e : Kd} {xs : List e.T} {u : Value} {t : List Nat} (h : OwnAt w B e xs u t) (k : Nat) : ∃ m, EntP w B k [.arr e xs 0] [m] t ∧ ∀ (ρ : Map) (β : Nat), ρ β = m → VRel ρ w (.own β) u := by
  rcases h with ⟨rfl, rfl, a, rfl⟩ | ⟨b, o, c, C, tC, rfl, rfl, h3, h4, h5, h6⟩
  · refine ⟨.none_, ⟨rfl, fun ρ _ _ i x m hx hm => ?_, fun i b o n sz hm => ?_, fun _ i j b o n sz o' n' sz' hm _ => ?_⟩, fun ρ β hb => by simp only [VRel, hb]; exact ⟨a, rfl⟩⟩
    · cases i with
      | zero => simp at hx hm; subst hx; subst hm; exact .inl ⟨rfl, e, rfl⟩
      | succ i => simp at hx
    · cases i <;> simp at hm
    · cases i <;> simp at hm
  · have hle : xs.length * e.sz ≤ c * e.sz := Nat.mul_le_mul_right _ h3
    refine ⟨.at b o xs.length e.sz, ⟨rfl, fun ρ _ hf i x m hx hm => ?_, fun i b' o' n sz hm => ?_, fun _ i j b o n sz o' n' sz' hi hj => ?_⟩, fun ρ β hb => by
      simp only [VRel, hb]; exact ⟨c, h3, rfl, C, tC, h4, h5⟩⟩
    · cases i with
      | zero =>
        simp at hx hm; subst hx; subst hm
        refine .inr ⟨_, _, _, _, rfl, ?_⟩
        simp only [BRel]
        exact ⟨by first | rfl | trivial, by first | rfl | trivial, C, tC, h4, by omega, fun i x hx => by
          obtain ⟨es, h7, h8⟩ := h6 i x hx
          exact ⟨es, CRel.mono hf (fun _ _ => rfl) h7, h8⟩⟩
      | succ i => simp at hx
    · cases i with
      | zero => simp at hm; simp [hm.1]
      | succ i => simp at hm
    · cases i with
      | zero =>
        cases j with
        | zero => rfl
        | succ j => simp at hj
      | succ i => simp at hi

theorem OwnL.entP {B : Nat → Prop} {e : Kd} : ∀ {xs : List (List e.T)} {us : List Value} {tk : List Nat}, OwnL w B e xs us tk → ∀ k, ∃ ms, EntP w B k (innerB e xs) ms tk ∧
      ∀ (ρ : Map), Agree ρ k ms → ∀ (i : Nat) (u : Value), us[i]? = some u → VRel ρ w (.own (k + i)) u
  | [], us, tk, h, k => by
    simp only [OwnL] at h
    obtain ⟨rfl, rfl⟩ := h
    exact ⟨[], EntP.nil, fun ρ _ i u hu => by simp at hu⟩
  | x :: xs, us, tk, h, k => by
    simp only [OwnL] at h
    obtain ⟨u, us', t1, t2, rfl, rfl, h3, h4⟩ := h
    obtain ⟨m, h5, h6⟩ := h3.entP k
    obtain ⟨ms, h7, h8⟩ := h4.entP (k + 1)
    refine ⟨m :: ms, EntP.append h5 h7, fun ρ ha i v hv => ?_⟩
    cases i with
    | zero =>
      simp at hv; subst hv
      exact h6 ρ _ (by simpa using ha 0 m rfl)
    | succ i =>
      have := h8 ρ (fun i m' hm => by have := ha (i + 1) m' (by simpa using hm); rw [← this]; congr 1; omega) i v (by simpa using hv)
      rwa [show k + 1 + i = k + (i + 1) from by omega] at this

theorem innerB_len {e : Kd} {xs : List (List e.T)} : (innerB e xs).length = xs.length := by simp [innerB]
theorem rowsN_len {α : Type} {n : Nat} {xs : List (List α)} : (rowsN n xs).length = n := by simp [rowsN]

theorem OwnRows.entP {B : Nat → Prop} {e : Kd} {n : Nat} {xs : List (List e.T)} {u : Value} {tk : List Nat} (h : OwnRows w B e n xs u tk) (k : Nat) :
    ∃ ms, EntP w B k (ownRow k n :: innerB e (rowsN n xs)) ms tk ∧ ∀ (ρ : Map), Agree ρ k ms → VRel ρ w (.own k) u := by
  obtain ⟨b, o, c, C, tC, us, t', rfl, rfl, h3, h4, h5, h6, h7, h8⟩ := h
  obtain ⟨ms, h9, h10⟩ := h8.entP (k + 1)
  have hml := h9.len
  refine ⟨.at b o n 1 :: ms, ⟨by simp [hml], fun ρ ha hf i x m hx hm => ?_, fun i b' o' n' sz' hm => ?_, fun hnd i j b1 o1 n1 s1 o2 n2 s2 hi hj => ?_⟩, fun ρ ha => ?_⟩
  · have ha2 : Agree ρ (k + 1) ms := fun i m' hm => by have := ha (i + 1) m' (by simpa using hm); rw [← this]; congr 1; omega
    cases i with
    | zero =>
      simp at hx hm; subst hx; subst hm
      refine .inr ⟨_, _, _, _, rfl, ?_⟩
      simp only [ownRow, BRel]
      refine ⟨trivial, by simp, C, tC, h4, by omega, fun j s hs => ?_⟩
      rw [List.getElem?_map] at hs
      rcases Nat.lt_or_ge j n with hj | hj
      · rw [List.getElem?_range hj] at hs
        simp at hs; subst hs
        have hu := List.getElem?_eq_getElem (l := us) (i := j) (by omega)
        exact ⟨_, h7 j _ hu, h10 ρ ha2 j _ hu⟩
      · rw [List.getElem?_eq_none (by simpa using hj)] at hs; simp at hs
    | succ i => exact h9.ok ρ ha2 hf i x m (by simpa using hx) (by simpa using hm)
  · cases i with
    | zero => simp at hm; simp [hm.1]
    | succ i => exact List.mem_cons_of_mem _ (h9.mem i b' o' n' sz' (by simpa using hm))
  · obtain ⟨n1', n2'⟩ := List.nodup_cons.1 hnd
    cases i with
    | zero =>
      cases j with
      | zero => rfl
      | succ j =>
        simp at hi
        obtain ⟨rfl, _⟩ := hi
        exact absurd (h9.mem j _ _ _ _ (by simpa using hj)) n1'
    | succ i =>
      cases j with
      | zero =>
        simp at hj
        obtain ⟨rfl, _⟩ := hj
        exact absurd (h9.mem i _ _ _ _ (by simpa using hi)) n1'
      | succ j =>
        have := h9.inj n2' i j b1 o1 n1 s1 o2 n2 s2 (by simpa using hi) (by simpa using hj)
        omega
  · have := ha 0 _ rfl
    simp only [Nat.add_zero] at this
    simp only [VRel, this]
    exact ⟨c, h3, rfl, C, tC, h4, h5⟩

theorem putS_ent {B : Nat → Prop} : ∀ {s : Sh} {x : s.T} {vs : List Value} {tk : List Nat}, ShOut w B s x vs tk → ∀ (H : Heap),
    ∃ bs ms, EntP w B H.length bs ms tk ∧ (putS s x H).2 = H ++ bs ∧ ∀ ρ : Map, Agree ρ H.length ms → (∀ b, B b → Free ρ w b) → VRels ρ w (putS s x H).1 vs
  | .nil, x, vs, tk, h, H => by
    simp only [ShOut] at h
    obtain ⟨rfl, rfl⟩ := h
    exact ⟨[], [], EntP.nil, by simp [putS], fun ρ _ _ => by simp [putS, VRels]⟩
  | .cell K f r, x, vs, tk, h, H => by
    rcases cellCases K f with hp | ⟨e, rfl, rfl⟩ | ⟨e, n, rfl, rfl⟩
    · rw [ShOut.plain hp] at h
      obtain ⟨u, us', rfl, h2, h3⟩ := h
      obtain ⟨bs, ms, h4, h5, h6⟩ := putS_ent h3 H
      refine ⟨bs, ms, h4, by rw [putS_plain hp]; exact h5, fun ρ ha hB => ?_⟩
      rw [putS_plain hp]
      simp only [VRels]
      exact ⟨u, us', rfl, encS_rel hB h2, h6 ρ ha hB⟩
    · simp only [ShOut] at h
      obtain ⟨u, us', t1, t2, rfl, rfl, h3, h4⟩ := h
      obtain ⟨m, h5, h6⟩ := h3.entP H.length
      obtain ⟨bs, ms, h7, h8, h9⟩ := putS_ent h4 (H ++ [.arr e x.1 0])
      simp only [List.length_append, List.length_singleton] at h7 h9
      refine ⟨_, _, EntP.append h5 (by simpa using h7), by simp only [putS]; rw [h8, List.append_assoc], fun ρ ha hB => ?_⟩
      have ha2 := ha.split
      simp only [putS, VRels]
      exact ⟨u, us', rfl, h6 ρ _ (by simpa using ha2.1 0 m rfl), h9 ρ (by simpa using ha2.2) hB⟩
    · simp only [ShOut] at h
      obtain ⟨u, us', t1, t2, rfl, rfl, h3, h4⟩ := h
      obtain ⟨ms1, h5, h6⟩ := h3.entP H.length
      obtain ⟨bs, ms, h7, h8, h9⟩ := putS_ent h4 (H ++ (ownRow H.length n :: innerB e (rowsN n x.1)))
      rw [List.length_append] at h7 h9
      have hl := h5.len
      refine ⟨_, _, EntP.append h5 h7, by simp only [putS]; rw [h8, List.append_assoc], fun ρ ha hB => ?_⟩
      have ha2 := ha.split
      simp only [putS, VRels]
      exact ⟨u, us', rfl, h6 ρ ha2.1, h9 ρ (by rw [← hl]; exact ha2.2) hB⟩
  | .agg i r, x, vs, tk, h, H => by
    simp only [ShOut] at h
    obtain ⟨a, us', t1, t2, rfl, rfl, h3, h4⟩ := h
    obtain ⟨bs1, ms1, h5, h6, h7⟩ := putS_ent h3 H
    obtain ⟨bs2, ms2, h8, h9, h10⟩ := putS_ent h4 (putS i x.1 H).2
    rw [h6, List.length_append] at h8 h10
    have hl := h5.len
    refine ⟨_, _, EntP.append h5 h8, by simp only [putS]; rw [h9, h6, List.append_assoc], fun ρ ha hB => ?_⟩
    have ha2 := ha.split
    simp only [putS, VRels, VRel]
    refine ⟨_, us', rfl, ⟨a, rfl, h7 ρ ha2.1 hB⟩, ?_⟩
    have := h10 ρ (by rw [← hl]; exact ha2.2) hB
    rw [h6]
    exact this
  | .ifc t i r, x, vs, tk, h, H => by
    simp only [ShOut] at h
    obtain ⟨u, us', t1, t2, rfl, rfl, h3, h4⟩ := h
    obtain ⟨bs1, ms1, h5, h6, h7⟩ := putS_ent h3 H
    obtain ⟨bs2, ms2, h8, h9, h10⟩ := putS_ent h4 (putS i x.1 H).2
    rw [h6, List.length_append] at h8 h10
    have hl := h5.len
    refine ⟨_, _, EntP.append h5 h8, by simp only [putS]; rw [h9, h6, List.append_assoc], fun ρ ha hB => ?_⟩
    have ha2 := ha.split
    have h11 := h7 ρ ha2.1 hB
    simp only [putS, VRels, VRel]
    refine ⟨_, us', rfl, ⟨u, rfl, ?_⟩, ?_⟩
    · cases hs : (putS i x.1 H).1 with
      | nil => rw [hs] at h11; simp [VRels] at h11
      | cons s l =>
        rw [hs] at h11
        simp only [VRels] at h11
        obtain ⟨u', us2, e, h12, _⟩ := h11
        simp at e
        simp only [List.headD_cons, e.1]; exact h12
    · have := h10 ρ (by rw [← hl]; exact ha2.2) hB
      rw [h6]
      exact this
  | .fnc g r, x, vs, tk, h, H => by
    simp only [ShOut] at h
    obtain ⟨us', rfl, h2⟩ := h
    obtain ⟨bs, ms, h4, h5, h6⟩ := putS_ent h2 H
    refine ⟨bs, ms, h4, by simp only [putS]; exact h5, fun ρ ha hB => ?_⟩
    simp only [putS, VRels, VRel]
    exact ⟨_, us', rfl, ⟨#[], #[], rfl, rfl, rfl⟩, h6 ρ ha hB⟩
end
end Go.Proofs.Ytjnkefbdpcbkmaa.Den
