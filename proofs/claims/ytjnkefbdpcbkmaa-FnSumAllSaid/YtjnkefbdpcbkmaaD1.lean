/- The values, kinds and worlds of the denotational reading: definitions, and how they persist as memory grows. -/
import Derived.Orders
import Derived.Tactics
import Derived.Below
namespace Go.Proofs.Ytjnkefbdpcbkmaa.Den
open Go Go.RowKit
set_option linter.unusedVariables false
set_option linter.unusedSimpArgs false

/-- Kinds of plain data. -/
inductive Kd where
  | int (k : IntKind) | bool | unit | pair (a b : Kd) | list (e : Kd)
  deriving DecidableEq

@[reducible] def Kd.T : Kd → Type
  | .int _ => Int
  | .bool => Bool
  | .unit => Unit
  | .pair a b => a.T × b.T
  | .list e => List e.T

def Kd.sz : Kd → Nat
  | .int _ => 1
  | .bool => 1
  | .unit => 0
  | .pair a b => a.sz + b.sz
  | .list _ => 1

def Kd.dflt : (K : Kd) → K.T
  | .int _ => (0 : Int)
  | .bool => false
  | .unit => ()
  | .pair a b => (a.dflt, b.dflt)
  | .list _ => []

inductive SV where
  | junk
  | int (k : IntKind) (n : Int)
  | bool (b : Bool)
  | nilp
  | ptr (b off : Nat)
  | aptr (b i j : Nat)
  | eptr (K : Kd) (x : K.T) (j : Nat)
  | nils
  | own (b : Nat)
  | sub (b off len : Nat)
  | es (K : Kd) (xs : List K.T)
  | agg (cs : List SV)
  | arrv (K : Kd) (xs : List K.T)
  | tup (cs : List SV)
  | fn (f : Fn) (first cap : List SV)
  | nilf
  | iface (t : TypeId) (v : SV)
  | nili

inductive Blk where
  | dead
  | cells (cs : List SV) (t : TypeId) (z : Nat)
  | arr (K : Kd) (xs : List K.T) (t : TypeId)

abbrev Heap := List Blk
abbrev Tm := List SV

/-- Where an abstract block lies. -/
inductive Img where
  | unborn
  | dead
  | none_
  | at (b o n sz : Nat)

/-- Where the abstract blocks lie; 'res': blocks that belong to callers. -/
structure Map where
  img : Nat → Img
  res : Nat → Prop
instance : CoeFun Map (fun _ => Nat → Img) := ⟨Map.img⟩

/-- A block that no abstract block lies in: nobody writes there. -/
def Free (ρ : Map) (w : World) (b : Nat) : Prop := b < w.heap.size ∧ ¬ ρ.res b ∧ ∀ β o n sz, ρ β ≠ .at b o n sz

/-- Data as it reads in memory: its cells. 'B': the blocks that it may lead to. -/
def CRel (w : World) (B : Nat → Prop) : (K : Kd) → K.T → List Value → Prop
  | .int k, n, cs => cs = [.int k n]
  | .bool, b, cs => cs = [.bool b]
  | .unit, _, cs => cs = []
  | .pair a b, x, cs => ∃ c1 c2, cs = c1 ++ c2 ∧ CRel w B a x.1 c1 ∧ CRel w B b x.2 c2
  | .list e, xs, cs => ∃ (a : Option Addr) (c : Nat), cs = [.slice a xs.length c] ∧ xs.length ≤ c ∧
      (0 < xs.length → ∃ ad, a = some ad ∧ B ad.block ∧ ∀ (i : Nat) (x : e.T), xs[i]? = some x → ∃ es, CRel w B e x es ∧
        ∀ (j : Nat) (u : Value), es[j]? = some u → w.cell? (ad.add (i * e.sz + j)) = some u)

theorem CRel.length {w : World} {B : Nat → Prop} : ∀ {K : Kd} {x : K.T} {cs : List Value}, CRel w B K x cs → cs.length = K.sz
  | .int _, _, _, h => by simp only [CRel] at h; subst h; rfl
  | .bool, _, _, h => by simp only [CRel] at h; subst h; rfl
  | .unit, _, _, h => by simp only [CRel] at h; subst h; rfl
  | .pair a b, x, _, h => by
    simp only [CRel] at h
    obtain ⟨c1, c2, rfl, h1, h2⟩ := h
    simp [Kd.sz, CRel.length h1, CRel.length h2]
  | .list e, xs, _, h => by
    simp only [CRel] at h
    obtain ⟨a, c, rfl, _⟩ := h
    rfl

theorem block_add (a : Addr) (n : Nat) : (a.add n).block = a.block := by unfold Addr.add; split <;> rfl
theorem add_add (a : Addr) (i j : Nat) : (a.add i).add j = a.add (i + j) := by
  unfold Addr.add
  by_cases hi : i = 0 <;> by_cases hj : j = 0 <;> simp [hi, hj, Nat.add_assoc]

theorem CRel.mono {w w' : World} {B B' : Nat → Prop} (hB : ∀ b, B b → B' b) (hw : ∀ b, B b → w'.heap[b]? = w.heap[b]?) :
    ∀ {K : Kd} {x : K.T} {cs : List Value}, CRel w B K x cs → CRel w' B' K x cs
  | .int _, _, _, h => h
  | .bool, _, _, h => h
  | .unit, _, _, h => h
  | .pair a b, x, _, h => by
    simp only [CRel] at h ⊢
    obtain ⟨c1, c2, e, h1, h2⟩ := h
    exact ⟨c1, c2, e, CRel.mono hB hw h1, CRel.mono hB hw h2⟩
  | .list e, xs, _, h => by
    simp only [CRel] at h ⊢
    obtain ⟨a, c, e1, hc, h⟩ := h
    refine ⟨a, c, e1, hc, fun h0 => ?_⟩
    obtain ⟨ad, ea, hb, hx⟩ := h h0
    refine ⟨ad, ea, hB _ hb, fun i x hi => ?_⟩
    obtain ⟨es, h1, h2⟩ := hx i x hi
    refine ⟨es, CRel.mono hB hw h1, fun j u hu => ?_⟩
    rw [World.cell?_of_block (w := w)]
    · exact h2 j u hu
    · rw [block_add]; exact hw _ hb

/-- Room in a block. -/
def Room (w : World) (b k : Nat) : Prop := ∃ C t, w.heap[b]? = some (.cells C t (0, 0)) ∧ k ≤ C.size

/-- Cells in memory from an address on. -/
def CellsAt (w : World) (ad : Addr) (cs : List Value) : Prop := ∀ (j : Nat) (u : Value), cs[j]? = some u → w.cell? (ad.add j) = some u

mutual
def VRel (ρ : Map) (w : World) : SV → Value → Prop
  | .junk, _ => True
  | .int k n, v => v = .int k n
  | .bool b, v => v = .bool b
  | .nilp, v => v = .pointer none
  | .ptr β off, v => match ρ β with
    | .unborn => False
    | .dead => ∃ ad, v = .pointer (some ad)
    | .none_ => False
    | .at b o _ _ => v = .pointer (some ⟨b, o + off, none⟩)
  | .aptr β i j, v => match ρ β with
    | .unborn => False
    | .dead => ∃ ad, v = .pointer (some ad)
    | .none_ => False
    | .at b o _ sz => v = .pointer (some ⟨b, o + i * sz + j, none⟩)
  | .eptr K x j, v => ∃ ad es, v = .pointer (some (ad.add j)) ∧ CRel w (Free ρ w) K x es ∧ Free ρ w ad.block ∧ CellsAt w ad es
  | .nils, v => ∃ a, v = .slice a 0 0
  | .own β, v => match ρ β with
    | .unborn => False
    | .dead => ∃ a n c, v = .slice a n c
    | .none_ => ∃ a, v = .slice a 0 0
    | .at b o n sz => ∃ c, n ≤ c ∧ v = .slice (some ⟨b, o, none⟩) n c ∧ Room w b (o + c * sz)
  | .sub β off len, v => match ρ β with
    | .unborn => False
    | .dead => ∃ a n c, v = .slice a n c
    | .none_ => len = 0 ∧ ∃ a, v = .slice a 0 0
    | .at b o n sz => off + len ≤ n ∧ ∃ a c, v = .slice a len c ∧ len ≤ c ∧ ((len = 0 ∧ c = 0) ∨ (a = some ⟨b, o + off * sz, none⟩ ∧ Room w b (o + off * sz + c * sz)))
  | .es K xs, v => CRel w (Free ρ w) (.list K) xs [v]
  | .agg cs, v => ∃ vs : Array Value, v = .agg vs ∧ VRels ρ w cs vs.toList
  | .arrv K xs, v => ∃ vs : Array Value, v = .agg vs ∧ vs.size = xs.length * K.sz ∧ ∀ (i : Nat) (x : K.T), xs[i]? = some x → ∃ es, CRel w (Free ρ w) K x es ∧
      ∀ (j : Nat) (u : Value), es[j]? = some u → vs[i * K.sz + j]? = some u
  | .tup cs, v => ∃ vs : Array Value, v = .tuple vs ∧ VRels ρ w cs vs.toList
  | .fn f first cap, v => ∃ vf vc : Array Value, v = .func f vf vc ∧ VRels ρ w first vf.toList ∧ VRels ρ w cap vc.toList
  | .nilf, v => v = .nilFunc
  | .iface t x, v => ∃ u, v = .iface t u ∧ VRel ρ w x u
  | .nili, v => v = .nilIface
def VRels (ρ : Map) (w : World) : List SV → List Value → Prop
  | [], vs => vs = []
  | c :: cs, vs => ∃ u us, vs = u :: us ∧ VRel ρ w c u ∧ VRels ρ w cs us
end

/-- Element rows of one kind in an array of cells. -/
def RowRel (w : World) (B : Nat → Prop) (K : Kd) (xs : List K.T) (C : Array Value) (o : Nat) : Prop :=
  ∀ (i : Nat) (x : K.T), xs[i]? = some x → ∃ es, CRel w B K x es ∧ ∀ (j : Nat) (u : Value), es[j]? = some u → C[o + i * K.sz + j]? = some u

def BRel (ρ : Map) (w : World) (b o n sz : Nat) : Blk → Prop
  | .dead => False
  | .cells cs _ z => z = sz ∧ cs.length = n * sz ∧ ∃ C tC, w.heap[b]? = some (.cells C tC (0, 0)) ∧ o + n * sz ≤ C.size ∧ ∀ (j : Nat) (s : SV), cs[j]? = some s → ∃ u, C[o + j]? = some u ∧ VRel ρ w s u
  | .arr K xs _ => xs.length = n ∧ K.sz = sz ∧ ∃ C tC, w.heap[b]? = some (.cells C tC (0, 0)) ∧ o + n * sz ≤ C.size ∧ RowRel w (Free ρ w) K xs C o

structure HRel (ρ : Map) (H : Heap) (w : World) : Prop where
  dead : ∀ β, β < H.length → ρ β = .dead → H[β]? = some .dead
  none_ : ∀ β, β < H.length → ρ β = .none_ → (∃ K t, H[β]? = some (.arr K [] t)) ∨ (∃ t z, H[β]? = some (.cells [] t z))
  at_ : ∀ β, β < H.length → ∀ b o n sz, ρ β = .at b o n sz → ∃ x, H[β]? = some x ∧ BRel ρ w b o n sz x
  inj : ∀ β γ b o n sz o' n' sz', ρ β = .at b o n sz → ρ γ = .at b o' n' sz' → β = γ
  lt : ∀ β b o n sz, ρ β = .at b o n sz → b < w.heap.size
  resl : ∀ b, ρ.res b → b < w.heap.size
  resf : ∀ β b o n sz, ρ β = .at b o n sz → ¬ ρ.res b

/-- How the world, and what lies where, may turn. -/
structure Step (ρ : Map) (w : World) (ρ' : Map) (w' : World) : Prop where
  os : w'.os = w.os
  tape : w'.tape = w.tape
  output : w'.output = w.output
  size : w.heap.size ≤ w'.heap.size
  kept : ∀ b, b < w.heap.size → (∀ β o n sz, ρ β ≠ .at b o n sz) → w'.heap[b]? = w.heap[b]?
  shape : ∀ (b : Nat) C t fr, w.heap[b]? = some (.cells C t fr) → ∃ C', w'.heap[b]? = some (.cells C' t fr) ∧ C'.size = C.size
  img : ∀ β b o n sz, ρ' β = .at b o n sz → (∃ γ o' n' sz', ρ γ = .at b o' n' sz') ∨ w.heap.size ≤ b
  ref : ∀ β, ρ β ≠ .unborn → ρ' β = ρ β ∨ ρ' β = .dead
  res : ρ'.res = ρ.res

theorem Step.free {ρ ρ' : Map} {w w' : World} (h : Step ρ w ρ' w') (b : Nat) (hf : Free ρ w b) : w'.heap[b]? = w.heap[b]? := h.kept b hf.1 hf.2.2

theorem Free.step {ρ ρ' : Map} {w w' : World} (h : Step ρ w ρ' w') {b : Nat} (hf : Free ρ w b) : Free ρ' w' b := by
  refine ⟨Nat.lt_of_lt_of_le hf.1 h.size, by rw [h.res]; exact hf.2.1, fun β o n sz e => ?_⟩
  rcases h.img β b o n sz e with ⟨γ, o', n', sz', hg⟩ | hg
  · exact hf.2.2 _ _ _ _ hg
  · exact absurd hf.1 (by omega)

theorem Room.step {ρ ρ' : Map} {w w' : World} (h : Step ρ w ρ' w') {b k : Nat} (hr : Room w b k) : Room w' b k := by
  obtain ⟨C, t, hb, hk⟩ := hr
  obtain ⟨C', hb', hs⟩ := h.shape _ _ _ _ hb
  exact ⟨C', t, hb', by omega⟩

theorem Step.refl (ρ : Map) (w : World) : Step ρ w ρ w :=
  ⟨rfl, rfl, rfl, Nat.le_refl _, fun _ _ _ => rfl, fun _ C _ _ h => ⟨C, h, rfl⟩, fun β b o n sz h => .inl ⟨β, o, n, sz, h⟩, fun _ _ => .inl rfl, rfl⟩

theorem Step.trans {ρ ρ1 ρ2 : Map} {w w1 w2 : World} (h : Step ρ w ρ1 w1) (k : Step ρ1 w1 ρ2 w2) : Step ρ w ρ2 w2 where
  os := k.os.trans h.os
  tape := k.tape.trans h.tape
  output := k.output.trans h.output
  size := Nat.le_trans h.size k.size
  kept b hb hn := (k.kept b (Nat.lt_of_lt_of_le hb h.size) (fun β o n sz e => by
    rcases h.img β b o n sz e with ⟨γ, o', n', sz', hg⟩ | hg
    · exact hn _ _ _ _ hg
    · omega)).trans (h.kept b hb hn)
  shape b C t fr hb := by
    obtain ⟨C', h1, h2⟩ := h.shape b C t fr hb
    obtain ⟨C'', h3, h4⟩ := k.shape b C' t fr h1
    exact ⟨C'', h3, h4.trans h2⟩
  img β b o n sz e := by
    rcases k.img β b o n sz e with ⟨γ, o', n', sz', hg⟩ | hg
    · exact h.img _ _ _ _ _ hg
    · exact .inr (Nat.le_trans h.size hg)
  ref β hu := by
    rcases h.ref β hu with e | e
    · rcases k.ref β (by rw [e]; exact hu) with e2 | e2
      · exact .inl (e2.trans e)
      · exact .inr e2
    · rcases k.ref β (by rw [e]; simp) with e2 | e2
      · exact .inr (e2.trans e)
      · exact .inr e2
  res := k.res.trans h.res

/-- What values look at. -/
structure StepF (ρ : Map) (w : World) (ρ' : Map) (w' : World) : Prop where
  free : ∀ b, Free ρ w b → Free ρ' w' b
  kept : ∀ b, Free ρ w b → w'.heap[b]? = w.heap[b]?
  shape : ∀ (b : Nat) C t fr, w.heap[b]? = some (.cells C t fr) → ∃ C', w'.heap[b]? = some (.cells C' t fr) ∧ C'.size = C.size
  ref : ∀ β, ρ β ≠ .unborn → ρ' β = ρ β ∨ ρ' β = .dead

theorem Step.toF {ρ ρ' : Map} {w w' : World} (h : Step ρ w ρ' w') : StepF ρ w ρ' w' := ⟨fun _ hb => hb.step h, h.free, h.shape, h.ref⟩

theorem Room.stepF {ρ ρ' : Map} {w w' : World} (h : StepF ρ w ρ' w') {b k : Nat} (hr : Room w b k) : Room w' b k := by
  obtain ⟨C, t, hb, hk⟩ := hr
  obtain ⟨C', hb', hs⟩ := h.shape _ _ _ _ hb
  exact ⟨C', t, hb', by omega⟩

theorem CRel.stepF {ρ ρ' : Map} {w w' : World} (h : StepF ρ w ρ' w') {K : Kd} {x : K.T} {cs : List Value} (hc : CRel w (Free ρ w) K x cs) : CRel w' (Free ρ' w') K x cs :=
  CRel.mono (fun _ hb => h.free _ hb) (fun b hb => h.kept b hb) hc

theorem CellsAt.stepF {ρ ρ' : Map} {w w' : World} (h : StepF ρ w ρ' w') {ad : Addr} {cs : List Value} (hf : Free ρ w ad.block) (hc : CellsAt w ad cs) : CellsAt w' ad cs := by
  intro j u hu
  rw [World.cell?_of_block (w := w)]
  · exact hc j u hu
  · rw [block_add]; exact h.kept _ hf

mutual
theorem VRel.stepF {ρ ρ' : Map} {w w' : World} (h : StepF ρ w ρ' w') : ∀ {s : SV} {v : Value}, VRel ρ w s v → VRel ρ' w' s v
  | .junk, _, _ => by simp [VRel]
  | .int .., _, hv => by simpa [VRel] using hv
  | .bool _, _, hv => by simpa [VRel] using hv
  | .nilp, _, hv => by simpa [VRel] using hv
  | .ptr β off, v, hv => by
    simp only [VRel] at hv ⊢
    rcases hr : ρ β with _ | _ | _ | ⟨b, o, n, sz⟩ <;> rw [hr] at hv <;> simp only at hv
    · rcases h.ref β (by rw [hr]; simp) with e | e <;> rw [e] <;> (first | exact hv | (simp only [hr]; exact hv))
    · subst hv
      rcases h.ref β (by rw [hr]; simp) with e | e <;> rw [e]
      · simp only [hr]
      · exact ⟨_, rfl⟩
  | .aptr β i j, v, hv => by
    simp only [VRel] at hv ⊢
    rcases hr : ρ β with _ | _ | _ | ⟨b, o, n, sz⟩ <;> rw [hr] at hv <;> simp only at hv
    · rcases h.ref β (by rw [hr]; simp) with e | e <;> rw [e] <;> (first | exact hv | (simp only [hr]; exact hv))
    · subst hv
      rcases h.ref β (by rw [hr]; simp) with e | e <;> rw [e]
      · simp only [hr]
      · exact ⟨_, rfl⟩
  | .eptr K x j, v, hv => by
    simp only [VRel] at hv ⊢
    obtain ⟨ad, es, rfl, h1, h2, h3⟩ := hv
    exact ⟨ad, es, rfl, h1.stepF h, h.free _ h2, h3.stepF h h2⟩
  | .nils, _, hv => by simpa [VRel] using hv
  | .own β, v, hv => by
    simp only [VRel] at hv ⊢
    rcases hr : ρ β with _ | _ | _ | ⟨b, o, n, sz⟩ <;> rw [hr] at hv <;> simp only at hv
    · rcases h.ref β (by rw [hr]; simp) with e | e <;> rw [e] <;> (first | exact hv | (simp only [hr]; exact hv))
    · rcases h.ref β (by rw [hr]; simp) with e | e <;> rw [e]
      · simp only [hr]; exact hv
      · obtain ⟨a, rfl⟩ := hv; exact ⟨_, _, _, rfl⟩
    · rcases h.ref β (by rw [hr]; simp) with e | e <;> rw [e]
      · simp only [hr]
        obtain ⟨c, h1, h2, h3⟩ := hv
        exact ⟨c, h1, h2, h3.stepF h⟩
      · obtain ⟨c, h1, rfl, h3⟩ := hv; exact ⟨_, _, _, rfl⟩
  | .sub β off len, v, hv => by
    simp only [VRel] at hv ⊢
    rcases hr : ρ β with _ | _ | _ | ⟨b, o, n, sz⟩ <;> rw [hr] at hv <;> simp only at hv
    · rcases h.ref β (by rw [hr]; simp) with e | e <;> rw [e] <;> (first | exact hv | (simp only [hr]; exact hv))
    · rcases h.ref β (by rw [hr]; simp) with e | e <;> rw [e]
      · simp only [hr]; exact hv
      · obtain ⟨_, a, rfl⟩ := hv; exact ⟨_, _, _, rfl⟩
    · rcases h.ref β (by rw [hr]; simp) with e | e <;> rw [e]
      · simp only [hr]
        obtain ⟨h0, a, c, h1, h2, h3⟩ := hv
        exact ⟨h0, a, c, h1, h2, h3.imp id fun h4 => ⟨h4.1, h4.2.stepF h⟩⟩
      · obtain ⟨h0, a, c, rfl, h2, h3⟩ := hv; exact ⟨_, _, _, rfl⟩
  | .es K xs, v, hv => by
    simp only [VRel] at hv ⊢
    exact hv.stepF h
  | .agg cs, v, hv => by
    simp only [VRel] at hv ⊢
    obtain ⟨vs, rfl, h1⟩ := hv
    exact ⟨vs, rfl, VRels.stepF h h1⟩
  | .arrv K xs, v, hv => by
    simp only [VRel] at hv ⊢
    obtain ⟨vs, rfl, h1, h2⟩ := hv
    refine ⟨vs, rfl, h1, fun i x hx => ?_⟩
    obtain ⟨es, h3, h4⟩ := h2 i x hx
    exact ⟨es, h3.stepF h, h4⟩
  | .tup cs, v, hv => by
    simp only [VRel] at hv ⊢
    obtain ⟨vs, rfl, h1⟩ := hv
    exact ⟨vs, rfl, VRels.stepF h h1⟩
  | .fn f first cap, v, hv => by
    simp only [VRel] at hv ⊢
    obtain ⟨vf, vc, rfl, h1, h2⟩ := hv
    exact ⟨vf, vc, rfl, VRels.stepF h h1, VRels.stepF h h2⟩
  | .nilf, _, hv => by simpa [VRel] using hv
  | .iface t x, v, hv => by
    simp only [VRel] at hv ⊢
    obtain ⟨u, rfl, h1⟩ := hv
    exact ⟨u, rfl, VRel.stepF h h1⟩
  | .nili, _, hv => by simpa [VRel] using hv
theorem VRels.stepF {ρ ρ' : Map} {w w' : World} (h : StepF ρ w ρ' w') : ∀ {cs : List SV} {vs : List Value}, VRels ρ w cs vs → VRels ρ' w' cs vs
  | [], _, hv => by simpa [VRels] using hv
  | c :: cs, vs, hv => by
    simp only [VRels] at hv ⊢
    obtain ⟨u, us, rfl, h1, h2⟩ := hv
    exact ⟨u, us, rfl, VRel.stepF h h1, VRels.stepF h h2⟩
end

theorem CRel.step {ρ ρ' : Map} {w w' : World} (h : Step ρ w ρ' w') {K : Kd} {x : K.T} {cs : List Value} (hc : CRel w (Free ρ w) K x cs) : CRel w' (Free ρ' w') K x cs := hc.stepF h.toF
theorem CellsAt.step {ρ ρ' : Map} {w w' : World} (h : Step ρ w ρ' w') {ad : Addr} {cs : List Value} (hf : Free ρ w ad.block) (hc : CellsAt w ad cs) : CellsAt w' ad cs := hc.stepF h.toF hf
theorem VRel.step {ρ ρ' : Map} {w w' : World} (h : Step ρ w ρ' w') {s : SV} {v : Value} (hv : VRel ρ w s v) : VRel ρ' w' s v := hv.stepF h.toF
theorem VRels.step {ρ ρ' : Map} {w w' : World} (h : Step ρ w ρ' w') {cs : List SV} {vs : List Value} (hv : VRels ρ w cs vs) : VRels ρ' w' cs vs := hv.stepF h.toF

theorem VRels.length {ρ : Map} {w : World} : ∀ {cs : List SV} {vs : List Value}, VRels ρ w cs vs → cs.length = vs.length
  | [], _, h => by simp only [VRels] at h; subst h; rfl
  | c :: cs, vs, h => by
    simp only [VRels] at h
    obtain ⟨u, us, rfl, _, h2⟩ := h
    simp [VRels.length h2]

theorem VRels.get {ρ : Map} {w : World} : ∀ {cs : List SV} {vs : List Value} (h : VRels ρ w cs vs) (i : Nat) (s : SV), cs[i]? = some s → ∃ u, vs[i]? = some u ∧ VRel ρ w s u
  | [], _, _, i, s, hs => by simp at hs
  | c :: cs, vs, h, i, s, hs => by
    simp only [VRels] at h
    obtain ⟨u, us, rfl, h1, h2⟩ := h
    cases i with
    | zero => simp at hs; subst hs; exact ⟨u, rfl, h1⟩
    | succ i => simp at hs; simpa using VRels.get h2 i s hs

theorem VRels.of {ρ : Map} {w : World} : ∀ {cs : List SV} {vs : List Value}, cs.length = vs.length → (∀ (i : Nat) (s : SV) (u : Value), cs[i]? = some s → vs[i]? = some u → VRel ρ w s u) → VRels ρ w cs vs
  | [], [], _, _ => by simp [VRels]
  | [], _ :: _, h, _ => by simp at h
  | _ :: _, [], h, _ => by simp at h
  | c :: cs, u :: us, h, hr => by
    simp only [VRels]
    exact ⟨u, us, rfl, hr 0 c u rfl rfl, VRels.of (by simpa using h) fun i s v h1 h2 => hr (i + 1) s v (by simpa using h1) (by simpa using h2)⟩

theorem VRels.append {ρ : Map} {w : World} : ∀ {cs ds : List SV} {vs us : List Value}, VRels ρ w cs vs → VRels ρ w ds us → VRels ρ w (cs ++ ds) (vs ++ us)
  | [], _, _, _, h, h2 => by simp only [VRels] at h; subst h; simpa using h2
  | c :: cs, ds, vs, us, h, h2 => by
    simp only [VRels] at h
    obtain ⟨u, us', rfl, h1, h3⟩ := h
    simp only [List.cons_append, VRels]
    exact ⟨u, _, rfl, h1, VRels.append h3 h2⟩

end Go.Proofs.Ytjnkefbdpcbkmaa.Den
