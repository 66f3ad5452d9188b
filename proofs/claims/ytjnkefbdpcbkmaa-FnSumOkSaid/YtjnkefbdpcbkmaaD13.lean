/- Regions whose order is drawn. -/
import Derived.Test.YtjnkefbdpcbkmaaD12
namespace Go.Proofs.Ytjnkefbdpcbkmaa.Den
open Go Go.RowKit
set_option linter.unusedVariables false
set_option linter.unusedSimpArgs false

/-- Operations that look at no block and make none. -/
def I.pure : I → Bool
  | .mv _ | .bse _ _ _ _ _ | .pick _ _ _ | .build _ _ | .nilck _ | .bin _ _ _ | .beq _ _ _ | .eqs _ _ _ _ | .not _ | .neg _ | .conv _ _ | .fa _ _ | .fld _ _ _ _ | .ixa _ _ _ _ _ | .ext _ _ | .mn _ _ | .mx _ _ | .mkif _ _ | .tas _ _ _ _ | .mkfn _ _ _ => true
  | _ => false

def I.isLdc : I → Bool
  | .ldc _ _ _ => true
  | _ => false
/-- Operations that may stand anywhere among calls that change memory. -/
def I.quiet (i : I) : Bool := i.pure || i.isLdc

/-- What the check looks at: where an operation writes, what it reads, whether it is pure, whether it changes nothing that was. -/
structure Inf where
  d : Option Nat
  rd : List Nat
  p : Bool
  q : Bool
  m : Bool
  c : Bool

def GI.inf (T : Tab) (gi : GI) : Inf := ⟨gi.d, gi.reads, gi.i.pure, gi.i.isLdc, gi.i.mono T, gi.i.isCall⟩

def hits (d : Option Nat) (l : List Nat) : Bool :=
  match d with
  | some n => l.any (Nat.beq n)
  | none => false

def sameD (d e : Option Nat) : Bool :=
  match d, e with
  | some n, some m => Nat.beq n m
  | _, _ => false

/-- Must 'y' stay behind 'x'? -/
def Inf.clash (x y : Inf) : Bool := hits x.d y.rd || (sameD x.d y.d || (hits y.d x.rd || ((!x.m && (!y.p && !(y.q && x.c))) || (!y.m && (!x.p && !(x.q && y.c))))))

def maskOf (tbl : List Nat) (o : Oper) : Nat :=
  o.after.toList.foldl (fun m e => cond (Region.binds .any e) (m ||| (tbl.getD e.on 0 ||| 1 <<< e.on)) m) 0

def ancTab (ops : List Oper) : List Nat := ops.foldl (fun t o => t ++ [maskOf t o]) []

def masksOK (tbl : List Nat) : List Oper → List Nat → Nat → Bool
  | [], [], _ => true
  | o :: r, m :: ms, j => Nat.beq (maskOf tbl o) m && (o.after.toList.all (fun e => !(Region.binds .any e) || Nat.blt e.on j) && masksOK tbl r ms (j + 1))
  | _, _, _ => false

/-- Every earlier one that clashes stands in the mask. -/
def backOK (x : Inf) (m : Nat) : List Inf → Nat → Bool
  | [], _ => true
  | y :: r, i => (!(y.clash x) || m.testBit i) && backOK x m r (i + 1)

def pairsOK (all : List Inf) : List Inf → List Nat → Nat → Bool
  | [], [], _ => true
  | x :: r, m :: ms, j => backOK x m (all.take j) 0 && pairsOK all r ms (j + 1)
  | _, _, _ => false

def orderOK (T : Tab) (ops : List Oper) (gs : List GI) : Bool :=
  masksOK (ancTab ops) ops (ancTab ops) 0 && pairsOK (gs.map (GI.inf T)) (gs.map (GI.inf T)) (ancTab ops) 0

section
variable {T : Tab}

theorem masksOK_spec {tbl : List Nat} : ∀ {l : List Oper} {ms : List Nat} {k : Nat}, masksOK tbl l ms k = true → ms.length = l.length ∧
    ∀ (j : Nat) (o : Oper), l[j]? = some o → ms[j]? = some (maskOf tbl o) ∧ ∀ e ∈ o.after, Region.binds .any e = true → e.on < k + j
  | [], [], k, _ => by simp
  | [], _ :: _, _, h => by simp [masksOK] at h
  | _ :: _, [], _, h => by simp [masksOK] at h
  | o :: r, m :: ms, k, h => by
    simp only [masksOK, Bool.and_eq_true, List.all_eq_true] at h
    obtain ⟨h1, h2, h3⟩ := h
    obtain ⟨ih1, ih2⟩ := masksOK_spec h3
    refine ⟨by simp [ih1], fun j o' hj => ?_⟩
    cases j with
    | zero =>
      simp at hj; subst hj
      refine ⟨by simp [Nat.eq_of_beq_eq_true h1], fun e he hb => ?_⟩
      have := h2 e (by simpa using he)
      rw [hb] at this
      simpa [Nat.blt_eq] using this
    | succ j =>
      obtain ⟨h4, h5⟩ := ih2 j o' (by simpa using hj)
      exact ⟨by simpa using h4, fun e he hb => by have := h5 e he hb; omega⟩

theorem mask_spec {tbl : List Nat} {o : Oper} {i : Nat} (h : (maskOf tbl o).testBit i = true) : ∃ e ∈ o.after, Region.binds .any e = true ∧ (e.on = i ∨ (tbl.getD e.on 0).testBit i = true) := by
  unfold maskOf at h
  have gen : ∀ (l : List Edge) (m : Nat), (l.foldl (fun m e => cond (Region.binds .any e) (m ||| (tbl.getD e.on 0 ||| 1 <<< e.on)) m) m).testBit i = true →
      m.testBit i = true ∨ ∃ e ∈ l, Region.binds .any e = true ∧ (e.on = i ∨ (tbl.getD e.on 0).testBit i = true) := by
    intro l
    induction l with
    | nil => intro m h; exact .inl h
    | cons e l ih =>
      intro m h
      simp only [List.foldl_cons] at h
      rcases ih _ h with h1 | ⟨e', h2, h3⟩
      · cases hb : Region.binds .any e with
        | false => rw [hb] at h1; exact .inl h1
        | true =>
          rw [hb] at h1
          simp only [cond, Nat.testBit_or, Bool.or_eq_true] at h1
          rcases h1 with h1 | h1 | h1
          · exact .inl h1
          · exact .inr ⟨e, by simp, hb, .inr h1⟩
          · rw [Nat.one_shiftLeft, Nat.testBit_two_pow] at h1
            exact .inr ⟨e, by simp, hb, .inl (by simpa using h1)⟩
      · exact .inr ⟨e', List.mem_cons_of_mem _ h2, h3⟩
  rcases gen _ _ h with h1 | ⟨e, h2, h3⟩
  · simp at h1
  · exact ⟨e, by simpa using h2, h3⟩

theorem backOK_spec {x : Inf} {m : Nat} : ∀ {l : List Inf} {k : Nat}, backOK x m l k = true → ∀ (i : Nat) (y : Inf), l[i]? = some y → y.clash x = true → m.testBit (k + i) = true
  | [], _, _, i, y, hy, _ => by simp at hy
  | z :: r, k, h, i, y, hy, hc => by
    simp only [backOK, Bool.and_eq_true] at h
    cases i with
    | zero =>
      simp at hy; subst hy
      have := h.1
      rw [hc] at this
      simpa using this
    | succ i =>
      have := backOK_spec h.2 i y (by simpa using hy) hc
      rw [← this]; congr 1; omega

theorem pairsOK_spec {all : List Inf} : ∀ {l : List Inf} {ms : List Nat} {k : Nat}, pairsOK all l ms k = true →
    ∀ (j : Nat) (x : Inf) (m : Nat), l[j]? = some x → ms[j]? = some m → ∀ (i : Nat) (y : Inf), i < k + j → all[i]? = some y → y.clash x = true → m.testBit i = true
  | [], _, _, _, j, x, m, hx, _, i, y, _, _, _ => by simp at hx
  | _ :: _, [], _, _, j, x, m, _, hm, i, y, _, _, _ => by simp at hm
  | z :: r, n :: ms, k, h, j, x, m, hx, hm, i, y, hi, hy, hc => by
    simp only [pairsOK, Bool.and_eq_true] at h
    cases j with
    | zero =>
      simp at hx hm; subst hx; subst hm
      have := backOK_spec h.1 i y (by rw [List.getElem?_take, if_pos (by omega)]; exact hy) hc
      simpa using this
    | succ j => exact pairsOK_spec h.2 j x m (by simpa using hx) (by simpa using hm) i y (by omega) hy hc

/-- The order check, as it is used: 'B i j': 'i' is always listed ahead of 'j'. -/
structure Ordered (T : Tab) (ops : Array Oper) (gs : List GI) (B : Nat → Nat → Prop) : Prop where
  anc : ∀ j o, ops[j]? = some o → ∀ i, B i j → ∃ e ∈ o.after, Region.binds .any e = true ∧ (e.on = i ∨ B i e.on)
  back : ∀ j o, ops[j]? = some o → ∀ e ∈ o.after, Region.binds .any e = true → e.on < j
  pair : ∀ i j x y, i < j → gs[i]? = some x → gs[j]? = some y → (x.inf T).clash (y.inf T) = true → B i j

theorem orderOK_spec {ops : Array Oper} {gs : List GI} (hlen : gs.length = ops.size) (h : orderOK T ops.toList gs = true) : ∃ B, Ordered T ops gs B := by
  unfold orderOK at h
  simp only [Bool.and_eq_true] at h
  obtain ⟨h1, h2⟩ := h
  obtain ⟨h3, h4⟩ := masksOK_spec h1
  refine ⟨fun i j => ((ancTab ops.toList).getD j 0).testBit i = true, fun j o hj i hb => ?_, fun j o hj e he hb => ?_, fun i j x y hij hx hy hc => ?_⟩
  · obtain ⟨h5, _⟩ := h4 j o (by rw [Array.getElem?_toList]; exact hj)
    have h6 : (ancTab ops.toList).getD j 0 = maskOf (ancTab ops.toList) o := by
      rw [List.getD_eq_getElem?_getD, h5]; rfl
    simp only [h6] at hb
    exact mask_spec hb
  · have := (h4 j o (by rw [Array.getElem?_toList]; exact hj)).2 e he hb
    omega
  · have hj : j < ops.size := by rw [← hlen]; exact (List.getElem?_eq_some_iff.1 hy).1
    have hm : (ancTab ops.toList)[j]? = some ((ancTab ops.toList).getD j 0) := by
      rw [List.getD_eq_getElem?_getD, List.getElem?_eq_getElem (by rw [h3]; simpa using hj)]; rfl
    exact pairsOK_spec h2 j (y.inf T) _ (by rw [List.getElem?_map, hy]; rfl) hm i (x.inf T) (by omega) (by rw [List.getElem?_map, hx]; rfl) hc
end

section
variable {R : Type} {T : Tab} {τ : Env} {H H' : Heap} {v : SV}

theorem pure_heap {i : I} (hp : i.pure = true) {H2 : Heap} (h : runI T i τ H (fun v H => some (v, H)) = some (v, H')) : H' = H ∧ runI T i τ H2 (fun v H => some (v, H)) = some (v, H2) := by
  cases i <;> simp only [I.pure, Bool.false_eq_true] at hp <;> simp only [runI] at h ⊢
  case bin => rw [binI_nat, Option.bind_eq_some_iff] at h; obtain ⟨u, h1, h2⟩ := h; simp at h2; obtain ⟨rfl, rfl⟩ := h2; rw [binI_nat, h1]; exact ⟨rfl, rfl⟩
  case ixa => rw [ixaI_nat, Option.bind_eq_some_iff] at h; obtain ⟨u, h1, h2⟩ := h; simp at h2; obtain ⟨rfl, rfl⟩ := h2; rw [ixaI_nat, h1]; exact ⟨rfl, rfl⟩
  case fld =>
    split at h
    · rename_i e
      rw [getC_nat, Option.bind_eq_some_iff] at h; obtain ⟨u, h1, h2⟩ := h; simp at h2; obtain ⟨rfl, rfl⟩ := h2; simp only [e]; rw [getC_nat, h1]; first | exact ⟨rfl, rfl⟩ | exact ⟨trivial, rfl⟩
    · simp at h
  case pick =>
    split at h
    · rename_i e
      split at h
      · rename_i e1 e2
        simp at h; obtain ⟨rfl, rfl⟩ := h
        simp [e, e1, e2]
      · rename_i x y e1
        rcases cond_some h with ⟨rfl, h⟩ | ⟨rfl, h⟩ <;> (simp at h; obtain ⟨rfl, rfl⟩ := h; exact ⟨rfl, rfl⟩)
    · simp at h
  case mn =>
    split at h
    · rename_i e1 e2
      simp only [Option.some.injEq, Prod.mk.injEq] at h; obtain ⟨rfl, rfl⟩ := h
      simp only [e1, e2]; first | exact ⟨rfl, rfl⟩ | exact ⟨trivial, rfl⟩ | exact ⟨trivial, trivial⟩
    · simp at h
  case mx =>
    split at h
    · rename_i e1 e2
      simp only [Option.some.injEq, Prod.mk.injEq] at h; obtain ⟨rfl, rfl⟩ := h
      simp only [e1, e2]; first | exact ⟨rfl, rfl⟩ | exact ⟨trivial, rfl⟩ | exact ⟨trivial, trivial⟩
    · simp at h
  all_goals (repeat' split at h)
  all_goals (first | (simp only [Option.some.injEq, Prod.mk.injEq] at h; obtain ⟨rfl, rfl⟩ := h; first | exact ⟨rfl, rfl⟩ | exact ⟨trivial, rfl⟩ | (simp_all; done)) | (cases h; done) | skip)
end
end Go.Proofs.Ytjnkefbdpcbkmaa.Den
