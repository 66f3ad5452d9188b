/- Part 5 of the texts behind the row. -/
import Derived.Test.YtmkekjmckdkcnaaAEN4
import Derived.Scope
set_option linter.unusedVariables false
set_option linter.unusedSimpArgs false
namespace Go.Proofs.Ytmkekjmckdkcnaa.Den
open Go Go.RowKit
def okC (T : Tab) : Code → C → Bool
  | .region _ ops d, .reg _ gs => !d || orderOK T ops.toList gs
  | .region _ ops d, .seq (.reg _ gs) (.cut _) => !d || orderOK T ops.toList gs
  | .region _ ops d, .seq (.cut _) (.reg _ gs) => !d || orderOK T ops.toList gs
  | .seq a b, .seq x y => okC T a x && okC T b y
  | .cond _ a b, .cnd _ x y => okC T a x && okC T b y
  | .block _ a, .blk _ x => okC T a x
  | .loop a, .loop _ x => okC T a x
  | .scope a, .seq .skip x => okC T a x
  | .label _, .skip => true
  | .skip, .skip => true
  | .exit _, .exit _ => true
  | .ret, .ret => true
  | _, .bad => true
  | _, _ => false
def Ex.toExit : Ex → Exit
  | .normal => .normal
  | .exit id => .exit id
  | .ret => .ret
theorem zaK {p : Nat → Prop} (h : ∃ m, p m) : ∃ m, p m ∧ ∀ k, p k → m ≤ k := by
  obtain ⟨m, hm⟩ := h
  induction m using Nat.strongRecOn with
  | ind m ih =>
    by_cases h2 : ∃ k, k < m ∧ p k
    · obtain ⟨k, h3, h4⟩ := h2
      exact ih k h3 h4
    · exact ⟨m, hm, fun k hk => Nat.le_of_not_lt fun h5 => h2 ⟨k, h5, hk⟩⟩
section
variable {P : Program} {T : Tab} {N n0 fuel : Nat} {frz : List Nat} {ann : List Norm} {cuts : List (Nat × Norm)}
theorem zg9 (hT : TabOK P T) (hmix : P.follows .mixedOrders = true) {id : Nat} {ops : Array Oper} {d : Bool} {gs : List GI} (hl : lightOps P frz N ops ops.toList = some gs) (ho : (!d || orderOK T ops.toList gs) = true)
    {R : Type} {τ : Env} {H : Heap} {ρ : Map} {a : Act} {w : World} {k : Env → Heap → Option R} {r : R} (hat : At P N ρ H w τ a) (he : (match (generalizing := false) d with | true => runRD T gs [] [] τ H k | false => runR T gs τ H k) = some r) {Q : Exit → Act → World → Prop}
    (hQ : ∀ τ' H' ρ' a' w', At P N ρ' H' w' τ' a' → Step ρ w ρ' w' → k τ' H' = some r → Q .normal a' w') : (Code.region id ops d).wp P Q a w := by
  obtain ⟨h1, h2⟩ := zeF hl
  cases d with
  | false =>
    exact wp_region_list (zl0 hT h1 h2 hat he hQ)
  | true =>
    refine wp_region_any hmix ?_
    have hat' : At P N ρ H w.drew τ a := ⟨⟨hat.t.1, hat.t.2.1, fun n => (hat.t.2.2 n).step Step.drew⟩, hat.h.drew, hat.u⟩
    exact zr7 (w := w.drew) hT (by rw [h1]; simp) (by simpa using ho) (fun j o gi h3 h4 => h2 j o gi (by rw [Array.getElem?_toList]; exact h3) h4) hat' he
      fun τ' H' ρ' a' w' h3 h4 h5 => hQ τ' H' ρ' a' w' h3 (Step.drew.trans h4) h5
theorem zy (hT : TabOK P T) (hmix : P.follows .mixedOrders = true) : ∀ (c : Code) {i : Nat} {ci : C} {j : Nat}, lightC P frz N ann cuts i c = some (ci, j) → okC T c ci = true →
    ∀ {R : Type} {τ : Env} {H : Heap} {ρ : Map} {a : Act} {w : World} {k : Ex → Env → Heap → Option R} {r : R}, At P N ρ H w τ a → run T n0 fuel ci τ H k = some r →
    ∀ {Q : Exit → Act → World → Prop}, (∀ ex τ' H' ρ' a' w', At P N ρ' H' w' τ' a' → StepN n0 ρ w ρ' w' → k ex τ' H' = some r → Q ex.toExit a' w') → c.wp P Q a w := by
  intro c
  induction c with
  | skip =>
    intro i ci j hl ho R τ H ρ a w k r hat he Q hQ
    simp only [lightC, Option.some.injEq, Prod.mk.injEq] at hl
    obtain ⟨rfl, _⟩ := hl
    simp only [run] at he
    exact wp_skip (hQ .normal τ H ρ a w hat StepN.refl he)
  | region id ops d =>
    intro i ci j hl ho R τ H ρ a w k r hat he Q hQ
    simp only [lightC] at hl
    split at hl
    · rename_i gs h1 _
      split at hl
      · split at hl
        · simp only [Option.some.injEq, Prod.mk.injEq] at hl
          obtain ⟨rfl, _⟩ := hl
          simp only [run] at he
          simp only [okC] at ho
          exact zg9 hT hmix h1 ho hat he fun τ' H' ρ' a' w' h3 h4 h5 => hQ .normal τ' H' ρ' a' w' h3 h4.toN h5
        · rename_i nm hnm
          simp only [Option.some.injEq, Prod.mk.injEq] at hl
          obtain ⟨rfl, _⟩ := hl
          simp only [run, normK] at he
          simp only [okC] at ho
          split at he
          · rename_i τ2 H2 h6
            obtain ⟨ρ2, h7, h8⟩ := zeI hat h6
            simp only [seqK] at he
            exact zg9 hT hmix h1 ho h7 he fun τ' H' ρ' a' w' h3 h4 h5 => hQ .normal τ' H' ρ' a' w' h3 (h8.trans h4.toN) h5
          · simp at he
      · rename_i nm hnm
        simp only [Option.some.injEq, Prod.mk.injEq] at hl
        obtain ⟨rfl, _⟩ := hl
        simp only [run] at he
        simp only [okC] at ho
        refine zg9 hT hmix h1 ho hat he fun τ' H' ρ' a' w' h3 h4 h5 => ?_
        simp only [seqK, run, normK] at h5
        split at h5
        · rename_i τ2 H2 h6
          obtain ⟨ρ2, h7, h8⟩ := zeI h3 h6
          exact hQ .normal τ2 H2 ρ2 a' w' h7 (h4.toN.trans h8) h5
        · simp at h5
    · simp only [Option.some.injEq, Prod.mk.injEq] at hl
      obtain ⟨rfl, _⟩ := hl
      simp [run] at he
  | seq x y ihx ihy =>
    intro i ci j hl ho R τ H ρ a w k r hat he Q hQ
    simp only [lightC] at hl
    split at hl
    · rename_i cx jx hx
      split at hl
      · rename_i cy jy hy
        simp only [Option.some.injEq, Prod.mk.injEq] at hl
        obtain ⟨rfl, _⟩ := hl
        simp only [okC, Bool.and_eq_true] at ho
        simp only [run] at he
        refine wp_seq (ihx hx ho.1 hat he fun ex τ' H' ρ' a' w' h1 h2 h3 => ?_)
        cases ex with
        | normal => exact ihy hy ho.2 h1 h3 fun ex τ2 H2 ρ2 a2 w2 h4 h5 h6 => hQ ex τ2 H2 ρ2 a2 w2 h4 (h2.trans h5) h6
        | exit id => exact hQ (.exit id) τ' H' ρ' a' w' h1 h2 h3
        | ret => exact hQ .ret τ' H' ρ' a' w' h1 h2 h3
      · simp at hl
    · simp at hl
  | cond s x y ihx ihy =>
    intro i ci j hl ho R τ H ρ a w k r hat he Q hQ
    simp only [lightC] at hl
    split at hl
    · rename_i sx cx jx hs hx
      split at hl
      · rename_i cy jy hy
        simp only [Option.some.injEq, Prod.mk.injEq] at hl
        obtain ⟨rfl, _⟩ := hl
        simp only [okC, Bool.and_eq_true] at ho
        simp only [run] at he
        split at he
        · rename_i b hb
          have hv := opL_rel hat.t hs
          rw [hb] at hv
          simp only [VRel] at hv
          refine wp_cond hv ?_
          rcases zc he with ⟨rfl, he⟩ | ⟨rfl, he⟩
          · exact ihx hx ho.1 hat he hQ
          · exact ihy hy ho.2 hat he hQ
        · simp at he
      · simp at hl
    · simp at hl
  | block id x ih =>
    intro i ci j hl ho R τ H ρ a w k r hat he Q hQ
    simp only [lightC] at hl
    split at hl
    · rename_i cx jx hx
      simp only [Option.some.injEq, Prod.mk.injEq] at hl
      obtain ⟨rfl, _⟩ := hl
      simp only [okC] at ho
      simp only [run] at he
      refine wp_block (ih hx ho hat he fun ex τ' H' ρ' a' w' h1 h2 h3 => ?_)
      cases ex with
      | normal => exact hQ .normal τ' H' ρ' a' w' h1 h2 h3
      | ret => exact hQ .ret τ' H' ρ' a' w' h1 h2 h3
      | exit id' =>
        simp only [Ex.toExit, Exit.inBlock]
        simp only [blkK] at h3
        rcases zc h3 with ⟨h4, h5⟩ | ⟨h4, h5⟩
        · rw [if_pos (Nat.eq_of_beq_eq_true h4)]; exact hQ .normal τ' H' ρ' a' w' h1 h2 h5
        · rw [if_neg (fun e => by rw [e] at h4; simp at h4)]; exact hQ (.exit id') τ' H' ρ' a' w' h1 h2 h5
    · simp at hl
  | loop x ih =>
    intro i ci j hl ho R τ H ρ a w k r hat he Q hQ
    simp only [lightC] at hl
    split at hl
    · rename_i nm cx jx hnm hx
      simp only [Option.some.injEq, Prod.mk.injEq] at hl
      obtain ⟨rfl, _⟩ := hl
      simp only [okC] at ho
      simp only [run, normK] at he
      split at he
      · rename_i τ1 H1 hn
        obtain ⟨ρ1, hat1, hst1⟩ := zeI hat hn
        let J : Nat → Act → World → Prop := fun m a' w' => ∃ τ' H' ρ', At P N ρ' H' w' τ' a' ∧ StepN n0 ρ w ρ' w' ∧ loopN (run T n0 fuel cx) n0 nm m τ' H' k = some r
        have hJ : ∃ m, J m a w := ⟨fuel, τ1, H1, ρ1, hat1, hst1, he⟩
        classical
        refine wp_loop (fun a' w' => ∃ m, J m a' w') (fun a' w' => if h : ∃ m, J m a' w' then Classical.choose (zaK h) else 0) hJ fun a1 w1 hI => ?_
        have hm := (Classical.choose_spec (zaK hI)).1
        have hμ : (if h : ∃ m, J m a1 w1 then Classical.choose (zaK h) else 0) = Classical.choose (zaK hI) := dif_pos hI
        rw [hμ]
        generalize Classical.choose (zaK hI) = m at hm ⊢
        obtain ⟨τ2, H2, ρ2, hat2, hst2, hl2⟩ := hm
        cases m with
        | zero => simp [loopN] at hl2
        | succ m =>
          simp only [loopN] at hl2
          refine ih hx ho hat2 hl2 fun ex τ3 H3 ρ3 a3 w3 h1 h2 h3 => ?_
          cases ex with
          | exit id => exact hQ (.exit id) τ3 H3 ρ3 a3 w3 h1 (hst2.trans h2) h3
          | ret => exact hQ .ret τ3 H3 ρ3 a3 w3 h1 (hst2.trans h2) h3
          | normal =>
            simp only [loopK, normK] at h3
            split at h3
            · rename_i τ4 H4 hn4
              obtain ⟨ρ4, hat4, hst4⟩ := zeI h1 hn4
              have hJ4 : J m a3 w3 := ⟨τ4, H4, ρ4, hat4, (hst2.trans h2).trans hst4, h3⟩
              refine ⟨⟨m, hJ4⟩, ?_⟩
              have hI4 : ∃ m, J m a3 w3 := ⟨m, hJ4⟩
              rw [dif_pos hI4]
              have := (Classical.choose_spec (zaK hI4)).2 m hJ4
              omega
            · simp at h3
      · simp at he
    · simp at hl
  | scope x ih =>
    intro i ci j hl ho R τ H ρ a w k r hat he Q hQ
    simp only [lightC] at hl
    split at hl
    · rename_i cx jx hx
      simp only [Option.some.injEq, Prod.mk.injEq] at hl
      obtain ⟨rfl, _⟩ := hl
      simp only [okC] at ho
      simp only [run, seqK] at he
      refine wp_scope_straight (ih hx ho hat he fun ex τ' H' ρ' a' w' h1 h2 h3 => ?_)
      have hq := hQ ex τ' H' ρ' a' w' h1 h2 h3
      cases ex <;> exact hq
    · simp at hl
  | label l =>
    intro i ci j hl ho R τ H ρ a w k r hat he Q hQ
    simp only [lightC, Option.some.injEq, Prod.mk.injEq] at hl
    obtain ⟨rfl, _⟩ := hl
    simp only [run] at he
    exact wp_label (hQ .normal τ H ρ a w hat StepN.refl he)
  | exit id =>
    intro i ci j hl ho R τ H ρ a w k r hat he Q hQ
    simp only [lightC, Option.some.injEq, Prod.mk.injEq] at hl
    obtain ⟨rfl, _⟩ := hl
    simp only [run] at he
    exact wp_exit (hQ (.exit id) τ H ρ a w hat StepN.refl he)
  | ret =>
    intro i ci j hl ho R τ H ρ a w k r hat he Q hQ
    simp only [lightC, Option.some.injEq, Prod.mk.injEq] at hl
    obtain ⟨rfl, _⟩ := hl
    simp only [run] at he
    exact wp_ret (hQ .ret τ H ρ a w hat StepN.refl he)
  | _ =>
    intro i ci j hl ho R τ H ρ a w k r hat he Q hQ
    simp only [lightC, Option.some.injEq, Prod.mk.injEq] at hl
    obtain ⟨rfl, _⟩ := hl
    simp [run] at he
end
end Go.Proofs.Ytmkekjmckdkcnaa.Den
namespace Go.Proofs.Ytmkekjmckdkcnaa.Den
open Go Go.RowKit
structure Pm where
  cs : List (Kd × Bool)
  ag : Bool
@[reducible] def CsT : List (Kd × Bool) → Type
  | [] => Unit
  | p :: r => p.1.T × CsT r
@[reducible] def PsT : List Pm → Type
  | [] => Unit
  | p :: r => CsT p.cs × PsT r
def viewCs (H : Heap) : (cs : List (Kd × Bool)) → List SV → Option (CsT cs)
  | [], [] => some ()
  | (K, _) :: r, s :: ss => match decH true H K [s], viewCs H r ss with
    | some x, some y => some (x, y)
    | _, _ => none
  | _, _ => none
def cellsP (ag : Bool) (s : SV) : Option (List SV) :=
  match ag with
  | true => match s with
    | .agg cs => some cs
    | _ => none
  | false => some [s]
def viewPs (H : Heap) : (ps : List Pm) → List SV → Option (PsT ps)
  | [], [] => some ()
  | p :: r, s :: ss => match cellsP p.ag s with
    | some cs => match viewCs H p.cs cs, viewPs H r ss with
      | some x, some y => some (x, y)
      | _, _ => none
    | none => none
  | _, _ => none
def encS : (K : Kd) → K.T → SV
  | .int k, n => .int k n
  | .bool, b => .bool b
  | .list e, xs => .es e xs
  | _, _ => .junk
def svCs : (cs : List (Kd × Bool)) → CsT cs → List SV
  | [], _ => []
  | (K, _) :: r, x => encS K x.1 :: svCs r x.2
def svPs : (ps : List Pm) → PsT ps → List SV
  | [], _ => []
  | p :: r, x => (match p.ag with
    | true => .agg (svCs p.cs x.1)
    | false => (svCs p.cs x.1).headD .junk) :: svPs r x.2
def putCs : (cs : List (Kd × Bool)) → CsT cs → Heap → List SV × Heap
  | [], _, H => ([], H)
  | (.list e, true) :: r, x, H => ((.own H.length) :: (putCs r x.2 (H ++ [.arr e x.1 0])).1, (putCs r x.2 (H ++ [.arr e x.1 0])).2)
  | (K, _) :: r, x, H => (encS K x.1 :: (putCs r x.2 H).1, (putCs r x.2 H).2)
def putPs : (ps : List Pm) → PsT ps → Heap → List SV × Heap
  | [], _, H => ([], H)
  | p :: r, x, H => ((match p.ag with
    | true => .agg (putCs p.cs x.1 H).1
    | false => (putCs p.cs x.1 H).1.headD .junk) :: (putPs r x.2 (putCs p.cs x.1 H).2).1, (putPs r x.2 (putCs p.cs x.1 H).2).2)
def resV : List SV → SV
  | [s] => s
  | ss => .tup ss
structure TF where
  ps : List Pm
  rs : List Pm
  flat : Bool
  fn : PsT ps → Option (PsT rs)
def TF.te (tf : TF) : TE where
  X := PsT tf.ps
  Y := PsT tf.rs
  mono := true
  view args H := cond tf.flat (viewPs H tf.ps args) (viewPs [] tf.ps args)
  fn := tf.fn
  put _ y _ H := some (resV (putPs tf.rs y H).1, (putPs tf.rs y H).2)
def CsRel (w : World) (B : Nat → Prop) : (cs : List (Kd × Bool)) → CsT cs → List Value → Prop
  | [], _, us => us = []
  | (K, _) :: r, x, us => ∃ u us', us = u :: us' ∧ CRel w B K x.1 [u] ∧ CsRel w B r x.2 us'
def PsRel (w : World) (B : Nat → Prop) : (ps : List Pm) → PsT ps → List Value → Prop
  | [], _, vs => vs = []
  | p :: r, x, vs => ∃ v vs', vs = v :: vs' ∧ (match p.ag with
    | true => ∃ us : Array Value, v = .agg us ∧ CsRel w B p.cs x.1 us.toList
    | false => CsRel w B p.cs x.1 [v]) ∧ PsRel w B r x.2 vs'
def CsOut (w : World) (B : Nat → Prop) : (cs : List (Kd × Bool)) → CsT cs → List Value → List Nat → Prop
  | [], _, us, tk => us = [] ∧ tk = []
  | (.list e, true) :: r, x, us, tk => ∃ u us' t1 t2, us = u :: us' ∧ tk = t1 ++ t2 ∧ OwnAt w B e x.1 u t1 ∧ CsOut w B r x.2 us' t2
  | (K, _) :: r, x, us, tk => ∃ u us', us = u :: us' ∧ CRel w B K x.1 [u] ∧ CsOut w B r x.2 us' tk
def PsOut (w : World) (B : Nat → Prop) : (ps : List Pm) → PsT ps → List Value → List Nat → Prop
  | [], _, vs, tk => vs = [] ∧ tk = []
  | p :: r, x, vs, tk => ∃ v vs' t1 t2, vs = v :: vs' ∧ tk = t1 ++ t2 ∧ (match p.ag with
    | true => ∃ us : Array Value, v = .agg us ∧ CsOut w B p.cs x.1 us.toList t1
    | false => CsOut w B p.cs x.1 [v] t1) ∧ PsOut w B r x.2 vs' t2
def resU (vs : Array Value) : Value := if h : vs.size = 1 then vs[0] else .tuple vs
def FnSpec (P : Program) (f : FuncId) (tf : TF) : Prop :=
  ∀ (w : World) (res : Nat → Prop) (vs : List Value) (x : PsT tf.ps) (y : PsT tf.rs), (∀ b, res b → b < w.heap.size) → PsRel w (fun b => b < w.heap.size ∧ ¬ res b) tf.ps x vs → tf.fn x = some y →
    Calls P f vs.toArray w fun e w' => ∃ us tk, e = .returned (resU us) ∧ w'.os = w.os ∧ w'.tape = w.tape ∧ w'.output = w.output ∧ w.heap.size ≤ w'.heap.size ∧ (∀ b, b < w.heap.size → w'.heap[b]? = w.heap[b]?) ∧
      tk.Nodup ∧ (∀ b ∈ tk, w.heap.size ≤ b ∧ b < w'.heap.size) ∧ PsOut w' (fun b => b < w'.heap.size ∧ ¬ res b ∧ b ∉ tk) tf.rs y us.toList tk
def cellOK : Kd × Bool → Bool
  | (.list e, f) => f && e.noList
  | (K, _) => K.noList
def TF.ok (tf : TF) : Bool := !tf.flat || tf.rs.all fun p => p.cs.all cellOK
section
variable {w : World} {ρ : Map} {H : Heap}
theorem CsRel.of_view {B : Nat → Prop} (hd : ∀ {K : Kd} {s : SV} {x : K.T} {u : Value}, decH true H K [s] = some x → VRel ρ w s u → CRel w B K x [u]) : ∀ {cs : List (Kd × Bool)} {ss : List SV} {x : CsT cs} {us : List Value},
    viewCs H cs ss = some x → VRels ρ w ss us → CsRel w B cs x us
  | [], [], x, us, h, hv => by simp only [VRels] at hv; exact hv
  | [], _ :: _, x, us, h, hv => by simp [viewCs] at h
  | (K, f) :: r, [], x, us, h, hv => by simp [viewCs] at h
  | (K, f) :: r, s :: ss, x, us, h, hv => by
    simp only [viewCs] at h
    split at h
    · rename_i y z h1 h2
      simp only [Option.some.injEq] at h; subst h
      simp only [VRels] at hv
      obtain ⟨u, us', rfl, h3, h4⟩ := hv
      exact ⟨u, us', rfl, hd h1 h3, CsRel.of_view hd h2 h4⟩
    · simp at h
theorem PsRel.of_view {B : Nat → Prop} (hd : ∀ {K : Kd} {s : SV} {x : K.T} {u : Value}, decH true H K [s] = some x → VRel ρ w s u → CRel w B K x [u]) : ∀ {ps : List Pm} {ss : List SV} {x : PsT ps} {vs : List Value},
    viewPs H ps ss = some x → VRels ρ w ss vs → PsRel w B ps x vs
  | [], [], x, vs, h, hv => by simp only [VRels] at hv; exact hv
  | [], _ :: _, x, vs, h, hv => by simp [viewPs] at h
  | p :: r, [], x, vs, h, hv => by simp [viewPs] at h
  | p :: r, s :: ss, x, vs, h, hv => by
    simp only [viewPs] at h
    split at h
    · rename_i cs hc
      split at h
      · rename_i y z h1 h2
        simp only [Option.some.injEq] at h; subst h
        simp only [VRels] at hv
        obtain ⟨v, vs', rfl, h3, h4⟩ := hv
        refine ⟨v, vs', rfl, ?_, PsRel.of_view hd h2 h4⟩
        cases hag : p.ag with
        | true =>
          rw [hag] at hc
          simp only [cellsP] at hc
          split at hc
          · simp only [Option.some.injEq] at hc; subst hc
            simp only [VRel] at h3
            obtain ⟨us, rfl, h5⟩ := h3
            exact ⟨us, rfl, CsRel.of_view hd h1 h5⟩
          · simp at hc
        | false =>
          rw [hag] at hc
          simp only [cellsP, Option.some.injEq] at hc; subst hc
          exact CsRel.of_view hd h1 (VRels.single h3)
      · simp at h
    · simp at h
theorem z5 {B : Nat → Prop} (hB : ∀ b, B b → Free ρ w b) : ∀ {K : Kd} {x : K.T} {u : Value}, CRel w B K x [u] → VRel ρ w (encS K x) u
  | .int k, n, u, h => by simp only [CRel] at h; simp at h; subst h; simp [encS, VRel]
  | .bool, b, u, h => by simp only [CRel] at h; simp at h; subst h; simp [encS, VRel]
  | .unit, _, u, h => by simp only [CRel] at h; simp at h
  | .pair a b, _, u, h => by simp [encS, VRel]
  | .list e, xs, u, h => by simp only [encS, VRel]; exact CRel.mono hB (fun _ _ => rfl) h
theorem zha {B : Nat → Prop} (hB : ∀ b, B b → Free ρ w b) : ∀ {cs : List (Kd × Bool)} {x : CsT cs} {us : List Value}, CsRel w B cs x us → VRels ρ w (svCs cs x) us
  | [], x, us, h => by simp only [CsRel] at h; subst h; simp [svCs, VRels]
  | (K, f) :: r, x, us, h => by
    simp only [CsRel] at h
    obtain ⟨u, us', rfl, h1, h2⟩ := h
    simp only [svCs, VRels]
    exact ⟨u, us', rfl, z5 hB h1, zha hB h2⟩
theorem zhb {B : Nat → Prop} (hB : ∀ b, B b → Free ρ w b) : ∀ {ps : List Pm} {x : PsT ps} {vs : List Value}, PsRel w B ps x vs → VRels ρ w (svPs ps x) vs
  | [], x, vs, h => by simp only [PsRel] at h; subst h; simp [svPs, VRels]
  | p :: r, x, vs, h => by
    simp only [PsRel] at h
    obtain ⟨v, vs', rfl, h1, h2⟩ := h
    simp only [svPs, VRels]
    refine ⟨v, vs', rfl, ?_, zhb hB h2⟩
    cases hag : p.ag with
    | true =>
      rw [hag] at h1
      obtain ⟨us, rfl, h3⟩ := h1
      simp only [VRel]
      exact ⟨us, rfl, zha hB h3⟩
    | false =>
      rw [hag] at h1
      have h3 := zha hB h1
      cases hs : svCs p.cs x.1 with
      | nil => rw [hs] at h3; simp [VRels] at h3
      | cons s l =>
        rw [hs] at h3
        simp only [VRels] at h3
        obtain ⟨u, us', e, h4, _⟩ := h3
        simp at e
        simp only [List.headD_cons, e.1]; exact h4
theorem zc4 {B B' : Nat → Prop} : ∀ {K : Kd} {x : K.T} {us : List Value}, K.noList = true → CRel w B K x us → CRel w B' K x us
  | .int _, _, _, _, h => h
  | .bool, _, _, _, h => h
  | .unit, _, _, _, h => h
  | .pair a b, x, us, hn, h => by
    simp only [Kd.noList, Bool.and_eq_true] at hn
    simp only [CRel] at h ⊢
    obtain ⟨c1, c2, e, h1, h2⟩ := h
    exact ⟨c1, c2, e, zc4 hn.1 h1, zc4 hn.2 h2⟩
  | .list _, _, _, hn, _ => by simp [Kd.noList] at hn
theorem OwnAt.mono {B B' : Nat → Prop} (hB : ∀ b, B b → B' b) {e : Kd} {xs : List e.T} {u : Value} {tk : List Nat} (h : OwnAt w B e xs u tk) : OwnAt w B' e xs u tk := by
  rcases h with h | ⟨b, o, c, C, tC, h1, h2, h3, h4, h5, h6⟩
  · exact .inl h
  · exact .inr ⟨b, o, c, C, tC, h1, h2, h3, h4, h5, fun i x hx => by
      obtain ⟨es, h7, h8⟩ := h6 i x hx
      exact ⟨es, CRel.mono hB (fun _ _ => rfl) h7, h8⟩⟩
theorem OwnAt.noList {B B' : Nat → Prop} {e : Kd} {xs : List e.T} {u : Value} {tk : List Nat} (hn : e.noList = true) (h : OwnAt w B e xs u tk) : OwnAt w B' e xs u tk := by
  rcases h with h | ⟨b, o, c, C, tC, h1, h2, h3, h4, h5, h6⟩
  · exact .inl h
  · exact .inr ⟨b, o, c, C, tC, h1, h2, h3, h4, h5, fun i x hx => by
      obtain ⟨es, h7, h8⟩ := h6 i x hx
      exact ⟨es, zc4 hn h7, h8⟩⟩
theorem CsOut.mono {B B' : Nat → Prop} : ∀ {cs : List (Kd × Bool)} {x : CsT cs} {us : List Value} {tk : List Nat}, ((∀ b, B b → B' b) ∨ cs.all cellOK = true) → CsOut w B cs x us tk → CsOut w B' cs x us tk
  | [], x, us, tk, hB, h => h
  | (.list e, true) :: r, x, us, tk, hB, h => by
    simp only [CsOut] at h ⊢
    obtain ⟨u, us', t1, t2, h1, h2, h3, h4⟩ := h
    rcases hB with hB | hB
    · exact ⟨u, us', t1, t2, h1, h2, h3.mono hB, CsOut.mono (.inl hB) h4⟩
    · simp only [List.all_cons, Bool.and_eq_true] at hB
      exact ⟨u, us', t1, t2, h1, h2, h3.noList (by simpa [cellOK] using hB.1), CsOut.mono (.inr hB.2) h4⟩
  | (.list e, false) :: r, x, us, tk, hB, h => by
    simp only [CsOut] at h ⊢
    obtain ⟨u, us', h1, h3, h4⟩ := h
    rcases hB with hB | hB
    · exact ⟨u, us', h1, CRel.mono hB (fun _ _ => rfl) h3, CsOut.mono (.inl hB) h4⟩
    · simp [cellOK] at hB
  | (.int k, f) :: r, x, us, tk, hB, h => by
    simp only [CsOut] at h ⊢
    obtain ⟨u, us', h1, h3, h4⟩ := h
    exact ⟨u, us', h1, h3, CsOut.mono (hB.imp id fun h => by simp only [List.all_cons, Bool.and_eq_true] at h; exact h.2) h4⟩
  | (.bool, f) :: r, x, us, tk, hB, h => by
    simp only [CsOut] at h ⊢
    obtain ⟨u, us', h1, h3, h4⟩ := h
    exact ⟨u, us', h1, h3, CsOut.mono (hB.imp id fun h => by simp only [List.all_cons, Bool.and_eq_true] at h; exact h.2) h4⟩
  | (.unit, f) :: r, x, us, tk, hB, h => by
    simp only [CsOut] at h ⊢
    obtain ⟨u, us', h1, h3, h4⟩ := h
    exact ⟨u, us', h1, h3, CsOut.mono (hB.imp id fun h => by simp only [List.all_cons, Bool.and_eq_true] at h; exact h.2) h4⟩
  | (.pair a b, f) :: r, x, us, tk, hB, h => by
    simp only [CsOut] at h ⊢
    obtain ⟨u, us', h1, h3, h4⟩ := h
    refine ⟨u, us', h1, ?_, CsOut.mono (hB.imp id fun h => by simp only [List.all_cons, Bool.and_eq_true] at h; exact h.2) h4⟩
    rcases hB with hB | hB
    · exact CRel.mono hB (fun _ _ => rfl) h3
    · simp only [List.all_cons, Bool.and_eq_true] at hB
      exact zc4 (by simpa [cellOK] using hB.1) h3
theorem PsOut.mono {B B' : Nat → Prop} : ∀ {ps : List Pm} {x : PsT ps} {vs : List Value} {tk : List Nat}, ((∀ b, B b → B' b) ∨ ps.all (fun p => p.cs.all cellOK) = true) → PsOut w B ps x vs tk → PsOut w B' ps x vs tk
  | [], x, vs, tk, hB, h => h
  | p :: r, x, vs, tk, hB, h => by
    simp only [PsOut] at h ⊢
    obtain ⟨v, vs', t1, t2, h1, h2, h3, h4⟩ := h
    have hB1 : (∀ b, B b → B' b) ∨ p.cs.all cellOK = true := hB.imp id fun h => by simp only [List.all_cons, Bool.and_eq_true] at h; exact h.1
    have hB2 : (∀ b, B b → B' b) ∨ r.all (fun p => p.cs.all cellOK) = true := hB.imp id fun h => by simp only [List.all_cons, Bool.and_eq_true] at h; exact h.2
    refine ⟨v, vs', t1, t2, h1, h2, ?_, PsOut.mono hB2 h4⟩
    cases hag : p.ag with
    | true =>
      rw [hag] at h3
      obtain ⟨us, h5, h6⟩ := h3
      exact ⟨us, h5, CsOut.mono hB1 h6⟩
    | false =>
      rw [hag] at h3
      exact CsOut.mono hB1 h3
def EntOK (w : World) (B : Nat → Prop) (x : Blk) (m : Img) (t : List Nat) : Prop :=
  (m = .none_ ∧ t = [] ∧ ∃ e, x = .arr e [] 0) ∨
  ∃ b o n sz e xs C tC, m = .at b o n sz ∧ t = [b] ∧ x = .arr e xs 0 ∧ xs.length = n ∧ e.sz = sz ∧ w.heap[b]? = some (.cells C tC (0, 0)) ∧ o + n * sz ≤ C.size ∧ RowRel w B e xs C o
def Ent (w : World) (B : Nat → Prop) : List Blk → List Img → List Nat → Prop
  | [], [], tk => tk = []
  | x :: bs, m :: ms, tk => ∃ t1 t2, tk = t1 ++ t2 ∧ EntOK w B x m t1 ∧ Ent w B bs ms t2
  | _, _, _ => False
theorem Ent.append {B : Nat → Prop} : ∀ {bs bs' : List Blk} {ms ms' : List Img} {tk tk' : List Nat}, Ent w B bs ms tk → Ent w B bs' ms' tk' → Ent w B (bs ++ bs') (ms ++ ms') (tk ++ tk')
  | [], _, [], _, tk, _, h1, h2 => by simp only [Ent] at h1; subst h1; simpa using h2
  | [], _, _ :: _, _, tk, _, h1, h2 => by simp [Ent] at h1
  | _ :: _, _, [], _, tk, _, h1, h2 => by simp [Ent] at h1
  | x :: bs, bs', m :: ms, ms', tk, tk', h1, h2 => by
    simp only [Ent] at h1
    obtain ⟨t1, t2, rfl, h3, h4⟩ := h1
    simp only [List.cons_append, Ent]
    exact ⟨t1, t2 ++ tk', by simp, h3, Ent.append h4 h2⟩
theorem Ent.length {B : Nat → Prop} : ∀ {bs : List Blk} {ms : List Img} {tk : List Nat}, Ent w B bs ms tk → ms.length = bs.length
  | [], [], _, _ => rfl
  | [], _ :: _, _, h => by simp [Ent] at h
  | _ :: _, [], _, h => by simp [Ent] at h
  | x :: bs, m :: ms, tk, h => by
    simp only [Ent] at h
    obtain ⟨t1, t2, _, _, h4⟩ := h
    simp [Ent.length h4]
theorem Ent.get {B : Nat → Prop} : ∀ {bs : List Blk} {ms : List Img} {tk : List Nat}, Ent w B bs ms tk → ∀ (i : Nat) (m : Img), ms[i]? = some m → ∃ x t, bs[i]? = some x ∧ EntOK w B x m t ∧ ∀ b ∈ t, b ∈ tk
  | [], [], _, _, i, m, hm => by simp at hm
  | [], _ :: _, _, h, _, _, _ => by simp [Ent] at h
  | _ :: _, [], _, h, _, _, _ => by simp [Ent] at h
  | x :: bs, m0 :: ms, tk, h, i, m, hm => by
    simp only [Ent] at h
    obtain ⟨t1, t2, rfl, h3, h4⟩ := h
    cases i with
    | zero => simp at hm; subst hm; exact ⟨x, t1, rfl, h3, fun b hb => List.mem_append.2 (.inl hb)⟩
    | succ i =>
      obtain ⟨y, t, h5, h6, h7⟩ := Ent.get h4 i m (by simpa using hm)
      exact ⟨y, t, by simpa using h5, h6, fun b hb => List.mem_append.2 (.inr (h7 b hb))⟩
theorem EntOK.at_ {B : Nat → Prop} {x : Blk} {t : List Nat} {b o n sz : Nat} (h : EntOK w B x (.at b o n sz) t) : b ∈ t := by
  rcases h with ⟨h, _⟩ | ⟨b', _, _, _, _, _, _, _, h, rfl, _⟩
  · cases h
  · cases h; simp
theorem Ent.inj {B : Nat → Prop} : ∀ {bs : List Blk} {ms : List Img} {tk : List Nat}, Ent w B bs ms tk → tk.Nodup → ∀ (i j : Nat) {b o n sz o' n' sz' : Nat}, ms[i]? = some (.at b o n sz) → ms[j]? = some (.at b o' n' sz') → i = j
  | [], [], _, _, _, i, j, _, _, _, _, _, _, _, hm, _ => by simp at hm
  | [], _ :: _, _, h, _, _, _, _, _, _, _, _, _, _, _, _ => by simp [Ent] at h
  | _ :: _, [], _, h, _, _, _, _, _, _, _, _, _, _, _, _ => by simp [Ent] at h
  | x :: bs, m0 :: ms, tk, h, hnd, i, j, b, o, n, sz, o', n', sz', h1, h2 => by
    simp only [Ent] at h
    obtain ⟨t1, t2, rfl, h3, h4⟩ := h
    rw [List.nodup_append] at hnd
    obtain ⟨hd1, hd2, hd3⟩ := hnd
    have tail : ∀ {k b o n sz : Nat}, ms[k]? = some (Img.at b o n sz) → b ∈ t2 := fun hk => by
      obtain ⟨y, t, _, h6, h7⟩ := Ent.get h4 _ _ hk
      exact h7 _ h6.at_
    cases i with
    | zero =>
      simp at h1; subst h1
      cases j with
      | zero => rfl
      | succ j => exact absurd rfl (hd3 b h3.at_ b (tail (by simpa using h2)))
    | succ i =>
      cases j with
      | zero => simp at h2; subst h2; exact absurd rfl (hd3 b h3.at_ b (tail (by simpa using h1)))
      | succ j => rw [Ent.inj h4 hd2 i j (by simpa using h1) (by simpa using h2)]
def Agree (ρ : Map) (k : Nat) (ms : List Img) : Prop := ∀ (i : Nat) (m : Img), ms[i]? = some m → ρ (k + i) = m
theorem Agree.split {ρ : Map} {k : Nat} {ms ms' : List Img} (h : Agree ρ k (ms ++ ms')) : Agree ρ k ms ∧ Agree ρ (k + ms.length) ms' := by
  refine ⟨fun i m hm => h i m (by rw [List.getElem?_append_left (List.getElem?_eq_some_iff.1 hm).1]; exact hm), fun i m hm => ?_⟩
  have := h (ms.length + i) m (by rw [List.getElem?_append_right (by omega)]; simpa using hm)
  rw [← this]; congr 1; omega
theorem OwnAt.ent {B : Nat → Prop} {e : Kd} {xs : List e.T} {u : Value} {t : List Nat} (h : OwnAt w B e xs u t) : ∃ m, EntOK w B (.arr e xs 0) m t ∧ ∀ (ρ : Map) (β : Nat), ρ β = m → VRel ρ w (.own β) u := by
  rcases h with ⟨rfl, rfl, a, rfl⟩ | ⟨b, o, c, C, tC, rfl, rfl, h3, h4, h5, h6⟩
  · exact ⟨.none_, .inl ⟨rfl, rfl, e, rfl⟩, fun ρ β hb => by simp only [VRel, hb]; exact ⟨a, rfl⟩⟩
  · have hle : xs.length * e.sz ≤ c * e.sz := Nat.mul_le_mul_right _ h3
    exact ⟨.at b o xs.length e.sz, .inr ⟨b, o, _, _, e, xs, C, tC, rfl, rfl, rfl, rfl, rfl, h4, by omega, h6⟩, fun ρ β hb => by
      simp only [VRel, hb]; exact ⟨c, h3, rfl, C, tC, h4, h5⟩⟩
theorem zH {B : Nat → Prop} : ∀ {cs : List (Kd × Bool)} {x : CsT cs} {us : List Value} {tk : List Nat}, CsOut w B cs x us tk →
    ∃ bs ms, Ent w B bs ms tk ∧ ∀ H, (putCs cs x H).2 = H ++ bs ∧ ∀ ρ : Map, Agree ρ H.length ms → (∀ b, B b → Free ρ w b) → VRels ρ w (putCs cs x H).1 us
  | [], x, us, tk, h => by
    simp only [CsOut] at h
    obtain ⟨rfl, rfl⟩ := h
    exact ⟨[], [], rfl, fun H => ⟨by simp [putCs], fun ρ _ _ => by simp [putCs, VRels]⟩⟩
  | (.list e, true) :: r, x, us, tk, h => by
    simp only [CsOut] at h
    obtain ⟨u, us', t1, t2, rfl, rfl, h3, h4⟩ := h
    obtain ⟨m, h5, h6⟩ := h3.ent
    obtain ⟨bs, ms, h7, h8⟩ := zH h4
    refine ⟨.arr e x.1 0 :: bs, m :: ms, ⟨t1, t2, rfl, h5, h7⟩, fun H => ⟨by simp only [putCs]; rw [(h8 _).1]; simp, fun ρ ha hB => ?_⟩⟩
    simp only [putCs, VRels]
    refine ⟨u, us', rfl, h6 ρ _ (by simpa using ha 0 m rfl), (h8 _).2 ρ (fun i m' hm => ?_) hB⟩
    have := ha (i + 1) m' (by simpa using hm)
    rw [← this]; congr 1; simp; omega
  | (.list e, false) :: r, x, us, tk, h => by
    simp only [CsOut] at h
    obtain ⟨u, us', rfl, h3, h4⟩ := h
    obtain ⟨bs, ms, h7, h8⟩ := zH h4
    refine ⟨bs, ms, h7, fun H => ⟨by simp only [putCs]; exact (h8 H).1, fun ρ ha hB => ?_⟩⟩
    simp only [putCs, VRels]
    exact ⟨u, us', rfl, z5 hB h3, (h8 H).2 ρ ha hB⟩
  | (.int k, f) :: r, x, us, tk, h => by
    simp only [CsOut] at h
    obtain ⟨u, us', rfl, h3, h4⟩ := h
    obtain ⟨bs, ms, h7, h8⟩ := zH h4
    refine ⟨bs, ms, h7, fun H => ⟨by simp only [putCs]; exact (h8 H).1, fun ρ ha hB => ?_⟩⟩
    simp only [putCs, VRels]
    exact ⟨u, us', rfl, z5 hB h3, (h8 H).2 ρ ha hB⟩
  | (.bool, f) :: r, x, us, tk, h => by
    simp only [CsOut] at h
    obtain ⟨u, us', rfl, h3, h4⟩ := h
    obtain ⟨bs, ms, h7, h8⟩ := zH h4
    refine ⟨bs, ms, h7, fun H => ⟨by simp only [putCs]; exact (h8 H).1, fun ρ ha hB => ?_⟩⟩
    simp only [putCs, VRels]
    exact ⟨u, us', rfl, z5 hB h3, (h8 H).2 ρ ha hB⟩
  | (.unit, f) :: r, x, us, tk, h => by
    simp only [CsOut] at h
    obtain ⟨u, us', rfl, h3, h4⟩ := h
    obtain ⟨bs, ms, h7, h8⟩ := zH h4
    refine ⟨bs, ms, h7, fun H => ⟨by simp only [putCs]; exact (h8 H).1, fun ρ ha hB => ?_⟩⟩
    simp only [putCs, VRels]
    exact ⟨u, us', rfl, z5 hB h3, (h8 H).2 ρ ha hB⟩
  | (.pair a b, f) :: r, x, us, tk, h => by
    simp only [CsOut] at h
    obtain ⟨u, us', rfl, h3, h4⟩ := h
    obtain ⟨bs, ms, h7, h8⟩ := zH h4
    refine ⟨bs, ms, h7, fun H => ⟨by simp only [putCs]; exact (h8 H).1, fun ρ ha hB => ?_⟩⟩
    simp only [putCs, VRels]
    exact ⟨u, us', rfl, z5 hB h3, (h8 H).2 ρ ha hB⟩
theorem zme {B : Nat → Prop} : ∀ {ps : List Pm} {x : PsT ps} {vs : List Value} {tk : List Nat}, PsOut w B ps x vs tk →
    ∃ bs ms, Ent w B bs ms tk ∧ ∀ H, (putPs ps x H).2 = H ++ bs ∧ ∀ ρ : Map, Agree ρ H.length ms → (∀ b, B b → Free ρ w b) → VRels ρ w (putPs ps x H).1 vs
  | [], x, vs, tk, h => by
    simp only [PsOut] at h
    obtain ⟨rfl, rfl⟩ := h
    exact ⟨[], [], rfl, fun H => ⟨by simp [putPs], fun ρ _ _ => by simp [putPs, VRels]⟩⟩
  | p :: r, x, vs, tk, h => by
    simp only [PsOut] at h
    obtain ⟨v, vs', t1, t2, rfl, rfl, h3, h4⟩ := h
    have key : ∃ bs ms, Ent w B bs ms t1 ∧ ∀ H, (putCs p.cs x.1 H).2 = H ++ bs ∧ ∀ ρ : Map, Agree ρ H.length ms → (∀ b, B b → Free ρ w b) → VRel ρ w (match p.ag with
        | true => .agg (putCs p.cs x.1 H).1
        | false => (putCs p.cs x.1 H).1.headD .junk) v := by
      cases hag : p.ag with
      | true =>
        rw [hag] at h3
        obtain ⟨us, rfl, h5⟩ := h3
        obtain ⟨bs, ms, h6, h7⟩ := zH h5
        exact ⟨bs, ms, h6, fun H => ⟨(h7 H).1, fun ρ ha hB => by simp only [VRel]; exact ⟨us, rfl, (h7 H).2 ρ ha hB⟩⟩⟩
      | false =>
        rw [hag] at h3
        obtain ⟨bs, ms, h6, h7⟩ := zH h3
        refine ⟨bs, ms, h6, fun H => ⟨(h7 H).1, fun ρ ha hB => ?_⟩⟩
        have h8 := (h7 H).2 ρ ha hB
        cases hs : (putCs p.cs x.1 H).1 with
        | nil => rw [hs] at h8; simp [VRels] at h8
        | cons s l =>
          rw [hs] at h8
          simp only [VRels] at h8
          obtain ⟨u, us', e, h9, _⟩ := h8
          simp at e
          simp only [List.headD_cons, e.1]; exact h9
    obtain ⟨bs, ms, h5, h6⟩ := key
    obtain ⟨bs', ms', h7, h8⟩ := zme h4
    refine ⟨bs ++ bs', ms ++ ms', h5.append h7, fun H => ⟨by simp only [putPs]; rw [(h8 _).1, (h6 H).1]; simp, fun ρ ha hB => ?_⟩⟩
    have h9 := ha.split
    simp only [putPs, VRels]
    refine ⟨v, vs', rfl, (h6 H).2 ρ h9.1 hB, (h8 _).2 ρ ?_ hB⟩
    rw [(h6 H).1]
    have : (H ++ bs).length = H.length + ms.length := by rw [h5.length]; simp
    rw [this]; exact h9.2
def Map.add (ρ : Map) (k : Nat) (ms : List Img) : Map := ⟨fun β => if β < k then ρ β else match ms[β - k]? with | some m => m | none => ρ β, ρ.res0, ρ.vl⟩
theorem zmf {ss : List SV} {us : Array Value} (h : VRels ρ w ss us.toList) : VRel ρ w (resV ss) (resU us) := by
  unfold resU
  have hl := h.length
  unfold resV
  split
  · rename_i s
    simp at hl
    rw [dif_pos hl.symm]
    simp only [VRels] at h
    obtain ⟨u, us', e, h1, h2⟩ := h
    have : us[0]'(by omega) = u := by
      have h3 : us.toList[0]? = some u := by rw [e]; rfl
      rw [Array.getElem?_toList, Array.getElem?_eq_getElem (by omega)] at h3
      exact Option.some.inj h3
    rw [this]; exact h1
  · rename_i hne
    have : ¬ us.size = 1 := fun h1 => by
      simp only [Array.length_toList] at hl
      match ss, hl, hne with
      | [s], _, hne => exact hne s rfl
      | [], hl, _ => simp at hl; omega
      | _ :: _ :: _, hl, _ => simp at hl; omega
    rw [dif_neg this]
    simp only [VRel]
    exact ⟨us, rfl, h⟩
theorem zr9 {P : Program} {f : FuncId} {tf : TF} (hok : tf.ok = true) (h : FnSpec P f tf) : TESound P f tf.te := by
  intro ρ H w args vs x y v H' hH hv hun hview hfn hput
  have hput' : v = resV (putPs tf.rs y H).1 ∧ H' = (putPs tf.rs y H).2 := by
    simp only [TF.te, Option.some.injEq, Prod.mk.injEq] at hput
    exact ⟨hput.1.symm, hput.2.symm⟩
  obtain ⟨rfl, rfl⟩ := hput'
  -- what is kept from the callee
  let res : Nat → Prop := fun b => (ρ.res0 b ∧ ρ.vl b = none) ∨ (tf.flat = false ∧ ((∃ β o n sz, ρ β = .at b o n sz) ∨ ρ.vl b ≠ none))
  have hres : ∀ b, res b → b < w.heap.size := by
    rintro b (hb | ⟨_, ⟨β, o, n, sz, hb⟩ | hb⟩)
    · exact hH.resl b (.inl hb.1)
    · exact hH.lt _ _ _ _ _ hb
    · exact hH.resl b (.inr hb)
  have hps : PsRel w (fun b => b < w.heap.size ∧ ¬ res b) tf.ps x vs := by
    simp only [TF.te] at hview
    cases hfl : tf.flat with
    | true =>
      rw [hfl] at hview
      refine PsRel.of_view (ρ := ρ) (fun {K s x u} h1 h2 => ?_) hview hv
      refine zm hH (B := fun b => b < w.heap.size ∧ ¬ res b) (fun b hb => ⟨hb.1, ?_⟩) (fun _ b t hv2 => ⟨hH.vlt hv2, ?_⟩) (fun γ b o n sz _ hg => ⟨hH.lt _ _ _ _ _ hg, ?_⟩) h1 (VRels.single h2)
      · rintro (h3 | ⟨h3, _⟩)
        · exact hb.2.1 (.inl h3.1)
        · rw [hfl] at h3; cases h3
      · rintro (h3 | ⟨h3, _⟩)
        · rw [hv2] at h3; cases h3.2
        · rw [hfl] at h3; cases h3
      · rintro (h3 | ⟨h3, _⟩)
        · exact hH.resf _ _ _ _ _ hg (.inl h3.1)
        · rw [hfl] at h3; cases h3
    | false =>
      rw [hfl] at hview
      refine PsRel.of_view (ρ := ρ) (fun {K s x u} h1 h2 => ?_) hview hv
      exact CRel.mono (fun b hb => ⟨hb.1, fun h3 => by
        rcases h3 with h3 | ⟨_, ⟨β, o, n, sz, h3⟩ | h3⟩
        · exact hb.2.1 (.inl h3.1)
        · exact hb.2.2 _ _ _ _ h3
        · exact hb.2.1 (.inr h3)⟩) (fun _ _ => rfl) (zp h1 (VRels.single h2))
  refine Calls.mono (h w res vs x y hres hps hfn) fun e w' he => ?_
  obtain ⟨us, tk, rfl, hos, htape, hout, hsize, hkept, hnd, htk, hps'⟩ := he
  have hB : PsOut w' (fun b => b < w'.heap.size ∧ ¬ ρ.res b ∧ (∀ β o n sz, ρ β ≠ .at b o n sz) ∧ b ∉ tk) tf.rs y us.toList tk := by
    cases hfl : tf.flat with
    | true =>
      refine PsOut.mono (.inr ?_) hps'
      simpa [TF.ok, hfl] using hok
    | false =>
      exact PsOut.mono (.inl fun b hb => ⟨hb.1, fun h3 => by
        cases hvl : ρ.vl b with
        | none => exact hb.2.1 (.inl ⟨h3.resolve_right (by rw [hvl]; simp), hvl⟩)
        | some t => exact hb.2.1 (.inr ⟨hfl, .inr (by rw [hvl]; simp)⟩), fun β o n sz h3 => hb.2.1 (.inr ⟨hfl, .inl ⟨β, o, n, sz, h3⟩⟩), hb.2.2⟩) hps'
  obtain ⟨bs, ms, hent, hputs⟩ := zme hB
  obtain ⟨hH', hvr⟩ := hputs H
  have hml := hent.length
  have hlt : ∀ {β}, β < H.length → (ρ.add H.length ms) β = ρ β := fun h => by simp [Map.add, h]
  have hge : ∀ {i}, i < ms.length → ∃ m, ms[i]? = some m ∧ (ρ.add H.length ms) (H.length + i) = m := fun {i} h => by
    refine ⟨ms[i], List.getElem?_eq_getElem h, ?_⟩
    simp only [Map.add]; rw [if_neg (by omega), Nat.add_sub_cancel_left, List.getElem?_eq_getElem h]
  have hgt : ∀ {β}, H.length + ms.length ≤ β → (ρ.add H.length ms) β = ρ β := fun {β} h => by
    simp only [Map.add]; rw [if_neg (by omega), List.getElem?_eq_none (by omega)]
  have cases3 : ∀ β, (β < H.length ∧ (ρ.add H.length ms) β = ρ β) ∨ (H.length + ms.length ≤ β ∧ (ρ.add H.length ms) β = ρ β) ∨ ∃ i m, β = H.length + i ∧ ms[i]? = some m ∧ (ρ.add H.length ms) β = m := by
    intro β
    rcases Nat.lt_or_ge β H.length with h1 | h1
    · exact .inl ⟨h1, hlt h1⟩
    · rcases Nat.lt_or_ge β (H.length + ms.length) with h2 | h2
      · obtain ⟨m, h3, h4⟩ := hge (i := β - H.length) (by omega)
        rw [show H.length + (β - H.length) = β by omega] at h4
        exact .inr (.inr ⟨β - H.length, m, by omega, h3, h4⟩)
      · exact .inr (.inl ⟨h2, hgt h2⟩)
  have htkn : ∀ {i : Nat} {b o n sz : Nat}, ms[i]? = some (.at b o n sz) → b ∈ tk := fun hm => by
    obtain ⟨_, t, _, h6, h7⟩ := hent.get _ _ hm
    exact h7 _ h6.at_
  have hub : ∀ β, H.length ≤ β → β < H.length + ms.length → ρ β = .unborn := fun β h1 h2 => hun β h1 (by rw [hH']; simp; omega)
  have hstep : Step ρ w (ρ.add H.length ms) w' := {
    os := hos, tape := htape, output := hout, size := hsize
    kept := fun b hb _ _ => hkept b hb
    shape := fun b C t fr hb => ⟨C, by rw [hkept b (Array.getElem?_eq_some_iff.1 hb).1]; exact hb, rfl⟩
    img := fun β b o n sz hb => by
      rcases cases3 β with ⟨_, h2⟩ | ⟨_, h2⟩ | ⟨i, m, _, h3, h4⟩
      · rw [h2] at hb; exact .inl ⟨β, o, n, sz, hb⟩
      · rw [h2] at hb; exact .inl ⟨β, o, n, sz, hb⟩
      · rw [h4] at hb; subst hb
        exact .inr (htk b (htkn h3)).1
    ref := fun β hb => by
      rcases cases3 β with ⟨_, h2⟩ | ⟨_, h2⟩ | ⟨i, m, h2, h3, _⟩
      · exact .inl h2
      · exact .inl h2
      · exact absurd (hub β (by omega) (by have := (List.getElem?_eq_some_iff.1 h3).1; omega)) hb
    res := rfl
    vl := fun _ _ => rfl }
  have hfree : ∀ b, (b < w'.heap.size ∧ ¬ ρ.res b ∧ (∀ β o n sz, ρ β ≠ .at b o n sz) ∧ b ∉ tk) → Free (ρ.add H.length ms) w' b := fun b hb => ⟨hb.1, hb.2.1, fun β o n sz h1 => by
    rcases cases3 β with ⟨_, h2⟩ | ⟨_, h2⟩ | ⟨i, m, _, h3, h4⟩
    · rw [h2] at h1; exact hb.2.2.1 _ _ _ _ h1
    · rw [h2] at h1; exact hb.2.2.1 _ _ _ _ h1
    · rw [h4] at h1; subst h1; exact hb.2.2.2 (htkn h3)⟩
  have hlen : (H ++ bs).length = H.length + ms.length := by rw [hml]; simp
  have hsz : ∀ {β b o n sz}, ρ β = .at b o n sz → b < w.heap.size := fun h => hH.lt _ _ _ _ _ h
  refine ⟨resU us, ρ.add H.length ms, rfl, hstep, ?_, ?_, ?_, ?_, ?_⟩
  · rw [hH']
    constructor
    · intro β hl hd
      rcases cases3 β with ⟨h1, h2⟩ | ⟨h1, h2⟩ | ⟨i, m, h2, h3, h4⟩
      · rw [List.getElem?_append_left h1]; exact hH.dead β h1 (by rw [← h2]; exact hd)
      · omega
      · rw [h4] at hd; subst hd
        obtain ⟨_, t, _, h6, _⟩ := hent.get _ _ h3
        rcases h6 with ⟨h6, _⟩ | ⟨_, _, _, _, _, _, _, _, h6, _⟩ <;> cases h6
    · intro β hl hd
      rcases cases3 β with ⟨h1, h2⟩ | ⟨h1, h2⟩ | ⟨i, m, h2, h3, h4⟩
      · rw [List.getElem?_append_left h1]; exact hH.none_ β h1 (by rw [← h2]; exact hd)
      · omega
      · rw [h4] at hd; subst hd; subst h2
        obtain ⟨x, t, h5, h6, _⟩ := hent.get _ _ h3
        rcases h6 with ⟨_, _, e, h6⟩ | ⟨_, _, _, _, _, _, _, _, h6, _⟩
        · subst h6
          exact .inl ⟨e, 0, by rw [List.getElem?_append_right (by omega), Nat.add_sub_cancel_left]; exact h5⟩
        · cases h6
    · intro β hl b o n sz hd
      rcases cases3 β with ⟨h1, h2⟩ | ⟨h1, h2⟩ | ⟨i, m, h2, h3, h4⟩
      · rw [h2] at hd
        obtain ⟨x, h5, h6⟩ := hH.at_ β h1 _ _ _ _ hd
        exact ⟨x, by rw [List.getElem?_append_left h1]; exact h5, h6.keep hstep (hkept b (hsz hd)) fun b' hb' => ⟨hH.vlt hb', hkept b' (hH.vlt hb')⟩⟩
      · omega
      · rw [h4] at hd; subst hd; subst h2
        obtain ⟨x, t, h5, h6, _⟩ := hent.get _ _ h3
        rcases h6 with ⟨h6, _⟩ | ⟨b', o', n', sz', e, xs, C, tC, h6, h7, h8, h9, h10, h11, h12, h13⟩
        · cases h6
        · cases h6; subst h8
          refine ⟨_, by rw [List.getElem?_append_right (by omega), Nat.add_sub_cancel_left]; exact h5, ?_⟩
          simp only [BRel]
          exact ⟨h9, h10, C, tC, h11, h12, fun i x hx => by
            obtain ⟨es, h14, h15⟩ := h13 i x hx
            exact ⟨es, CRel.mono hfree (fun _ _ => rfl) h14, h15⟩⟩
    · intro β γ b o n sz o' n' sz' hb hc
      rcases cases3 β with ⟨h1, h2⟩ | ⟨h1, h2⟩ | ⟨i, m, h2, h3, h4⟩ <;> rcases cases3 γ with ⟨g1, g2⟩ | ⟨g1, g2⟩ | ⟨j, m', g2, g3, g4⟩
      · rw [h2] at hb; rw [g2] at hc; exact hH.inj _ _ _ _ _ _ _ _ _ hb hc
      · rw [h2] at hb; rw [g2] at hc; exact hH.inj _ _ _ _ _ _ _ _ _ hb hc
      · rw [h2] at hb; rw [g4] at hc; subst hc
        have := (htk b (htkn g3)).1; have := hsz hb; omega
      · rw [h2] at hb; rw [g2] at hc; exact hH.inj _ _ _ _ _ _ _ _ _ hb hc
      · rw [h2] at hb; rw [g2] at hc; exact hH.inj _ _ _ _ _ _ _ _ _ hb hc
      · rw [h2] at hb; rw [g4] at hc; subst hc
        have := (htk b (htkn g3)).1; have := hsz hb; omega
      · rw [h4] at hb; subst hb; rw [g2] at hc
        have := (htk b (htkn h3)).1; have := hsz hc; omega
      · rw [h4] at hb; subst hb; rw [g2] at hc
        have := (htk b (htkn h3)).1; have := hsz hc; omega
      · rw [h4] at hb; subst hb; rw [g4] at hc; subst hc
        rw [h2, g2, hent.inj hnd i j h3 g3]
    · intro β b o n sz hb
      rcases cases3 β with ⟨h1, h2⟩ | ⟨h1, h2⟩ | ⟨i, m, h2, h3, h4⟩
      · rw [h2] at hb; have := hsz hb; omega
      · rw [h2] at hb; have := hsz hb; omega
      · rw [h4] at hb; subst hb; exact (htk b (htkn h3)).2
    · intro b hb; have := hH.resl b hb; omega
    · intro β b o n sz hb hr
      rcases cases3 β with ⟨h1, h2⟩ | ⟨h1, h2⟩ | ⟨i, m, h2, h3, h4⟩
      · rw [h2] at hb; exact hH.resf _ _ _ _ _ hb hr
      · rw [h2] at hb; exact hH.resf _ _ _ _ _ hb hr
      · rw [h4] at hb; subst hb
        have := (htk b (htkn h3)).1; have := hH.resl b hr; omega
  · exact zmf (hvr (ρ.add H.length ms) (fun i m hm => by
      obtain ⟨m', h1, h2⟩ := hge (List.getElem?_eq_some_iff.1 hm).1
      rw [hm] at h1; cases h1; exact h2) hfree)
  · rw [hH']; simp
  · intro β hb hc
    rcases cases3 β with ⟨_, h2⟩ | ⟨_, h2⟩ | ⟨i, m, h2, h3, h4⟩
    · rw [h2]; exact hb
    · rw [h2]; exact hb
    · exfalso
      rw [hH'] at hc
      have := (List.getElem?_eq_some_iff.1 h3).1
      simp at hc; omega
  · intro _
    refine ⟨⟨bs, hH'⟩, fun β hc => ?_, fun b hb => hkept b hb⟩
    rcases cases3 β with ⟨_, h2⟩ | ⟨_, h2⟩ | ⟨i, m, h2, h3, h4⟩
    · exact h2
    · exact h2
    · exfalso
      rw [hH'] at hc
      have := (List.getElem?_eq_some_iff.1 h3).1
      simp at hc; omega
end
end Go.Proofs.Ytmkekjmckdkcnaa.Den
namespace Go.Proofs.Ytmkekjmckdkcnaa.Den
open Go Go.RowKit
def takeCs : List (Kd × Bool) → List SV → Heap → Option (List SV × Heap)
  | [], [], H => some ([], H)
  | (.list e, true) :: r, s :: ss, H => match fixV H e true s with
    | some (.own β, H1) => match H1[β]? with
      | some (.arr e' xs t) => match takeCs r ss (H1.set β .dead) with
        | some (l, H2) => some (.es e' xs :: l, H2)
        | none => none
      | _ => none
    | _ => none
  | _ :: r, s :: ss, H => match takeCs r ss H with
    | some (l, H2) => some (s :: l, H2)
    | none => none
  | _, _, _ => none
def takePs : List Pm → List SV → Heap → Option (List SV × Heap)
  | [], [], H => some ([], H)
  | p :: r, s :: ss, H => match cellsP p.ag s with
    | some cs => match takeCs p.cs cs H with
      | some (l, H1) => match takePs r ss H1 with
        | some (ls, H2) => some ((match p.ag with
          | true => .agg l
          | false => l.headD .junk) :: ls, H2)
        | none => none
      | none => none
    | none => none
  | _, _, _ => none
def lightRes (P : Program) : List ResultVar → Option (List (Nat × Option (Nat × Bool)))
  | [] => some []
  | .tmp t :: r => (lightRes P r).map ((t, none) :: ·)
  | .cell a t :: r => match P.info? t, isAggL P t, lightRes P r with
    | some i, some ag, some l => if ag = false → i.size = 1 then some ((a, some (i.size, ag)) :: l) else none
    | _, _, _ => none
def evalRes (τ : Env) (H : Heap) : List (Nat × Option (Nat × Bool)) → Option (List SV)
  | [] => some []
  | (t, none) :: r => match evalRes τ H r with
    | some l => some (Tm.get τ t :: l)
    | none => none
  | (a, some (n, ag)) :: r => match ldI H n ag (Tm.get τ a) some, evalRes τ H r with
    | some v, some l => some (v :: l)
    | _, _ => none
def outPs (rs : List Pm) (ss : List SV) (H : Heap) : Option (PsT rs) :=
  match takePs rs ss H with
  | some (ls, H2) => viewPs H2 rs ls
  | none => none
def endF (rv : List (Nat × Option (Nat × Bool))) (rs : List Pm) (ex : Ex) (τ : Env) (H : Heap) : Option (PsT rs) :=
  match ex with
  | .exit _ => none
  | _ => match evalRes τ H rv with
    | some ss => outPs rs ss H
    | none => none
def env0 : List SV → Nat → Env
  | [], _ => []
  | s :: ss, k => (k, s) :: env0 ss (k + 1)
section
variable {P : Program} {w : World} {ρ ρ' : Map} {H H' : Heap}
theorem ld_spec {t : TypeId} {s v : SV} {val : Value} {i : TypeInfo} {ag : Bool} (hi : P.info? t = some i) (ha : isAggL P t = some ag) (hH : HRel ρ H w) (hx : VRel ρ w s val)
    (he : ldI H i.size ag s some = some v) : ∃ ad, val = .pointer (some ad) ∧ ∃ u, (loadVar t ad).run P w = .ok u w ∧ VRel ρ w v u := by
  unfold ldI at he
  split at he
  · rename_i β off
    split at he
    · rename_i cs t' z hb
      obtain ⟨v', hk, h1, h2⟩ := zB he
      simp at hk; subst hk
      obtain ⟨b, o', n, sz, hr, hu⟩ := ptr_rel hH hb (by simp) hx
      obtain ⟨C, tC, hC, _, _, _, hcs, hm⟩ := zn hH hb hr
      refine ⟨_, hu, ?_⟩
      rw [← zb]
      exact ld_core hi ha hcs hm h1 h2
    · rename_i K xs t' hb
      split at he
      · obtain ⟨hl, hk⟩ := za he
        simp at hk; subst hk
        obtain ⟨b, o', n, sz, hr, hu⟩ := ptr_rel hH hb (by simp) hx
        have hlt : β < H.length := (List.getElem?_eq_some_iff.1 hb).1
        obtain ⟨y, h1, h2⟩ := hH.at_ β hlt _ _ _ _ hr
        rw [hb] at h1; simp at h1; subst h1
        simp only [BRel] at h2
        obtain ⟨rfl, rfl, C, tC, hC, hle, hrow⟩ := h2
        have hl' : xs.length * K.sz = i.size := by simpa using hl
        refine ⟨_, hu, .agg ((C.toList.drop o').take i.size).toArray, ?_, ?_⟩
        · refine zgM ha hi (by simp; omega) fun j u hj => ?_
          rw [List.getElem?_take] at hj
          split at hj
          · rw [List.getElem?_drop, Array.getElem?_toList] at hj
            rw [zb, zl hC]; exact hj
          · simp at hj
        · simp only [VRel]
          refine ⟨_, rfl, by simp; omega, fun k x hx => ?_⟩
          obtain ⟨es, h3, h4⟩ := hrow k x hx
          refine ⟨es, h3, fun j u hj => ?_⟩
          have hk : k < xs.length := (List.getElem?_eq_some_iff.1 hx).1
          have hj' : j < K.sz := by rw [← h3.length]; exact (List.getElem?_eq_some_iff.1 hj).1
          have : (k + 1) * K.sz ≤ xs.length * K.sz := Nat.mul_le_mul_right _ hk
          rw [Nat.add_mul, Nat.one_mul] at this
          rw [List.getElem?_toArray, List.getElem?_take, if_pos (by omega), List.getElem?_drop, Array.getElem?_toList, ← Nat.add_assoc]
          exact h4 j u hj
      · simp at he
    · simp at he
  · rename_i β k j
    split at he
    · rename_i K xs t' hb
      obtain ⟨hk, he⟩ := za he
      obtain ⟨v', hk', h1, h2⟩ := zB he
      simp at hk'; subst hk'
      obtain ⟨b, o', n, sz, hr, hu⟩ := zgN hH hb (by simp) hx
      obtain ⟨_, _, C, tC, hC, _, hrow⟩ := row_of hH hb hr
      obtain ⟨es, h3, h4⟩ := hrow k (by simpa using hk)
      refine ⟨_, hu, ?_⟩
      rw [← zb]
      exact ld_core hi ha (enc_rel h3) h4 h1 h2
    · simp at he
  · rename_i K y j
    obtain ⟨v', hk', h1, h2⟩ := zB he
    simp at hk'; subst hk'
    simp only [VRel] at hx
    obtain ⟨ad, es, hu, h3, h5, h4⟩ := hx
    exact ⟨_, hu, ld_core hi ha (enc_rel h3) h4 h1 h2⟩
  · simp at he
def resStep (tmps : Array Value) : ResultVar → Sem Value
  | .tmp t => pure (tmps.getD t undef)
  | .cell a t => do loadVar t (← asAddr (tmps.getD a undef))
theorem zsa (fn : Func) (tmps : Array Value) : results fn tmps = (do let vs ← fn.results.mapM (resStep tmps); pure (resU vs)) := by
  have : (fun r : ResultVar => (match r with
      | .tmp t => pure (tmps.getD t undef)
      | .cell a t => do loadVar t (← asAddr (tmps.getD a undef)) : Sem Value)) = resStep tmps := by
    funext r; cases r <;> rfl
  rw [← this]
  rfl
theorem zhc {τ : Env} {a : Act} {N : Nat} (ht : TRel ρ w τ a N) (hH : HRel ρ H w) : ∀ {l : List ResultVar} {rv : List (Nat × Option (Nat × Bool))} {ss : List SV}, lightRes P l = some rv → evalRes τ H rv = some ss →
    ∃ vs, (l.mapM (resStep a.tmps)).run P w = .ok vs w ∧ VRels ρ w ss vs
  | [], rv, ss, h1, h2 => by
    simp [lightRes] at h1; subst h1
    simp [evalRes] at h2; subst h2
    exact ⟨[], rfl, by simp [VRels]⟩
  | .tmp t :: r, rv, ss, h1, h2 => by
    simp only [lightRes] at h1
    obtain ⟨l, h3, rfl⟩ := Option.map_eq_some_iff.1 h1
    simp only [evalRes] at h2
    split at h2
    · rename_i l' h4
      simp only [Option.some.injEq] at h2; subst h2
      obtain ⟨vs, h5, h6⟩ := zhc ht hH h3 h4
      refine ⟨a.tmps.getD t undef :: vs, ?_, ?_⟩
      · simp only [List.mapM_cons, Sem.run_bind, resStep, Sem.run_pure, Result.andThen_ok, h5]
      · simp only [VRels]; exact ⟨_, _, rfl, ht.2.2 t, h6⟩
    · simp at h2
  | .cell x t :: r, rv, ss, h1, h2 => by
    simp only [lightRes] at h1
    split at h1
    · rename_i i ag l hi ha h3
      split at h1
      · simp only [Option.some.injEq] at h1; subst h1
        simp only [evalRes] at h2
        split at h2
        · rename_i v l' hv h4
          simp only [Option.some.injEq] at h2; subst h2
          obtain ⟨vs, h5, h6⟩ := zhc ht hH h3 h4
          obtain ⟨ad, h7, u, h8, h9⟩ := ld_spec hi ha hH (ht.2.2 x) hv
          refine ⟨u :: vs, ?_, ?_⟩
          · have h10 : (resStep a.tmps (.cell x t)).run P w = .ok u w := by
              simp [resStep, h7, asAddr, h8]
            simp only [List.mapM_cons, Sem.run_bind, h10, Sem.run_pure, Result.andThen_ok, h5]
          · simp only [VRels]; exact ⟨_, _, rfl, h9, h6⟩
        · simp at h2
      · simp at h1
    · simp at h1
theorem zE {fn : Func} {τ : Env} {a : Act} {N : Nat} {rv : List (Nat × Option (Nat × Bool))} {ss : List SV} (ht : TRel ρ w τ a N) (hH : HRel ρ H w) (h1 : lightRes P fn.results.toList = some rv) (h2 : evalRes τ H rv = some ss) :
    ∃ vs : Array Value, (results fn a.tmps).run P w = .ok (resU vs) w ∧ VRels ρ w ss vs.toList := by
  obtain ⟨vs, h3, h4⟩ := zhc ht hH h1 h2
  refine ⟨vs.toArray, ?_, by simpa using h4⟩
  rw [zsa, Sem.run_bind, Array.mapM_eq_mapM_toList, Sem.run_map, h3]
  rfl
def Map.take (ρ : Map) (β b : Nat) : Map := ⟨fun γ => if γ = β then .dead else ρ γ, fun x => ρ.res0 x ∨ x = b, ρ.vl⟩
theorem zaL {β b x : Nat} : (ρ.take β b).res x ↔ ρ.res x ∨ x = b := by
  simp only [Map.res, Map.take]
  constructor
  · rintro ((h | h) | h)
    · exact .inl (.inl h)
    · exact .inr h
    · exact .inl (.inr h)
  · rintro ((h | h) | h)
    · exact .inl (.inl h)
    · exact .inr h
    · exact .inl (.inr h)
theorem zsb {β b o n sz : Nat} (hr : ρ β = .at b o n sz) (x : Nat) (h : Free ρ w x) : Free (ρ.take β b) w x := by
  refine ⟨h.1, ?_, fun γ o' n' sz' hg => ?_⟩
  · intro h0
    rcases zaL.1 h0 with h1 | rfl
    · exact h.2.1 h1
    · exact h.2.2 _ _ _ _ hr
  · simp only [Map.take] at hg
    split at hg
    · cases hg
    · exact h.2.2 _ _ _ _ hg
theorem zmg {β b o n sz : Nat} (hr : ρ β = .at b o n sz) : StepF ρ w (ρ.take β b) w where
  free := zsb hr
  kept _ _ := rfl
  shape _ C _ _ h := ⟨C, h, rfl⟩
  ref γ _ := by
    simp only [Map.take]
    split
    · exact .inr rfl
    · exact .inl rfl
theorem zsc {β : Nat} : StepF ρ w (ρ.kill [β]) w := (Step.kill [β]).toF
theorem HRel.take (h : HRel ρ H w) {β b o n sz : Nat} (hr : ρ β = .at b o n sz) : HRel (ρ.take β b) (H.set β .dead) w where
  dead γ hl hd := by
    by_cases e : β = γ
    · subst e; simp at hl; simp [hl]
    · rw [List.getElem?_set_ne e]
      simp only [Map.take, if_neg (Ne.symm e)] at hd
      exact h.dead γ (by simpa using hl) hd
  none_ γ hl hd := by
    have e : β ≠ γ := by rintro rfl; simp [Map.take] at hd
    rw [List.getElem?_set_ne e]
    simp only [Map.take, if_neg (Ne.symm e)] at hd
    exact h.none_ γ (by simpa using hl) hd
  at_ γ hl b' o' n' sz' hd := by
    have e : β ≠ γ := by rintro rfl; simp [Map.take] at hd
    rw [List.getElem?_set_ne e]
    simp only [Map.take, if_neg (Ne.symm e)] at hd
    obtain ⟨x, h1, h2⟩ := h.at_ γ (by simpa using hl) _ _ _ _ hd
    exact ⟨x, h1, h2.keepF (zmg hr) rfl fun _ hb' => ⟨rfl, hb'⟩⟩
  inj γ δ b' o1 n1 s1 o2 n2 s2 h1 h2 := by
    simp only [Map.take] at h1 h2
    split at h1
    · cases h1
    · split at h2
      · cases h2
      · exact h.inj _ _ _ _ _ _ _ _ _ h1 h2
  lt γ b' o1 n1 s1 h1 := by
    simp only [Map.take] at h1
    split at h1
    · cases h1
    · exact h.lt _ _ _ _ _ h1
  resl x hx := by
    rcases zaL.1 hx with hx | rfl
    · exact h.resl x hx
    · exact h.lt _ _ _ _ _ hr
  resf γ b' o1 n1 s1 h1 hx := by
    simp only [Map.take] at h1
    split at h1
    · cases h1
    · rename_i hne
      rcases zaL.1 hx with hx | rfl
      · exact h.resf _ _ _ _ _ h1 hx
      · exact hne (h.inj _ _ _ _ _ _ _ _ _ h1 hr)
theorem StepF.trans {ρ1 : Map} (h : StepF ρ w ρ1 w) (k : StepF ρ1 w ρ' w) : StepF ρ w ρ' w where
  free b hb := k.free b (h.free b hb)
  kept _ _ := rfl
  shape _ C _ _ h := ⟨C, h, rfl⟩
  ref β hu := by
    rcases h.ref β hu with e | e
    · rcases k.ref β (by rw [e]; exact hu) with e2 | e2
      · exact .inl (e2.trans e)
      · exact .inr e2
    · rcases k.ref β (by rw [e]; simp) with e2 | e2
      · exact .inr (e2.trans e)
      · exact .inr e2
def TkRel (ρ : Map) (w : World) : List (Kd × Bool) → List SV → List Value → List Nat → Prop
  | [], l, us, tk => l = [] ∧ us = [] ∧ tk = []
  | (.list e, true) :: r, l, us, tk => ∃ (e' : Kd) (xs : List e'.T) (l' : List SV) (u : Value) (us' : List Value) (t1 t2 : List Nat), l = .es e' xs :: l' ∧ us = u :: us' ∧ tk = t1 ++ t2 ∧ OwnAt w (Free ρ w) e' xs u t1 ∧ TkRel ρ w r l' us' t2
  | _ :: r, l, us, tk => ∃ s l' u us', l = s :: l' ∧ us = u :: us' ∧ VRel ρ w s u ∧ TkRel ρ w r l' us' tk
structure Gave (ρ : Map) (H : Heap) (w : World) (ρ' : Map) (H' : Heap) (tk : List Nat) : Prop where
  h : HRel ρ' H' w
  u : ∀ β, H'.length ≤ β → ρ' β = .unborn
  st : StepF ρ w ρ' w
  nd : tk.Nodup
  tks : ∀ b ∈ tk, ρ'.res b ∧ ∃ β o n sz, ρ β = .at b o n sz
  res : ∀ b, ρ.res b → ρ'.res b
  res' : ∀ b, ρ'.res b → ρ.res b ∨ b ∈ tk
  img : ∀ β b o n sz, ρ' β = .at b o n sz → ∃ γ o' n' sz', ρ γ = .at b o' n' sz'
  vl : ρ'.vl = ρ.vl
theorem Gave.refl (h : HRel ρ H w) (u : ∀ β, H.length ≤ β → ρ β = .unborn) : Gave ρ H w ρ H [] :=
  ⟨h, u, (Step.refl ρ w).toF, by simp, by simp, fun _ h => h, fun _ h => .inl h, fun β b o n sz h => ⟨β, o, n, sz, h⟩, rfl⟩
theorem Gave.trans {ρ1 : Map} {H1 : Heap} {t1 t2 : List Nat} (h : Gave ρ H w ρ1 H1 t1) (k : Gave ρ1 H1 w ρ' H' t2) : Gave ρ H w ρ' H' (t1 ++ t2) where
  h := k.h
  u := k.u
  st := h.st.trans k.st
  nd := by
    rw [List.nodup_append]
    refine ⟨h.nd, k.nd, fun a ha b hb e => ?_⟩
    subst e
    obtain ⟨_, β, o, n, sz, h1⟩ := k.tks a hb
    exact h.h.resf _ _ _ _ _ h1 (h.tks a ha).1
  tks b hb := by
    rcases List.mem_append.1 hb with h1 | h1
    · exact ⟨k.res b (h.tks b h1).1, (h.tks b h1).2⟩
    · obtain ⟨h2, β, o, n, sz, h3⟩ := k.tks b h1
      exact ⟨h2, h.img _ _ _ _ _ h3⟩
  res b hb := k.res b (h.res b hb)
  res' b hb := by
    rcases k.res' b hb with h1 | h1
    · rcases h.res' b h1 with h2 | h2
      · exact .inl h2
      · exact .inr (List.mem_append.2 (.inl h2))
    · exact .inr (List.mem_append.2 (.inr h1))
  img β b o n sz hb := by
    obtain ⟨γ, o', n', sz', h1⟩ := k.img β b o n sz hb
    exact h.img _ _ _ _ _ h1
  vl := k.vl.trans h.vl
theorem Gave.of_good {v : SV} {u : Value} (hg : Good false ρ H w v H' u w ρ') (hH : HRel ρ H w) (hu : ∀ β, H.length ≤ β → ρ β = .unborn) : Gave ρ H w ρ' H' [] where
  h := hg.hrel
  u β hβ := hg.unb β (hu β (Nat.le_trans hg.len hβ)) hβ
  st := hg.step.toF
  nd := by simp
  tks := by simp
  res b hb := (hg.step.res_old (hH.resl b hb)).2 hb
  res' b hb := .inl ((hg.step.res_old (hg.hrel.resl b hb)).1 hb)
  img β b o n sz hb := by
    rcases hg.step.img β b o n sz hb with h | h
    · exact h
    · have := hg.hrel.lt _ _ _ _ _ hb; omega
  vl := by
    funext b
    by_cases hb : b < w.heap.size
    · exact hg.step.vl b hb
    · have h1 : ρ'.vl b = none := by
        cases h : ρ'.vl b with
        | none => rfl
        | some t => exact absurd (hg.hrel.vlt h) hb
      have h2 : ρ.vl b = none := by
        cases h : ρ.vl b with
        | none => rfl
        | some t => exact absurd (hH.vlt h) hb
      rw [h1, h2]
theorem Gave.of_take (hH : HRel ρ H w) (hu : ∀ β, H.length ≤ β → ρ β = .unborn) {β b o n sz : Nat} (hl : β < H.length) (hr : ρ β = .at b o n sz) : Gave ρ H w (ρ.take β b) (H.set β .dead) [b] where
  h := hH.take hr
  u γ hγ := by
    simp only [List.length_set] at hγ
    simp only [Map.take]; rw [if_neg (by omega)]; exact hu γ hγ
  st := zmg hr
  nd := by simp
  tks x hx := by simp at hx; subst hx; exact ⟨zaL.2 (.inr rfl), β, o, n, sz, hr⟩
  res x hx := zaL.2 (.inl hx)
  res' x hx := (zaL.1 hx).imp id fun h => by simp [h]
  img γ x o' n' sz' h := by
    simp only [Map.take] at h
    split at h
    · cases h
    · exact ⟨_, _, _, _, h⟩
  vl := rfl
theorem Gave.of_none (hH : HRel ρ H w) (hu : ∀ β, H.length ≤ β → ρ β = .unborn) {β : Nat} (hl : β < H.length) : Gave ρ H w (ρ.kill [β]) (H.set β .dead) [] where
  h := hH.kill [β]
  u γ hγ := by simp only [List.length_set] at hγ; exact zt (hu γ hγ)
  st := zsc
  nd := by simp
  tks := by simp
  res _ h := h
  res' _ h := .inl h
  img γ x o' n' sz' h := by
    simp only [Map.kill] at h
    split at h
    · cases h
    · exact ⟨_, _, _, _, h⟩
  vl := rfl
theorem TkRel.step (h : StepF ρ w ρ' w) : ∀ {cs : List (Kd × Bool)} {l : List SV} {us : List Value} {tk : List Nat}, TkRel ρ w cs l us tk → TkRel ρ' w cs l us tk
  | [], _, _, _, hr => hr
  | (.list e, true) :: r, _, _, _, hr => by
    simp only [TkRel] at hr ⊢
    obtain ⟨e', xs, l', u, us', t1, t2, h1, h2, h3, h4, h5⟩ := hr
    exact ⟨e', xs, l', u, us', t1, t2, h1, h2, h3, h4.mono h.free, TkRel.step h h5⟩
  | (.list e, false) :: r, _, _, _, hr | (.int _, _) :: r, _, _, _, hr | (.bool, _) :: r, _, _, _, hr | (.unit, _) :: r, _, _, _, hr | (.pair _ _, _) :: r, _, _, _, hr => by
    simp only [TkRel] at hr ⊢
    obtain ⟨s, l', u, us', h1, h2, h3, h4⟩ := hr
    exact ⟨s, l', u, us', h1, h2, h3.stepF h, TkRel.step h h4⟩
theorem zeJ : ∀ {cs : List (Kd × Bool)} {ss l : List SV} {us : List Value} {ρ : Map} {H H' : Heap}, HRel ρ H w → (∀ β, H.length ≤ β → ρ β = .unborn) → VRels ρ w ss us → takeCs cs ss H = some (l, H') →
    ∃ ρ' tk, Gave ρ H w ρ' H' tk ∧ TkRel ρ' w cs l us tk
  | [], [], l, us, ρ, H, H', hH, hu, hv, he => by
    simp only [takeCs, Option.some.injEq, Prod.mk.injEq] at he
    obtain ⟨rfl, rfl⟩ := he
    simp only [VRels] at hv; subst hv
    exact ⟨ρ, [], Gave.refl hH hu, rfl, rfl, rfl⟩
  | [], _ :: _, l, us, ρ, H, H', hH, hu, hv, he => by simp [takeCs] at he
  | (.list e, true) :: r, [], l, us, ρ, H, H', hH, hu, hv, he => by simp [takeCs] at he
  | (.list e, true) :: r, s :: ss, l, us, ρ, H, H', hH, hu, hv, he => by
    simp only [takeCs] at he
    simp only [VRels] at hv
    obtain ⟨u, us', rfl, hv1, hv2⟩ := hv
    split at he
    · rename_i β H1 hf
      obtain ⟨ρ1, hg⟩ := zg7 hH hv1 (hu _ (Nat.le_refl _)) hf
      have g1 := Gave.of_good hg hH hu
      split at he
      · rename_i e' xs t hb
        have hlt : β < H1.length := (List.getElem?_eq_some_iff.1 hb).1
        split at he
        · rename_i l2 H2 h2
          simp only [Option.some.injEq, Prod.mk.injEq] at he
          obtain ⟨rfl, rfl⟩ := he
          rcases own_rel hg.hrel hb (by simp) hg.vrel with ⟨hr, ad, rfl⟩ | ⟨b, o, n, sz, c, hr, hc, rfl, hroom⟩
          · have := zaF hg.hrel hb hr; subst this
            have g2 := Gave.of_none g1.h g1.u hlt
            obtain ⟨ρ3, tk3, g3, h3⟩ := zeJ g2.h g2.u ((hv2.stepF g1.st).stepF g2.st) h2
            refine ⟨ρ3, tk3, by simpa using (g1.trans g2).trans g3, ?_⟩
            simp only [TkRel]
            exact ⟨e', [], l2, _, us', [], tk3, rfl, rfl, rfl, .inl ⟨rfl, rfl, ad, rfl⟩, h3⟩
          · have g2 := Gave.of_take g1.h g1.u hlt hr
            obtain ⟨ρ3, tk3, g3, h3⟩ := zeJ g2.h g2.u ((hv2.stepF g1.st).stepF g2.st) h2
            refine ⟨ρ3, b :: tk3, by simpa using (g1.trans g2).trans g3, ?_⟩
            obtain ⟨rfl, rfl, C, tC, hC, hle, hrow⟩ := row_raw hg.hrel hb hr
            obtain ⟨C2, t2, hC2, hroom⟩ := hroom
            rw [hC] at hC2
            simp only [Option.some.injEq, Obj.cells.injEq] at hC2
            obtain ⟨rfl, _⟩ := hC2
            simp only [TkRel]
            refine ⟨e', xs, l2, _, us', [b], tk3, rfl, rfl, rfl, .inr ⟨b, o, c, C, tC, rfl, rfl, hc, hC, hroom, fun i x hx => ?_⟩, h3⟩
            obtain ⟨es, h4, h5⟩ := hrow i x hx
            exact ⟨es, CRel.mono (fun b hb => g3.st.free b (g2.st.free b hb)) (fun _ _ => rfl) h4, h5⟩
        · simp at he
      · simp at he
    · simp at he
  | (.list e, false) :: r, [], l, us, ρ, H, H', hH, hu, hv, he | (.int _, _) :: r, [], l, us, ρ, H, H', hH, hu, hv, he | (.bool, _) :: r, [], l, us, ρ, H, H', hH, hu, hv, he | (.unit, _) :: r, [], l, us, ρ, H, H', hH, hu, hv, he | (.pair _ _, _) :: r, [], l, us, ρ, H, H', hH, hu, hv, he => by
    simp [takeCs] at he
  | (.list e, false) :: r, s :: ss, l, us, ρ, H, H', hH, hu, hv, he | (.int _, _) :: r, s :: ss, l, us, ρ, H, H', hH, hu, hv, he | (.bool, _) :: r, s :: ss, l, us, ρ, H, H', hH, hu, hv, he | (.unit, _) :: r, s :: ss, l, us, ρ, H, H', hH, hu, hv, he | (.pair _ _, _) :: r, s :: ss, l, us, ρ, H, H', hH, hu, hv, he => by
    simp only [takeCs] at he
    simp only [VRels] at hv
    obtain ⟨u, us', rfl, hv1, hv2⟩ := hv
    split at he
    · rename_i l2 H2 h2
      simp only [Option.some.injEq, Prod.mk.injEq] at he
      obtain ⟨rfl, rfl⟩ := he
      obtain ⟨ρ3, tk3, g3, h3⟩ := zeJ hH hu hv2 h2
      refine ⟨ρ3, tk3, g3, ?_⟩
      simp only [TkRel]
      exact ⟨s, l2, u, us', rfl, rfl, hv1.stepF g3.st, h3⟩
    · simp at he
def TkPs (ρ : Map) (w : World) : List Pm → List SV → List Value → List Nat → Prop
  | [], l, vs, tk => l = [] ∧ vs = [] ∧ tk = []
  | p :: r, ls, vs, tk => ∃ l ls' v vs' t1 t2, ls = (match p.ag with
      | true => .agg l
      | false => l.headD .junk) :: ls' ∧ vs = v :: vs' ∧ tk = t1 ++ t2 ∧ (match p.ag with
      | true => ∃ us : Array Value, v = .agg us ∧ TkRel ρ w p.cs l us.toList t1
      | false => TkRel ρ w p.cs l [v] t1) ∧ TkPs ρ w r ls' vs' t2
theorem zhd : ∀ {ps : List Pm} {ss ls : List SV} {vs : List Value} {ρ : Map} {H H' : Heap}, HRel ρ H w → (∀ β, H.length ≤ β → ρ β = .unborn) → VRels ρ w ss vs → takePs ps ss H = some (ls, H') →
    ∃ ρ' tk, Gave ρ H w ρ' H' tk ∧ TkPs ρ' w ps ls vs tk
  | [], [], ls, vs, ρ, H, H', hH, hu, hv, he => by
    simp only [takePs, Option.some.injEq, Prod.mk.injEq] at he
    obtain ⟨rfl, rfl⟩ := he
    simp only [VRels] at hv; subst hv
    exact ⟨ρ, [], Gave.refl hH hu, rfl, rfl, rfl⟩
  | [], _ :: _, ls, vs, ρ, H, H', hH, hu, hv, he => by simp [takePs] at he
  | _ :: _, [], ls, vs, ρ, H, H', hH, hu, hv, he => by simp [takePs] at he
  | p :: r, s :: ss, ls, vs, ρ, H, H', hH, hu, hv, he => by
    simp only [takePs] at he
    simp only [VRels] at hv
    obtain ⟨v, vs', rfl, hv1, hv2⟩ := hv
    split at he
    · rename_i cs hc
      split at he
      · rename_i l H1 h1
        split at he
        · rename_i ls' H2 h2
          simp only [Option.some.injEq, Prod.mk.injEq] at he
          obtain ⟨rfl, rfl⟩ := he
          have key : ∃ us : List Value, VRels ρ w cs us ∧ (p.ag = true → ∃ a : Array Value, v = .agg a ∧ us = a.toList) ∧ (p.ag = false → us = [v]) := by
            cases hag : p.ag with
            | true =>
              rw [hag] at hc
              simp only [cellsP] at hc
              split at hc
              · simp only [Option.some.injEq] at hc; subst hc
                simp only [VRel] at hv1
                obtain ⟨a, rfl, h5⟩ := hv1
                exact ⟨a.toList, h5, fun _ => ⟨a, rfl, rfl⟩, by simp⟩
              · simp at hc
            | false =>
              rw [hag] at hc
              simp only [cellsP, Option.some.injEq] at hc; subst hc
              exact ⟨[v], VRels.single hv1, by simp, fun _ => rfl⟩
          obtain ⟨us, hus, ha, hb⟩ := key
          obtain ⟨ρ1, t1, g1, h3⟩ := zeJ hH hu hus h1
          obtain ⟨ρ2, t2, g2, h4⟩ := zhd g1.h g1.u (hv2.stepF g1.st) h2
          refine ⟨ρ2, t1 ++ t2, g1.trans g2, l, ls', v, vs', t1, t2, rfl, rfl, rfl, ?_, h4⟩
          cases hag : p.ag with
          | true =>
            obtain ⟨a, h5, h6⟩ := ha hag
            subst h6
            exact ⟨a, h5, h3.step g2.st⟩
          | false =>
            have h5 := hb hag
            subst h5
            exact h3.step g2.st
        · simp at he
      · simp at he
    · simp at he
theorem zeK {B : Nat → Prop} (hB : ∀ b, Free ρ w b → B b) (hd : ∀ {K : Kd} {s : SV} {x : K.T} {u : Value}, decH true H K [s] = some x → VRel ρ w s u → CRel w B K x [u]) :
    ∀ {cs : List (Kd × Bool)} {l : List SV} {x : CsT cs} {us : List Value} {tk : List Nat}, viewCs H cs l = some x → TkRel ρ w cs l us tk → CsOut w B cs x us tk
  | [], l, x, us, tk, h, ht => by
    simp only [TkRel] at ht
    exact ⟨ht.2.1, ht.2.2⟩
  | (.list e, true) :: r, l, x, us, tk, h, ht => by
    simp only [TkRel] at ht
    obtain ⟨e', xs, l', u, us', t1, t2, rfl, rfl, rfl, h4, h5⟩ := ht
    simp only [viewCs] at h
    split at h
    · rename_i y z h1 h2
      simp only [Option.some.injEq] at h; subst h
      unfold decH at h1
      simp only at h1
      split at h1
      · rename_i he
        subst he
        simp only [Option.some.injEq] at h1; subst h1
        simp only [CsOut]
        exact ⟨u, us', t1, t2, rfl, rfl, h4.mono hB, zeK hB hd h2 h5⟩
      · simp at h1
    · simp at h
  | (.list e, false) :: r, l, x, us, tk, h, ht | (.int _, _) :: r, l, x, us, tk, h, ht | (.bool, _) :: r, l, x, us, tk, h, ht | (.unit, _) :: r, l, x, us, tk, h, ht | (.pair _ _, _) :: r, l, x, us, tk, h, ht => by
    simp only [TkRel] at ht
    obtain ⟨s, l', u, us', rfl, rfl, h4, h5⟩ := ht
    simp only [viewCs] at h
    split at h
    · rename_i y z h1 h2
      simp only [Option.some.injEq] at h; subst h
      simp only [CsOut]
      exact ⟨u, us', rfl, hd h1 h4, zeK hB hd h2 h5⟩
    · simp at h
theorem zhe {B : Nat → Prop} (hB : ∀ b, Free ρ w b → B b) (hd : ∀ {K : Kd} {s : SV} {x : K.T} {u : Value}, decH true H K [s] = some x → VRel ρ w s u → CRel w B K x [u]) :
    ∀ {ps : List Pm} {ls : List SV} {x : PsT ps} {vs : List Value} {tk : List Nat}, viewPs H ps ls = some x → TkPs ρ w ps ls vs tk → PsOut w B ps x vs tk
  | [], l, x, us, tk, h, ht => by
    simp only [TkPs] at ht
    exact ⟨ht.2.1, ht.2.2⟩
  | p :: r, ls, x, vs, tk, h, ht => by
    simp only [TkPs] at ht
    obtain ⟨l, ls', v, vs', t1, t2, rfl, rfl, rfl, h4, h5⟩ := ht
    simp only [viewPs] at h
    split at h
    · rename_i cs hc
      split at h
      · rename_i y z h1 h2
        simp only [Option.some.injEq] at h; subst h
        simp only [PsOut]
        refine ⟨v, vs', t1, t2, rfl, rfl, ?_, zhe hB hd h2 h5⟩
        cases hag : p.ag with
        | true =>
          rw [hag] at hc h4
          simp only [cellsP, Option.some.injEq] at hc; subst hc
          obtain ⟨us, h6, h7⟩ := h4
          exact ⟨us, h6, zeK hB hd h1 h7⟩
        | false =>
          rw [hag] at hc h4
          simp only [cellsP, Option.some.injEq] at hc; subst hc
          have : l = [l.headD .junk] := by
            match l, h4 with
            | [], h4 =>
              exfalso
              match hcs : p.cs, h4 with
              | [], h4 => simp [TkRel] at h4
              | (.list e, true) :: r, h4 => simp [TkRel] at h4
              | (.list e, false) :: r, h4 | (.int _, _) :: r, h4 | (.bool, _) :: r, h4 | (.unit, _) :: r, h4 | (.pair _ _, _) :: r, h4 => simp [TkRel] at h4
            | [s], _ => rfl
            | s1 :: s2 :: l, h4 =>
              exfalso
              have len2 : ∀ {cs : List (Kd × Bool)} {l : List SV} {us : List Value} {tk : List Nat}, TkRel ρ w cs l us tk → l.length = us.length := by
                intro cs
                induction cs with
                | nil => intro l us tk h; simp only [TkRel] at h; rw [h.1, h.2.1]; rfl
                | cons c cs ih =>
                  intro l us tk h
                  match c, h with
                  | (.list e, true), h =>
                    simp only [TkRel] at h
                    obtain ⟨e', xs, l', u, us', t1, t2, rfl, rfl, rfl, _, h5⟩ := h
                    simp [ih h5]
                  | (.list e, false), h | (.int _, _), h | (.bool, _), h | (.unit, _), h | (.pair _ _, _), h =>
                    simp only [TkRel] at h
                    obtain ⟨s, l', u, us', rfl, rfl, _, h5⟩ := h
                    simp [ih h5]
              have := len2 h4
              simp at this
          rw [this] at h4
          exact zeK hB hd h1 h4
      · simp at h
    · simp at h
theorem zI : ∀ {ss : List SV} {k n : Nat}, Tm.get (env0 ss k) n = if k ≤ n then (match ss[n - k]? with | some s => s | none => .junk) else .junk
  | [], k, n => by simp [env0, Tm.get]
  | s :: ss, k, n => by
    simp only [env0]
    rw [Tm.get_cons, zI]
    by_cases h : k = n
    · subst h; simp
    · rw [if_neg h]
      by_cases h2 : k ≤ n
      · rw [if_pos (by omega), if_pos h2]
        have : n - k = (n - (k + 1)) + 1 := by omega
        rw [this]; rfl
      · rw [if_neg (by omega), if_neg h2]
theorem fn_spec {T : Tab} {f : FuncId} {fn : Func} {c : Code} {tf : TF} {frz : List Nat} {ann : List Norm} {cuts : List (Nat × Norm)} {ci : C} {j fuel : Nat} {rv : List (Nat × Option (Nat × Bool))} (hT : TabOK P T) (hmix : P.follows .mixedOrders = true)
    (hf : P.funcs[f]? = some fn) (hb : fn.body = some c) (hl : lightC P frz fn.ntmps ann cuts 0 c = some (ci, j)) (ho : okC T c ci = true) (hn : tf.ps.length ≤ fn.ntmps) (hrv : lightRes P fn.results.toList = some rv)
    (hrun : ∀ x, run T 0 fuel ci (env0 (svPs tf.ps x) 0) [] (endF rv tf.rs) = tf.fn x) : FnSpec P f tf := by
  intro w res vs x y hres hps hy
  refine calls_of_wp hf hb ?_
  let ρ0 : Map := ⟨fun _ => .unborn, res, fun _ => none⟩
  have hv : VRels ρ0 w (svPs tf.ps x) vs := zhb (fun b hb => ⟨hb.1, fun h => hb.2 (res_new.1 h), fun _ _ _ _ h => by cases h⟩) hps
  have hpl : ∀ {ps : List Pm} {x : PsT ps}, (svPs ps x).length = ps.length := by
    intro ps
    induction ps with
    | nil => intro x; rfl
    | cons p r ih => intro x; simp [svPs, ih]
  have hvl := hv.length
  rw [hpl] at hvl
  have hat : At P fn.ntmps ρ0 [] w (env0 (svPs tf.ps x) 0) { tmps := vs.toArray ++ Array.replicate (fn.ntmps - vs.toArray.size) undef, defers := [] } := by
    refine ⟨⟨by simp; omega, rfl, fun n => ?_⟩, ?_, fun _ _ => rfl⟩
    · rw [zI]
      simp only [Nat.zero_le, if_true, Nat.sub_zero]
      split
      · rename_i s hs
        obtain ⟨u, h1, h2⟩ := hv.get n s hs
        have : (vs.toArray ++ Array.replicate (fn.ntmps - vs.toArray.size) undef).getD n undef = u := by
          rw [Array.getD_eq_getD_getElem?, Array.getElem?_append_left (by have := (List.getElem?_eq_some_iff.1 h1).1; simpa using this)]
          simp [h1]
        rw [this]; exact h2
      · simp [VRel]
    · exact ⟨fun β h => by simp at h, fun β h => by simp at h, fun β h => by simp at h, fun _ _ _ _ _ _ _ _ _ h => by (cases h), fun _ _ _ _ _ h => by (cases h), fun b hb => hres b (res_new.1 hb), fun _ _ _ _ _ h => by (cases h)⟩
  have hrun' := hrun x
  rw [hy] at hrun'
  refine zy hT hmix c hl ho hat hrun' fun ex τ' H' ρ' a' w' h1 h2 h3 => ?_
  have key : (evalRes τ' H' rv).bind (fun ss => outPs tf.rs ss H') = some y → a'.defers = [] ∧ ∃ v, (results fn a'.tmps).run P w' = .ok v w' ∧ (fun e w' => ∃ us tk, e = Ending.returned (resU us) ∧ w'.os = w.os ∧ w'.tape = w.tape ∧ w'.output = w.output ∧ w.heap.size ≤ w'.heap.size ∧ (∀ b, b < w.heap.size → w'.heap[b]? = w.heap[b]?) ∧
      tk.Nodup ∧ (∀ b ∈ tk, w.heap.size ≤ b ∧ b < w'.heap.size) ∧ PsOut w' (fun b => b < w'.heap.size ∧ ¬ res b ∧ b ∉ tk) tf.rs y us.toList tk) (Ending.returned v) w' := by
    intro h4
    rw [Option.bind_eq_some_iff] at h4
    obtain ⟨ss, h5, h6⟩ := h4
    unfold outPs at h6
    split at h6
    · rename_i ls H2 h7
      obtain ⟨us, h8, h9⟩ := zE h1.t h1.h hrv h5
      obtain ⟨ρ2, tk, g, h10⟩ := zhd h1.h h1.u h9 h7
      have hout := zhe (B := fun b => Free ρ2 w' b ∨ (∃ β o n sz, ρ2 β = .at b o n sz) ∨ ρ2.vl b ≠ none) (fun b hb => .inl hb) (fun {K s x u} h11 h12 =>
        zm g.h (fun b hb => .inl hb) (fun _ b t hv => .inr (.inr (by rw [hv]; simp))) (fun γ b o n sz _ hg => .inr (.inl ⟨γ, o, n, sz, hg⟩)) h11 (VRels.single h12)) h6 h10
      have hr0 : ∀ b, res b → ρ'.res b := fun b hb => .inl (by rw [h2.res]; exact hb)
      have hvn : ∀ b, ρ2.vl b ≠ none → ρ'.res b ∧ ¬ res b := fun b hb => by
        rw [g.vl] at hb
        exact ⟨.inr hb, fun hr => hb (h2.vl b (hres b hr))⟩
      refine ⟨h1.t.2.1, resU us, h8, us, tk, rfl, h2.os, h2.tape, h2.output, h2.size, fun b hb => h2.kept b hb (fun _ _ _ _ h => by (cases h)) rfl, g.nd, fun b hb => ?_, ?_⟩
      · obtain ⟨_, β, o, n, sz, hg⟩ := g.tks b hb
        refine ⟨?_, h1.h.lt _ _ _ _ _ hg⟩
        rcases h2.img β b o n sz hg with ⟨_, _, _, _, h⟩ | h
        · cases h
        · exact h
      · refine PsOut.mono (.inl fun b hb => ?_) hout
        have old : b < w'.heap.size → ¬ ρ2.res b → b < w'.heap.size ∧ ¬ res b ∧ b ∉ tk := fun h h' => ⟨h, fun h => h' (g.res b (hr0 b h)), fun h => h' (g.tks b h).1⟩
        rcases hb with hb | ⟨β, o, n, sz, hb⟩ | hb
        · exact old hb.1 hb.2.1
        · exact old (g.h.lt _ _ _ _ _ hb) (g.h.resf _ _ _ _ _ hb)
        · refine ⟨g.h.resl b (.inr hb), (hvn b hb).2, fun h => ?_⟩
          obtain ⟨_, β, o, n, sz, h12⟩ := g.tks b h
          exact h1.h.resf _ _ _ _ _ h12 (hvn b hb).1
    · simp at h6
  cases ex with
  | exit id => simp [endF] at h3
  | normal =>
    refine key ?_
    simp only [endF] at h3
    split at h3
    · rename_i ss h4; rw [h4]; exact h3
    · simp at h3
  | ret =>
    refine key ?_
    simp only [endF] at h3
    split at h3
    · rename_i ss h4; rw [h4]; exact h3
    · simp at h3
end
end Go.Proofs.Ytmkekjmckdkcnaa.Den
namespace Go.Proofs.Ytmkekjmckdkcnaa.Den
open Go Go.RowKit
inductive Rf where
  | cells (cs : List (Kd × Bool)) (t : TypeId)
  | arr (K : Kd) (t : TypeId)
@[reducible] def Rf.T : Rf → Type
  | .cells cs _ => CsT cs
  | .arr K _ => List K.T
def Rf.blk : (rf : Rf) → rf.T → Blk
  | .cells cs t, c => .cells (svCs cs c) t cs.length
  | .arr K t, c => .arr K c t
def Rf.view (H : Heap) : (rf : Rf) → Option Blk → Option rf.T
  | .cells cs _, x => match x with
    | some (.cells ds _ z) => if z = cs.length then viewCs H cs ds else none
    | _ => none
  | .arr K _, x => match x with
    | some (.arr K' xs _) => if h : K' = K then some (h ▸ xs) else none
    | _ => none
structure TFU where
  rf : Rf
  ps : List Pm
  rs : List Pm
  fn : rf.T × PsT ps → Option (rf.T × PsT rs)
def TFU.te (tf : TFU) : TE where
  X := tf.rf.T × PsT tf.ps
  Y := tf.rf.T × PsT tf.rs
  mono := false
  view args H := match args with
    | .ptr β 0 :: r => match Rf.view [] tf.rf H[β]?, viewPs [] tf.ps r with
      | some c, some x => some (c, x)
      | _, _ => none
    | _ => none
  fn := tf.fn
  put _ y args H := match args with
    | .ptr β 0 :: _ => some (resV (putPs tf.rs y.2 (H.set β (tf.rf.blk y.1))).1, (putPs tf.rs y.2 (H.set β (tf.rf.blk y.1))).2)
    | _ => none
def RefAt (w : World) (B : Nat → Prop) : (rf : Rf) → rf.T → Nat → Nat → Prop
  | .cells cs _, c, b, o => ∃ C tC, w.heap[b]? = some (.cells C tC (0, 0)) ∧ o + cs.length ≤ C.size ∧ CsRel w B cs c ((C.toList.drop o).take cs.length)
  | .arr K _, c, b, o => ∃ C tC, w.heap[b]? = some (.cells C tC (0, 0)) ∧ o + c.length * K.sz ≤ C.size ∧ RowRel w B K c C o
def Rf.len : (rf : Rf) → rf.T → Nat
  | .cells _ _, _ => 1
  | .arr _ _, c => c.length
def Rf.sz : Rf → Nat
  | .cells cs _ => cs.length
  | .arr K _ => K.sz
section
variable {P : Program} {w : World} {ρ ρ' : Map} {H H' : Heap}
theorem CsRel.length {B : Nat → Prop} : ∀ {cs : List (Kd × Bool)} {x : CsT cs} {us : List Value}, CsRel w B cs x us → us.length = cs.length
  | [], _, _, h => by simp only [CsRel] at h; subst h; rfl
  | (K, f) :: r, x, us, h => by
    simp only [CsRel] at h
    obtain ⟨u, us', rfl, _, h2⟩ := h
    simp [h2.length]
theorem CsRel.mono {B B' : Nat → Prop} (hB : ∀ b, B b → B' b) : ∀ {cs : List (Kd × Bool)} {x : CsT cs} {us : List Value}, CsRel w B cs x us → CsRel w B' cs x us
  | [], _, _, h => h
  | (K, f) :: r, x, us, h => by
    simp only [CsRel] at h ⊢
    obtain ⟨u, us', h1, h2, h3⟩ := h
    exact ⟨u, us', h1, CRel.mono hB (fun _ _ => rfl) h2, CsRel.mono hB h3⟩
theorem RefAt.mono {B B' : Nat → Prop} (hB : ∀ b, B b → B' b) {rf : Rf} {c : rf.T} {b o : Nat} (h : RefAt w B rf c b o) : RefAt w B' rf c b o := by
  cases rf with
  | cells cs t =>
    simp only [RefAt] at h ⊢
    obtain ⟨C, tC, h1, h2, h3⟩ := h
    exact ⟨C, tC, h1, h2, CsRel.mono hB h3⟩
  | arr K t =>
    simp only [RefAt] at h ⊢
    obtain ⟨C, tC, h1, h2, h3⟩ := h
    exact ⟨C, tC, h1, h2, fun i x hx => by
      obtain ⟨es, h4, h5⟩ := h3 i x hx
      exact ⟨es, CRel.mono hB (fun _ _ => rfl) h4, h5⟩⟩
theorem RefAt.lt {B : Nat → Prop} {rf : Rf} {c : rf.T} {b o : Nat} (h : RefAt w B rf c b o) : b < w.heap.size := by
  cases rf with
  | cells cs t =>
    simp only [RefAt] at h
    obtain ⟨C, tC, h1, _⟩ := h
    exact (Array.getElem?_eq_some_iff.1 h1).1
  | arr K t =>
    simp only [RefAt] at h
    obtain ⟨C, tC, h1, _⟩ := h
    exact (Array.getElem?_eq_some_iff.1 h1).1
theorem RefAt.of_view {B : Nat → Prop} {H2 : Heap} (hd : ∀ {K : Kd} {s : SV} {x : K.T} {u : Value}, decH true H2 K [s] = some x → VRel ρ w s u → CRel w B K x [u]) (hB : ∀ b, Free ρ w b → B b) {rf : Rf} {c : rf.T} {β b o n sz : Nat}
    (hH : HRel ρ H w) (hr : ρ β = .at b o n sz) (h : Rf.view H2 rf H[β]? = some c) : RefAt w B rf c b o ∧ rf.sz = sz ∧ rf.len c * sz = n * sz ∧ (∀ K t, rf = .arr K t → rf.len c = n) ∧ β < H.length := by
  cases rf with
  | cells cs t =>
    simp only [Rf.view] at h
    split at h
    · rename_i ds t' z e
      split at h
      · rename_i hz
        subst hz
        obtain ⟨C, tC, hC, h1, h2, h3, h4, h5⟩ := zn hH e hr
        have hrel := CsRel.of_view hd h h4
        have hl := hrel.length
        have hdl : ds.length = cs.length := by
          simp only [List.length_take, List.length_drop, Array.length_toList] at hl; omega
        refine ⟨?_, h1, by simp only [Rf.len]; omega, fun _ _ h => (by cases h), (List.getElem?_eq_some_iff.1 e).1⟩
        simp only [RefAt]
        exact ⟨C, tC, hC, by omega, by rw [hdl] at hrel; exact hrel⟩
      · simp at h
    · simp at h
  | arr K t =>
    simp only [Rf.view] at h
    split at h
    · rename_i K' xs t' e
      split at h
      · rename_i hk
        subst hk
        simp only [Option.some.injEq] at h; subst h
        obtain ⟨h1, h2, C, tC, hC, h3, h4⟩ := row_raw hH e hr
        refine ⟨?_, h2, by simp only [Rf.len]; rw [h1], fun _ _ _ => h1, (List.getElem?_eq_some_iff.1 e).1⟩
        simp only [RefAt]
        exact ⟨C, tC, hC, by rw [h1, h2]; exact h3, fun i x hx => by
          obtain ⟨es, h5, h6⟩ := h4 i x hx
          exact ⟨es, CRel.mono hB (fun _ _ => rfl) h5, h6⟩⟩
      · simp at h
    · simp at h
end
end Go.Proofs.Ytmkekjmckdkcnaa.Den
namespace Go.Proofs.Ytmkekjmckdkcnaa.Den
open Go Go.RowKit
section
variable {w : World} {ρ : Map} {H : Heap}
end
end Go.Proofs.Ytmkekjmckdkcnaa.Den
namespace Go.Proofs.Ytmkekjmckdkcnaa.Den
open Go Go.RowKit
structure TFP where
  ps : List Pm
  cs : List (Kd × Bool)
  t : TypeId
  fn : PsT ps → Option (CsT cs)
def TFP.rf (tf : TFP) : Rf := .cells tf.cs tf.t
def TFP.te (tf : TFP) : TE where
  X := PsT tf.ps
  Y := CsT tf.cs
  mono := true
  view args H := viewPs [] tf.ps args
  fn := tf.fn
  put _ y _ H := some (.ptr H.length 0, H ++ [.cells (svCs tf.cs y) tf.t tf.cs.length])
section
variable {P : Program}
end
end Go.Proofs.Ytmkekjmckdkcnaa.Den
namespace Go.Proofs.Ytmkekjmckdkcnaa.Den
open Go Go.RowKit
def iter {V R : Type} (step : (V → Option R) → V → Option R) : Nat → V → Option R
  | 0, _ => none
  | n + 1, v => step (iter step n) v
theorem zsd {V R : Type} {T : Tab} {n0 fuel : Nat} {nm : Norm} {c : C} {k : Ex → Env → Heap → Option R} {enc : V → Env × Heap} {step : (V → Option R) → V → Option R}
    (h : ∀ (G : Env → Heap → Option R) (v : V), run T n0 fuel c (enc v).1 (enc v).2 (loopK n0 nm G k) = step (fun v => G (enc v).1 (enc v).2) v) :
    ∀ n, (fun v => loopN (run T n0 fuel c) n0 nm n (enc v).1 (enc v).2 k) = iter step n := by
  intro n
  induction n with
  | zero => rfl
  | succ n ih =>
    funext v
    show run T n0 fuel c (enc v).1 (enc v).2 (loopK n0 nm (fun τ H => loopN (run T n0 fuel c) n0 nm n τ H k) k) = step (iter step n) v
    rw [h, ih]
end Go.Proofs.Ytmkekjmckdkcnaa.Den
namespace Go.Proofs.Ytmkekjmckdkcnaa.Den
open Go Go.RowKit
def teIn : List (Nat × TE) → Nat → List TE
  | [], _ => []
  | (g, te) :: r, f => cond (Nat.beq g f) (te :: teIn r f) (teIn r f)
def methIn : List (Nat × String × Nat) → Nat → String → Option Nat
  | [], _, _ => none
  | (t, m, f) :: r, t', m' => cond (Nat.beq t t' && decide (m = m')) (some f) (methIn r t' m')
def Tab.of (l : List (Nat × TE)) (ms : List (Nat × String × Nat)) : Tab := ⟨teIn l, methIn ms, fun _ => none⟩
structure EntryOK (P : Program) (f : Nat) (te : TE) : Prop where
  snd : TESound P f te
  fn : ∃ fn, P.funcs[f]? = some fn ∧ fn.name ≠ "runtime.NumGoroutine" ∧ fn.body.isSome = true
  ext : te.mono = true → ∀ x y args H v H', te.put x y args H = some (v, H') → ∃ Δ, H' = H ++ Δ
  tch : ∀ x y args H v H', te.view args H = some x → te.put x y args H = some (v, H') → H.length ≤ H'.length ∧ ∀ γ, γ < H.length → γ ∉ (args.headD .junk).refs → H'[γ]? = H[γ]?
def MethOK (P : Program) (t : Nat) (m : String) (f : Nat) : Prop := ∀ v args w, (callMethod (.iface t v) m args).run P w = .ok (.enter f (#[v] ++ args)) w
theorem zJ {l : List (Nat × TE)} {f : Nat} {te : TE} (h : te ∈ teIn l f) : (f, te) ∈ l := by
  induction l with
  | nil => simp [teIn] at h
  | cons p r ih =>
    obtain ⟨g, te'⟩ := p
    simp only [teIn] at h
    cases hb : Nat.beq g f with
    | true =>
      rw [hb] at h
      rcases List.mem_cons.1 h with h | h
      · rw [Nat.eq_of_beq_eq_true hb, h]; simp
      · exact List.mem_cons_of_mem _ (ih h)
    | false =>
      rw [hb] at h
      exact List.mem_cons_of_mem _ (ih h)
theorem zmh {l : List (Nat × String × Nat)} {t : Nat} {m : String} {f : Nat} (h : methIn l t m = some f) : (t, m, f) ∈ l := by
  induction l with
  | nil => simp [methIn] at h
  | cons p r ih =>
    obtain ⟨t', m', f'⟩ := p
    simp only [methIn] at h
    rcases zc h with ⟨h1, h2⟩ | ⟨_, h2⟩
    · simp only [Bool.and_eq_true, decide_eq_true_eq] at h1
      simp at h2; subst h2
      rw [Nat.eq_of_beq_eq_true h1.1, h1.2]; simp
    · exact List.mem_cons_of_mem _ (ih h2)
theorem TabOK.of {P : Program} {l : List (Nat × TE)} {ms : List (Nat × String × Nat)} (h : ∀ p ∈ l, EntryOK P p.1 p.2) (hm : ∀ p ∈ ms, MethOK P p.1 p.2.1 p.2.2) : TabOK P (Tab.of l ms) where
  te f te hte := (h _ (zJ hte)).snd
  fn f te hte := (h _ (zJ hte)).fn
  ext f te hte := (h _ (zJ hte)).ext
  tch f te hte := (h _ (zJ hte)).tch
  meth t m f hf := hm _ (zmh hf)
  inl f ie h := by cases h
def inlIn : List (Nat × IE) → Nat → Option IE
  | [], _ => none
  | (g, ie) :: r, f => cond (Nat.beq g f) (some ie) (inlIn r f)
def Tab.ofI (l : List (Nat × TE)) (ms : List (Nat × String × Nat)) (is : List (Nat × IE)) : Tab := ⟨teIn l, methIn ms, inlIn is⟩
theorem zse {l : List (Nat × IE)} {f : Nat} {ie : IE} (h : inlIn l f = some ie) : (f, ie) ∈ l := by
  induction l with
  | nil => simp [inlIn] at h
  | cons p r ih =>
    obtain ⟨g, ie'⟩ := p
    simp only [inlIn] at h
    cases hb : Nat.beq g f with
    | true =>
      rw [hb] at h
      have h2 : ie' = ie := by simpa using h
      rw [Nat.eq_of_beq_eq_true hb, h2]; simp
    | false =>
      rw [hb] at h
      exact List.mem_cons_of_mem _ (ih h)
theorem TabOK.ofI {P : Program} {l : List (Nat × TE)} {ms : List (Nat × String × Nat)} {is : List (Nat × IE)} (h : ∀ p ∈ l, EntryOK P p.1 p.2) (hm : ∀ p ∈ ms, MethOK P p.1 p.2.1 p.2.2) (hi : ∀ p ∈ is, ISound P p.1 p.2) : TabOK P (Tab.ofI l ms is) where
  te f te hte := (h _ (zJ hte)).snd
  fn f te hte := (h _ (zJ hte)).fn
  ext f te hte := (h _ (zJ hte)).ext
  tch f te hte := (h _ (zJ hte)).tch
  meth t m f hf := hm _ (zmh hf)
  inl f ie h := hi _ (zse h)
theorem ext_tch {te : TE} {x : te.X} {y : te.Y} {args : List SV} {H : Heap} {v : SV} {H' : Heap} (h : ∃ Δ, H' = H ++ Δ) : H.length ≤ H'.length ∧ ∀ γ, γ < H.length → γ ∉ (args.headD .junk).refs → H'[γ]? = H[γ]? := by
  obtain ⟨Δ, rfl⟩ := h
  exact ⟨by simp, fun γ h _ => List.getElem?_append_left h⟩
theorem zsf : ∀ {cs : List (Kd × Bool)} {x : CsT cs} {H : Heap}, ∃ Δ, (putCs cs x H).2 = H ++ Δ := by
  intro cs
  induction cs with
  | nil => intro x H; exact ⟨[], by simp [putCs]⟩
  | cons c cs ih =>
    intro x H
    match c, x with
    | (.list e, true), x =>
      obtain ⟨Δ, h⟩ := ih (x := x.2) (H := H ++ [.arr e x.1 0])
      exact ⟨_, by simp only [putCs]; rw [h, List.append_assoc]⟩
    | (.list e, false), x => exact ih (x := x.2) (H := H)
    | (.int _, _), x => exact ih (x := x.2) (H := H)
    | (.bool, _), x => exact ih (x := x.2) (H := H)
    | (.unit, _), x => exact ih (x := x.2) (H := H)
    | (.pair _ _, _), x => exact ih (x := x.2) (H := H)
theorem zmi : ∀ {ps : List Pm} {y : PsT ps} {H : Heap}, ∃ Δ, (putPs ps y H).2 = H ++ Δ := by
  intro ps
  induction ps with
  | nil => intro y H; exact ⟨[], by simp [putPs]⟩
  | cons p ps ih =>
    intro y H
    obtain ⟨Δ1, h1⟩ := zsf (cs := p.cs) (x := y.1) (H := H)
    obtain ⟨Δ2, h2⟩ := ih (y := y.2) (H := (putCs p.cs y.1 H).2)
    exact ⟨Δ1 ++ Δ2, by simp only [putPs]; rw [h2, h1, List.append_assoc]⟩
theorem EntryOK.tf {P : Program} {f : Nat} {tf : TF} (hok : tf.ok = true) (h : FnSpec P f tf) (hf : ∃ fn, P.funcs[f]? = some fn ∧ fn.name ≠ "runtime.NumGoroutine" ∧ fn.body.isSome = true) : EntryOK P f tf.te where
  snd := zr9 hok h
  fn := hf
  ext _ x y args H v H' hp := by
    have h2 : (putPs tf.rs y H).2 = H' := congrArg Prod.snd (Option.some.inj hp)
    rw [← h2]; exact zmi
  tch x y args H v H' _ hp := by
    have h2 : (putPs tf.rs y H).2 = H' := congrArg Prod.snd (Option.some.inj hp)
    rw [← h2]; exact ext_tch (te := tf.te) (x := x) (y := y) (v := v) zmi
def C.loops : C → Nat
  | .seq a b => a.loops + b.loops
  | .cnd _ a b => a.loops + b.loops
  | .blk _ a => a.loops
  | .loop _ a => a.loops + 1
  | _ => 0
def C.loopAt : C → Nat → Option (Norm × C)
  | .seq a b, i => cond (Nat.blt i a.loops) (a.loopAt i) (b.loopAt (i - a.loops))
  | .cnd _ a b, i => cond (Nat.blt i a.loops) (a.loopAt i) (b.loopAt (i - a.loops))
  | .blk _ a, i => a.loopAt i
  | .loop nm a, i => match i with
    | 0 => some (nm, a)
    | i + 1 => a.loopAt i
  | _, _ => none
def C.nmAt (c : C) (i : Nat) : Norm := match c.loopAt i with | some p => p.1 | none => ⟨[], []⟩
def C.bdAt (c : C) (i : Nat) : C := match c.loopAt i with | some p => p.2 | none => .skip
def C.contAt {R : Type} (T : Tab) (n0 fuel : Nat) (G : Nat → Env → Heap → Option R) : C → Nat → Nat → (Ex → Env → Heap → Option R) → (Ex → Env → Heap → Option R)
  | .seq a b, j, i, k => cond (Nat.blt i a.loops) (a.contAt T n0 fuel G j i (seqK (run T n0 fuel b) k)) (b.contAt T n0 fuel G (j + a.loops) (i - a.loops) k)
  | .cnd _ a b, j, i, k => cond (Nat.blt i a.loops) (a.contAt T n0 fuel G j i k) (b.contAt T n0 fuel G (j + a.loops) (i - a.loops) k)
  | .blk id a, j, i, k => a.contAt T n0 fuel G j i (blkK id k)
  | .loop nm a, j, i, k => match i with
    | 0 => k
    | i + 1 => a.contAt T n0 fuel G (j + 1) i (loopK n0 nm (G j) k)
  | _, _, _, k => k
def C.lp {R V : Type} (T : Tab) (n0 fuel : Nat) (G : Nat → Env → Heap → Option R) (c : C) (k : Ex → Env → Heap → Option R) (i : Nat) (enc : V → Env × Heap) (v : V) : Option R :=
  loopN (run T n0 fuel (c.bdAt i)) n0 (c.nmAt i) fuel (enc v).1 (enc v).2 (c.contAt T n0 fuel G 0 i k)
theorem C.lp_iter {R V : Type} {T : Tab} {n0 fuel : Nat} {G : Nat → Env → Heap → Option R} {c : C} {k : Ex → Env → Heap → Option R} {i : Nat} {enc : V → Env × Heap} {step : (V → Option R) → V → Option R}
    (h : ∀ (g : Env → Heap → Option R) (v : V), run T n0 fuel (c.bdAt i) (enc v).1 (enc v).2 (loopK n0 (c.nmAt i) g (c.contAt T n0 fuel G 0 i k)) = step (fun v => g (enc v).1 (enc v).2) v) :
    c.lp T n0 fuel G k i enc = iter step fuel := zsd h fuel
end Go.Proofs.Ytmkekjmckdkcnaa.Den
namespace Go.Proofs.Ytmkekjmckdkcnaa.Den
open Go Go.RowKit
structure TFS where
  e : Kd
  ag : Bool
  cs : List (Kd × Bool)
  ps : List Pm
  rs : List Pm
  al : Bool
  fn : List e.T × CsT cs × PsT ps → Option (List e.T × PsT rs)
def firstV (ag : Bool) (β : Nat) (ss : List SV) : SV := match ag with
  | true => .agg (.own β :: ss)
  | false => .own β
def firstOf (ag : Bool) (s : SV) : Option (Nat × List SV) := match ag with
  | true => match s with
    | .agg (.own β :: ss) => some (β, ss)
    | _ => none
  | false => match s with
    | .own β => some (β, [])
    | _ => none
def Img.has (m : Img) (b : Nat) : Prop := ∃ o n sz, m = .at b o n sz
def OwnV (w : World) (m : Img) (u : Value) : Prop := match m with
  | .none_ => ∃ a, u = .slice a 0 0
  | .at b o n sz => ∃ c, n ≤ c ∧ u = .slice (some ⟨b, o, none⟩) n c ∧ Room w b (o + c * sz)
  | _ => False
def TFS.te (tf : TFS) : TE where
  X := List tf.e.T × CsT tf.cs × PsT tf.ps
  Y := List tf.e.T × PsT tf.rs
  mono := false
  view args H := match args with
    | a :: r => match firstOf tf.ag a with
      | some (β, ss) => match Rf.view [] (.arr tf.e 0) H[β]?, viewCs [] tf.cs ss, viewPs [] tf.ps r with
        | some c, some d, some x => some (c, d, x)
        | _, _, _ => none
      | none => none
    | _ => none
  fn := tf.fn
  put _ y args H := match args with
    | a :: _ => match firstOf tf.ag a with
      | some (β, _) => match tf.al with
        | true => some (.own β, H.set β (.arr tf.e y.1 0))
        | false => some (resV (putPs tf.rs y.2 (H.set β (.arr tf.e y.1 0))).1, (putPs tf.rs y.2 (H.set β (.arr tf.e y.1 0))).2)
      | none => none
    | _ => none
section
variable {P : Program} {w : World} {ρ ρ' : Map} {H H' : Heap}
theorem OwnV.vrel {m : Img} {u : Value} {β : Nat} (h : OwnV w m u) (e : ρ β = m) : VRel ρ w (.own β) u := by
  simp only [VRel, e]
  cases m with
  | none_ => exact h
  | «at» b o n sz => exact h
  | unborn => exact h
  | dead => exact absurd h (by simp [OwnV])
end
end Go.Proofs.Ytmkekjmckdkcnaa.Den
namespace Go.Proofs.Ytmkekjmckdkcnaa.Den
open Go Go.RowKit
section
variable {w : World} {ρ : Map} {H : Heap}
end
end Go.Proofs.Ytmkekjmckdkcnaa.Den
namespace Go.Proofs.Ytmkekjmckdkcnaa.Den
open Go Go.RowKit
inductive Sh where
  | nil
  | cell (K : Kd) (f : Nat) (r : Sh)
  | agg (i r : Sh)
  | ifc (t : TypeId) (i r : Sh)
  | fnc (g : FuncId) (r : Sh)
  | num (k : IntKind) (n : Int) (r : Sh)
  | nls (r : Sh)
@[reducible] def Sh.T : Sh → Type
  | .nil => Unit
  | .cell K _ r => K.T × r.T
  | .agg i r => i.T × r.T
  | .ifc _ i r => i.T × r.T
  | .fnc _ r => r.T
  | .num _ _ r => r.T
  | .nls r => r.T
def viewS (H : Heap) : (s : Sh) → List SV → Option s.T
  | .nil, [] => some ()
  | .cell K _ r, v :: vs => match decH true H K [v], viewS H r vs with
    | some x, some y => some (x, y)
    | _, _ => none
  | .agg i r, v :: vs => match v with
    | .agg cs => match viewS H i cs, viewS H r vs with
      | some x, some y => some (x, y)
      | _, _ => none
    | _ => none
  | .ifc t i r, v :: vs => match v with
    | .iface t' c => if t' = t then (match viewS H i [c], viewS H r vs with
      | some x, some y => some (x, y)
      | _, _ => none) else none
    | _ => none
  | .fnc g r, v :: vs => match v with
    | .fn (.func g') [] [] => if g' = g then viewS H r vs else none
    | _ => none
  | .num k n r, v :: vs => match v with
    | .int k' n' => if k' = k ∧ n' = n then viewS H r vs else none
    | _ => none
  | .nls r, v :: vs => match v with
    | .nils => viewS H r vs
    | _ => none
  | _, _ => none
def svS : (s : Sh) → s.T → List SV
  | .nil, _ => []
  | .cell K _ r, x => encS K x.1 :: svS r x.2
  | .agg i r, x => .agg (svS i x.1) :: svS r x.2
  | .ifc t i r, x => .iface t ((svS i x.1).headD .junk) :: svS r x.2
  | .fnc g r, x => .fn (.func g) [] [] :: svS r x
  | .num k n r, x => .int k n :: svS r x
  | .nls r, x => .nils :: svS r x
def rowsN {α : Type} (n : Nat) (xs : List (List α)) : List (List α) := (List.range n).map fun i => xs.getD i []
def ownRow (k n : Nat) : Blk := .cells ((List.range n).map fun i => .own (k + 1 + i)) 0 1
def innerB (e : Kd) (xs : List (List e.T)) : Heap := xs.map fun x => .arr e x 0
def putS : (s : Sh) → s.T → Heap → List SV × Heap
  | .nil, _, H => ([], H)
  | .cell (.list e) 1 r, x, H => (.own H.length :: (putS r x.2 (H ++ [.arr e x.1 0])).1, (putS r x.2 (H ++ [.arr e x.1 0])).2)
  | .cell (.list (.list e)) (n + 2) r, x, H => (.own H.length :: (putS r x.2 (H ++ (ownRow H.length n :: innerB e (rowsN n x.1)))).1, (putS r x.2 (H ++ (ownRow H.length n :: innerB e (rowsN n x.1)))).2)
  | .cell K _ r, x, H => (encS K x.1 :: (putS r x.2 H).1, (putS r x.2 H).2)
  | .agg i r, x, H => (.agg (putS i x.1 H).1 :: (putS r x.2 (putS i x.1 H).2).1, (putS r x.2 (putS i x.1 H).2).2)
  | .ifc t i r, x, H => (.iface t ((putS i x.1 H).1.headD .junk) :: (putS r x.2 (putS i x.1 H).2).1, (putS r x.2 (putS i x.1 H).2).2)
  | .fnc g r, x, H => (.fn (.func g) [] [] :: (putS r x H).1, (putS r x H).2)
  | .num k n r, x, H => (.int k n :: (putS r x H).1, (putS r x H).2)
  | .nls r, x, H => (.nils :: (putS r x H).1, (putS r x H).2)
structure TG where
  ps : Sh
  rs : Sh
  flat : Bool
  fn : ps.T → Option rs.T
def TG.te (tf : TG) : TE where
  X := tf.ps.T
  Y := tf.rs.T
  mono := true
  view args H := cond tf.flat (viewS H tf.ps args) (viewS [] tf.ps args)
  fn := tf.fn
  put _ y _ H := some (resV (putS tf.rs y H).1, (putS tf.rs y H).2)
def ShRel (w : World) (B : Nat → Prop) : (s : Sh) → s.T → List Value → Prop
  | .nil, _, us => us = []
  | .cell K _ r, x, us => ∃ u us', us = u :: us' ∧ CRel w B K x.1 [u] ∧ ShRel w B r x.2 us'
  | .agg i r, x, us => ∃ (a : Array Value) (us' : List Value), us = .agg a :: us' ∧ ShRel w B i x.1 a.toList ∧ ShRel w B r x.2 us'
  | .ifc t i r, x, us => ∃ u us', us = .iface t u :: us' ∧ ShRel w B i x.1 [u] ∧ ShRel w B r x.2 us'
  | .fnc g r, x, us => ∃ us', us = .func (.func g) #[] #[] :: us' ∧ ShRel w B r x us'
  | .num k n r, x, us => ∃ us', us = .int k n :: us' ∧ ShRel w B r x us'
  | .nls r, x, us => ∃ a us', us = .slice a 0 0 :: us' ∧ ShRel w B r x us'
def OwnRows (w : World) (B : Nat → Prop) (e : Kd) (n : Nat) (xs : List (List e.T)) (u : Value) (tk : List Nat) : Prop :=
  ∃ b o c C tC us t', tk = b :: t' ∧ u = .slice (some ⟨b, o, none⟩) n c ∧ n ≤ c ∧ w.heap[b]? = some (.cells C tC (0, 0)) ∧ o + c * 1 ≤ C.size ∧ us.length = n ∧
    (∀ (i : Nat) (v : Value), us[i]? = some v → C[o + i]? = some v) ∧ OwnL w B e (rowsN n xs) us t'
def ShOut (w : World) (B : Nat → Prop) : (s : Sh) → s.T → List Value → List Nat → Prop
  | .nil, _, us, tk => us = [] ∧ tk = []
  | .cell (.list e) 1 r, x, us, tk => ∃ u us' t1 t2, us = u :: us' ∧ tk = t1 ++ t2 ∧ OwnAt w B e x.1 u t1 ∧ ShOut w B r x.2 us' t2
  | .cell (.list (.list e)) (n + 2) r, x, us, tk => ∃ u us' t1 t2, us = u :: us' ∧ tk = t1 ++ t2 ∧ OwnRows w B e n x.1 u t1 ∧ ShOut w B r x.2 us' t2
  | .cell K _ r, x, us, tk => ∃ u us', us = u :: us' ∧ CRel w B K x.1 [u] ∧ ShOut w B r x.2 us' tk
  | .agg i r, x, us, tk => ∃ (a : Array Value) (us' : List Value) (t1 t2 : List Nat), us = .agg a :: us' ∧ tk = t1 ++ t2 ∧ ShOut w B i x.1 a.toList t1 ∧ ShOut w B r x.2 us' t2
  | .ifc t i r, x, us, tk => ∃ u us' t1 t2, us = .iface t u :: us' ∧ tk = t1 ++ t2 ∧ ShOut w B i x.1 [u] t1 ∧ ShOut w B r x.2 us' t2
  | .fnc g r, x, us, tk => ∃ us', us = .func (.func g) #[] #[] :: us' ∧ ShOut w B r x us' tk
  | .num k n r, x, us, tk => ∃ us', us = .int k n :: us' ∧ ShOut w B r x us' tk
  | .nls r, x, us, tk => ∃ a us', us = .slice a 0 0 :: us' ∧ ShOut w B r x us' tk
def Sh.flatOK : Sh → Bool
  | .nil => true
  | .cell (.list e) 1 r => e.noList && r.flatOK
  | .cell (.list (.list e)) (n + 2) r => e.noList && r.flatOK
  | .cell K _ r => K.noList && r.flatOK
  | .agg i r => i.flatOK && r.flatOK
  | .ifc _ i r => i.flatOK && r.flatOK
  | .fnc _ r => r.flatOK
  | .num _ _ r => r.flatOK
  | .nls r => r.flatOK
def TG.ok (tf : TG) : Bool := !tf.flat || tf.rs.flatOK
section
variable {w : World} {ρ : Map} {H : Heap}
theorem ShRel.of_view {B : Nat → Prop} (hd : ∀ {K : Kd} {s : SV} {x : K.T} {u : Value}, decH true H K [s] = some x → VRel ρ w s u → CRel w B K x [u]) : ∀ {s : Sh} {ss : List SV} {x : s.T} {us : List Value},
    viewS H s ss = some x → VRels ρ w ss us → ShRel w B s x us
  | .nil, [], x, us, h, hv => by simp only [VRels] at hv; exact hv
  | .nil, _ :: _, x, us, h, hv => by simp [viewS] at h
  | .cell K f r, [], x, us, h, hv | .agg i r, [], x, us, h, hv | .ifc t i r, [], x, us, h, hv | .fnc g r, [], x, us, h, hv | .num k n r, [], x, us, h, hv | .nls r, [], x, us, h, hv => by simp [viewS] at h
  | .cell K f r, s :: ss, x, us, h, hv => by
    simp only [viewS] at h
    split at h
    · rename_i y z h1 h2
      simp only [Option.some.injEq] at h; subst h
      simp only [VRels] at hv
      obtain ⟨u, us', rfl, h3, h4⟩ := hv
      exact ⟨u, us', rfl, hd h1 h3, ShRel.of_view hd h2 h4⟩
    · simp at h
  | .agg i r, s :: ss, x, us, h, hv => by
    simp only [viewS] at h
    split at h
    · rename_i cs
      split at h
      · rename_i y z h1 h2
        simp only [Option.some.injEq] at h; subst h
        simp only [VRels, VRel] at hv
        obtain ⟨u, us', rfl, ⟨a, rfl, h3⟩, h4⟩ := hv
        exact ⟨a, us', rfl, ShRel.of_view hd h1 h3, ShRel.of_view hd h2 h4⟩
      · simp at h
    · simp at h
  | .ifc t i r, s :: ss, x, us, h, hv => by
    simp only [viewS] at h
    split at h
    · rename_i t' c
      split at h
      · rename_i ht
        subst ht
        split at h
        · rename_i y z h1 h2
          simp only [Option.some.injEq] at h; subst h
          simp only [VRels, VRel] at hv
          obtain ⟨u, us', rfl, ⟨v, rfl, h3⟩, h4⟩ := hv
          exact ⟨v, us', rfl, ShRel.of_view hd h1 (VRels.single h3), ShRel.of_view hd h2 h4⟩
        · simp at h
      · simp at h
    · simp at h
  | .fnc g r, s :: ss, x, us, h, hv => by
    simp only [viewS] at h
    split at h
    · rename_i g'
      split at h
      · rename_i hg
        subst hg
        simp only [VRels, VRel] at hv
        obtain ⟨u, us', rfl, ⟨vf, vc, rfl, h1, h2⟩, h4⟩ := hv
        have e1 : vf = #[] := Array.toList_inj.1 (by simpa using h1)
        have e2 : vc = #[] := Array.toList_inj.1 (by simpa using h2)
        subst e1; subst e2
        exact ⟨us', rfl, ShRel.of_view hd h h4⟩
      · simp at h
    · simp at h
  | .num k n r, s :: ss, x, us, h, hv => by
    simp only [viewS] at h
    split at h
    · split at h
      · rename_i hg
        obtain ⟨rfl, rfl⟩ := hg
        simp only [VRels, VRel] at hv
        obtain ⟨u, us', rfl, rfl, h4⟩ := hv
        exact ⟨us', rfl, ShRel.of_view hd h h4⟩
      · simp at h
    · simp at h
  | .nls r, s :: ss, x, us, h, hv => by
    simp only [viewS] at h
    split at h
    · simp only [VRels, VRel] at hv
      obtain ⟨u, us', rfl, ⟨a, rfl⟩, h4⟩ := hv
      exact ⟨a, us', rfl, ShRel.of_view hd h h4⟩
    · simp at h
theorem svS_rel {B : Nat → Prop} (hB : ∀ b, B b → Free ρ w b) : ∀ {s : Sh} {x : s.T} {us : List Value}, ShRel w B s x us → VRels ρ w (svS s x) us
  | .nil, x, us, h => by simp only [ShRel] at h; subst h; simp [svS, VRels]
  | .cell K f r, x, us, h => by
    simp only [ShRel] at h
    obtain ⟨u, us', rfl, h1, h2⟩ := h
    simp only [svS, VRels]
    exact ⟨u, us', rfl, z5 hB h1, svS_rel hB h2⟩
  | .agg i r, x, us, h => by
    simp only [ShRel] at h
    obtain ⟨a, us', rfl, h1, h2⟩ := h
    simp only [svS, VRels, VRel]
    exact ⟨_, us', rfl, ⟨a, rfl, svS_rel hB h1⟩, svS_rel hB h2⟩
  | .ifc t i r, x, us, h => by
    simp only [ShRel] at h
    obtain ⟨u, us', rfl, h1, h2⟩ := h
    have h3 := svS_rel hB h1
    simp only [svS, VRels, VRel]
    refine ⟨_, us', rfl, ⟨u, rfl, ?_⟩, svS_rel hB h2⟩
    cases hs : svS i x.1 with
    | nil => rw [hs] at h3; simp [VRels] at h3
    | cons s l =>
      rw [hs] at h3
      simp only [VRels] at h3
      obtain ⟨u', us2, e, h4, _⟩ := h3
      simp at e
      simp only [List.headD_cons, e.1]; exact h4
  | .fnc g r, x, us, h => by
    simp only [ShRel] at h
    obtain ⟨us', rfl, h2⟩ := h
    simp only [svS, VRels, VRel]
    exact ⟨_, us', rfl, ⟨#[], #[], rfl, rfl, rfl⟩, svS_rel hB h2⟩
  | .num k n r, x, us, h => by
    simp only [ShRel] at h
    obtain ⟨us', rfl, h2⟩ := h
    simp only [svS, VRels, VRel]
    exact ⟨_, us', rfl, rfl, svS_rel hB h2⟩
  | .nls r, x, us, h => by
    simp only [ShRel] at h
    obtain ⟨a, us', rfl, h2⟩ := h
    simp only [svS, VRels, VRel]
    exact ⟨_, us', rfl, ⟨a, rfl⟩, svS_rel hB h2⟩
theorem OwnL.mono {B B' : Nat → Prop} {e : Kd} (hB : (∀ b, B b → B' b) ∨ e.noList = true) : ∀ {xs : List (List e.T)} {us : List Value} {tk : List Nat}, OwnL w B e xs us tk → OwnL w B' e xs us tk
  | [], _, _, h => h
  | x :: xs, us, tk, h => by
    simp only [OwnL] at h ⊢
    obtain ⟨u, us', t1, t2, h1, h2, h3, h4⟩ := h
    exact ⟨u, us', t1, t2, h1, h2, hB.elim (fun hb => h3.mono hb) (fun hn => h3.noList hn), OwnL.mono hB h4⟩
theorem OwnRows.mono {B B' : Nat → Prop} {e : Kd} (hB : (∀ b, B b → B' b) ∨ e.noList = true) {n : Nat} {xs : List (List e.T)} {u : Value} {tk : List Nat} (h : OwnRows w B e n xs u tk) : OwnRows w B' e n xs u tk := by
  obtain ⟨b, o, c, C, tC, us, t', h1, h2, h3, h4, h5, h6, h7, h8⟩ := h
  exact ⟨b, o, c, C, tC, us, t', h1, h2, h3, h4, h5, h6, h7, h8.mono hB⟩
def plainC : Kd → Nat → Bool
  | .list _, 1 => false
  | .list (.list _), _ + 2 => false
  | _, _ => true
theorem ShOut.plain {B : Nat → Prop} {K : Kd} {f : Nat} {r : Sh} (hp : plainC K f = true) {x : (Sh.cell K f r).T} {us : List Value} {tk : List Nat} :
    ShOut w B (.cell K f r) x us tk ↔ ∃ u us', us = u :: us' ∧ CRel w B K x.1 [u] ∧ ShOut w B r x.2 us' tk := by
  unfold plainC at hp
  split at hp
  · cases hp
  · cases hp
  · rename_i h1 h2
    rw [ShOut]
    · exact fun e _ h3 h4 _ => h1 e h3 h4
    · exact fun e n _ h3 h4 _ => h2 e n h3 h4
theorem zsg {K : Kd} {f : Nat} {r : Sh} (hp : plainC K f = true) : (Sh.cell K f r).flatOK = (K.noList && r.flatOK) := by
  unfold plainC at hp
  split at hp
  · cases hp
  · cases hp
  · rename_i h1 h2
    rw [Sh.flatOK]
    · exact h1
    · exact h2
theorem cellCases (K : Kd) (f : Nat) : plainC K f = true ∨ (∃ e, K = .list e ∧ f = 1) ∨ ∃ e n, K = .list (.list e) ∧ f = n + 2 := by
  cases h : plainC K f with
  | true => exact .inl rfl
  | false =>
    unfold plainC at h
    split at h
    · exact .inr (.inl ⟨_, rfl, rfl⟩)
    · exact .inr (.inr ⟨_, _, rfl, rfl⟩)
    · cases h
theorem ShOut.mono {B B' : Nat → Prop} : ∀ {s : Sh} {x : s.T} {us : List Value} {tk : List Nat}, ((∀ b, B b → B' b) ∨ s.flatOK = true) → ShOut w B s x us tk → ShOut w B' s x us tk
  | .nil, x, us, tk, hB, h => h
  | .cell K f r, x, us, tk, hB, h => by
    rcases cellCases K f with hp | ⟨e, rfl, rfl⟩ | ⟨e, n, rfl, rfl⟩
    · rw [ShOut.plain hp] at h ⊢
      rw [zsg hp, Bool.and_eq_true] at hB
      obtain ⟨u, us', h1, h2, h3⟩ := h
      exact ⟨u, us', h1, hB.elim (fun hb => CRel.mono hb (fun _ _ => rfl) h2) (fun hn => zc4 hn.1 h2), ShOut.mono (hB.imp id fun hn => hn.2) h3⟩
    · simp only [Sh.flatOK, Bool.and_eq_true] at hB
      simp only [ShOut] at h ⊢
      obtain ⟨u, us', t1, t2, h1, h2, h3, h4⟩ := h
      exact ⟨u, us', t1, t2, h1, h2, hB.elim (fun hb => h3.mono hb) (fun hn => h3.noList hn.1), ShOut.mono (hB.imp id fun hn => hn.2) h4⟩
    · simp only [Sh.flatOK, Bool.and_eq_true] at hB
      simp only [ShOut] at h ⊢
      obtain ⟨u, us', t1, t2, h1, h2, h3, h4⟩ := h
      exact ⟨u, us', t1, t2, h1, h2, h3.mono (hB.imp id fun hn => hn.1), ShOut.mono (hB.imp id fun hn => hn.2) h4⟩
  | .agg i r, x, us, tk, hB, h => by
    simp only [Sh.flatOK, Bool.and_eq_true] at hB
    simp only [ShOut] at h ⊢
    obtain ⟨a, us', t1, t2, h1, h2, h3, h4⟩ := h
    exact ⟨a, us', t1, t2, h1, h2, ShOut.mono (hB.imp id fun hn => hn.1) h3, ShOut.mono (hB.imp id fun hn => hn.2) h4⟩
  | .ifc t i r, x, us, tk, hB, h => by
    simp only [Sh.flatOK, Bool.and_eq_true] at hB
    simp only [ShOut] at h ⊢
    obtain ⟨u, us', t1, t2, h1, h2, h3, h4⟩ := h
    exact ⟨u, us', t1, t2, h1, h2, ShOut.mono (hB.imp id fun hn => hn.1) h3, ShOut.mono (hB.imp id fun hn => hn.2) h4⟩
  | .fnc g r, x, us, tk, hB, h => by
    simp only [Sh.flatOK] at hB
    simp only [ShOut] at h ⊢
    obtain ⟨us', h1, h2⟩ := h
    exact ⟨us', h1, ShOut.mono hB h2⟩
  | .num k n r, x, us, tk, hB, h => by
    simp only [Sh.flatOK] at hB
    simp only [ShOut] at h ⊢
    obtain ⟨us', h1, h2⟩ := h
    exact ⟨us', h1, ShOut.mono hB h2⟩
  | .nls r, x, us, tk, hB, h => by
    simp only [Sh.flatOK] at hB
    simp only [ShOut] at h ⊢
    obtain ⟨a, us', h1, h2⟩ := h
    exact ⟨a, us', h1, ShOut.mono hB h2⟩
structure EntP (w : World) (B : Nat → Prop) (k : Nat) (bs : List Blk) (ms : List Img) (tk : List Nat) : Prop where
  len : ms.length = bs.length
  ok : ∀ (ρ : Map), Agree ρ k ms → (∀ b, B b → Free ρ w b) → ∀ (i : Nat) (x : Blk) (m : Img), bs[i]? = some x → ms[i]? = some m → (m = .none_ ∧ ∃ e, x = .arr e [] 0) ∨ ∃ b o n sz, m = .at b o n sz ∧ BRel ρ w b o n sz x
  mem : ∀ (i : Nat) (b o n sz : Nat), ms[i]? = some (.at b o n sz) → b ∈ tk
  inj : tk.Nodup → ∀ (i j : Nat) (b o n sz o' n' sz' : Nat), ms[i]? = some (.at b o n sz) → ms[j]? = some (.at b o' n' sz') → i = j
theorem EntP.nil {B : Nat → Prop} {k : Nat} : EntP w B k [] [] [] := ⟨rfl, fun _ _ _ i x m h => by simp at h, fun i b o n sz h => by simp at h, fun _ i j b o n sz o' n' sz' h => by simp at h⟩
theorem EntP.append {B : Nat → Prop} {k : Nat} {bs bs' : List Blk} {ms ms' : List Img} {tk tk' : List Nat} (h1 : EntP w B k bs ms tk) (h2 : EntP w B (k + bs.length) bs' ms' tk') : EntP w B k (bs ++ bs') (ms ++ ms') (tk ++ tk') where
  len := by rw [List.length_append, List.length_append, h1.len, h2.len]
  ok ρ ha hf i x m hx hm := by
    have ha2 := ha.split
    rw [h1.len] at ha2
    rcases Nat.lt_or_ge i bs.length with hi | hi
    · rw [List.getElem?_append_left hi] at hx
      rw [List.getElem?_append_left (by rw [h1.len]; exact hi)] at hm
      exact h1.ok ρ ha2.1 hf i x m hx hm
    · rw [List.getElem?_append_right hi] at hx
      rw [List.getElem?_append_right (by rw [h1.len]; exact hi), h1.len] at hm
      exact h2.ok ρ ha2.2 hf _ x m hx hm
  mem i b o n sz hm := by
    rcases Nat.lt_or_ge i ms.length with hi | hi
    · rw [List.getElem?_append_left hi] at hm
      exact List.mem_append.2 (.inl (h1.mem i b o n sz hm))
    · rw [List.getElem?_append_right hi] at hm
      exact List.mem_append.2 (.inr (h2.mem _ b o n sz hm))
  inj hnd i j b o n sz o' n' sz' hi hj := by
    obtain ⟨n1, n2, n3⟩ := List.nodup_append.1 hnd
    rcases Nat.lt_or_ge i ms.length with ci | ci <;> rcases Nat.lt_or_ge j ms.length with cj | cj
    · rw [List.getElem?_append_left ci] at hi
      rw [List.getElem?_append_left cj] at hj
      exact h1.inj n1 i j b o n sz o' n' sz' hi hj
    · rw [List.getElem?_append_left ci] at hi
      rw [List.getElem?_append_right cj] at hj
      exact absurd rfl (n3 b (h1.mem _ _ _ _ _ hi) b (h2.mem _ _ _ _ _ hj))
    · rw [List.getElem?_append_right ci] at hi
      rw [List.getElem?_append_left cj] at hj
      exact absurd rfl (n3 b (h1.mem _ _ _ _ _ hj) b (h2.mem _ _ _ _ _ hi))
    · rw [List.getElem?_append_right ci] at hi
      rw [List.getElem?_append_right cj] at hj
      have := h2.inj n2 _ _ b o n sz o' n' sz' hi hj
      omega
end
end Go.Proofs.Ytmkekjmckdkcnaa.Den
namespace Go.Proofs.Ytmkekjmckdkcnaa.Den
open Go Go.RowKit
section
variable {w : World} {ρ : Map} {H : Heap}
end
end Go.Proofs.Ytmkekjmckdkcnaa.Den
namespace Go.Proofs.Ytmkekjmckdkcnaa.Den
open Go Go.RowKit
def Sh.len : Sh → Nat
  | .nil => 0
  | .cell _ _ r | .agg _ r | .ifc _ _ r | .fnc _ r | .num _ _ r | .nls r => r.len + 1
def TkS (ρ : Map) (w : World) : Sh → List SV → List Value → List Nat → Prop
  | .nil, l, us, tk => l = [] ∧ us = [] ∧ tk = []
  | .cell (.list e) 1 r, l, us, tk => ∃ e' xs l' u us' t1 t2, l = .es e' xs :: l' ∧ us = u :: us' ∧ tk = t1 ++ t2 ∧ OwnAt w (Free ρ w) e' xs u t1 ∧ TkS ρ w r l' us' t2
  | .cell (.list (.list e)) (n + 2) r, l, us, tk => ∃ xs l' u us' t1 t2, l = .es (.list e) xs :: l' ∧ us = u :: us' ∧ tk = t1 ++ t2 ∧ OwnRows w (Free ρ w) e n xs u t1 ∧ TkS ρ w r l' us' t2
  | .cell _ _ r, l, us, tk => ∃ s l' u us', l = s :: l' ∧ us = u :: us' ∧ VRel ρ w s u ∧ TkS ρ w r l' us' tk
  | .agg i r, l, us, tk => ∃ (l1 l' : List SV) (a : Array Value) (us' : List Value) (t1 t2 : List Nat), l = .agg l1 :: l' ∧ us = .agg a :: us' ∧ tk = t1 ++ t2 ∧ TkS ρ w i l1 a.toList t1 ∧ TkS ρ w r l' us' t2
  | .ifc t i r, l, us, tk => ∃ (l1 l' : List SV) (u : Value) (us' : List Value) (t1 t2 : List Nat), l = .iface t (l1.headD .junk) :: l' ∧ us = .iface t u :: us' ∧ tk = t1 ++ t2 ∧ TkS ρ w i l1 [u] t1 ∧ TkS ρ w r l' us' t2
  | .fnc g r, l, us, tk => ∃ s l' u us', l = s :: l' ∧ us = u :: us' ∧ VRel ρ w s u ∧ TkS ρ w r l' us' tk
  | .num k n r, l, us, tk => ∃ s l' u us', l = s :: l' ∧ us = u :: us' ∧ VRel ρ w s u ∧ TkS ρ w r l' us' tk
  | .nls r, l, us, tk => ∃ s l' u us', l = s :: l' ∧ us = u :: us' ∧ VRel ρ w s u ∧ TkS ρ w r l' us' tk
section
variable {P : Program} {w : World} {ρ ρ' : Map} {H H' : Heap}
theorem TkS.plain {K : Kd} {f : Nat} {r : Sh} (hp : plainC K f = true) {l : List SV} {us : List Value} {tk : List Nat} :
    TkS ρ w (.cell K f r) l us tk ↔ ∃ s l' u us', l = s :: l' ∧ us = u :: us' ∧ VRel ρ w s u ∧ TkS ρ w r l' us' tk := by
  unfold plainC at hp
  split at hp
  · cases hp
  · cases hp
  · rename_i h1 h2
    rw [TkS]
    · exact h1
    · exact h2
theorem TkS.step (h : StepF ρ w ρ' w) : ∀ {s : Sh} {l : List SV} {us : List Value} {tk : List Nat}, TkS ρ w s l us tk → TkS ρ' w s l us tk
  | .nil, _, _, _, hr => hr
  | .cell K f r, l, us, tk, hr => by
    rcases cellCases K f with hp | ⟨e, rfl, rfl⟩ | ⟨e, n, rfl, rfl⟩
    · rw [TkS.plain hp] at hr ⊢
      obtain ⟨s, l', u, us', h1, h2, h3, h4⟩ := hr
      exact ⟨s, l', u, us', h1, h2, h3.stepF h, TkS.step h h4⟩
    · simp only [TkS] at hr ⊢
      obtain ⟨e', xs, l', u, us', t1, t2, h1, h2, h3, h4, h5⟩ := hr
      exact ⟨e', xs, l', u, us', t1, t2, h1, h2, h3, h4.mono h.free, TkS.step h h5⟩
    · simp only [TkS] at hr ⊢
      obtain ⟨xs, l', u, us', t1, t2, h1, h2, h3, h4, h5⟩ := hr
      exact ⟨xs, l', u, us', t1, t2, h1, h2, h3, h4.mono (.inl h.free), TkS.step h h5⟩
  | .agg i r, l, us, tk, hr => by
    simp only [TkS] at hr ⊢
    obtain ⟨l1, l', a, us', t1, t2, h1, h2, h3, h4, h5⟩ := hr
    exact ⟨l1, l', a, us', t1, t2, h1, h2, h3, TkS.step h h4, TkS.step h h5⟩
  | .ifc t i r, l, us, tk, hr => by
    simp only [TkS] at hr ⊢
    obtain ⟨l1, l', u, us', t1, t2, h1, h2, h3, h4, h5⟩ := hr
    exact ⟨l1, l', u, us', t1, t2, h1, h2, h3, TkS.step h h4, TkS.step h h5⟩
  | .fnc g r, l, us, tk, hr => by
    simp only [TkS] at hr ⊢
    obtain ⟨s, l', u, us', h1, h2, h3, h4⟩ := hr
    exact ⟨s, l', u, us', h1, h2, h3.stepF h, TkS.step h h4⟩
  | .num k n r, l, us, tk, hr => by
    simp only [TkS] at hr ⊢
    obtain ⟨s, l', u, us', h1, h2, h3, h4⟩ := hr
    exact ⟨s, l', u, us', h1, h2, h3.stepF h, TkS.step h h4⟩
  | .nls r, l, us, tk, hr => by
    simp only [TkS] at hr ⊢
    obtain ⟨s, l', u, us', h1, h2, h3, h4⟩ := hr
    exact ⟨s, l', u, us', h1, h2, h3.stepF h, TkS.step h h4⟩
theorem TkS.len : ∀ {s : Sh} {l : List SV} {us : List Value} {tk : List Nat}, TkS ρ w s l us tk → l.length = us.length
  | .nil, l, us, tk, h => by simp only [TkS] at h; rw [h.1, h.2.1]; rfl
  | .cell K f r, l, us, tk, h => by
    rcases cellCases K f with hp | ⟨e, rfl, rfl⟩ | ⟨e, n, rfl, rfl⟩
    · rw [TkS.plain hp] at h
      obtain ⟨s, l', u, us', rfl, rfl, _, h4⟩ := h
      simp [h4.len]
    · simp only [TkS] at h
      obtain ⟨e', xs, l', u, us', t1, t2, rfl, rfl, _, _, h5⟩ := h
      simp [h5.len]
    · simp only [TkS] at h
      obtain ⟨xs, l', u, us', t1, t2, rfl, rfl, _, _, h5⟩ := h
      simp [h5.len]
  | .agg i r, l, us, tk, h => by
    simp only [TkS] at h
    obtain ⟨l1, l', a, us', t1, t2, rfl, rfl, _, _, h5⟩ := h
    simp [h5.len]
  | .ifc t i r, l, us, tk, h => by
    simp only [TkS] at h
    obtain ⟨l1, l', a, us', t1, t2, rfl, rfl, _, _, h5⟩ := h
    simp [h5.len]
  | .fnc g r, l, us, tk, h => by
    simp only [TkS] at h
    obtain ⟨s, l', u, us', rfl, rfl, _, h4⟩ := h
    simp [h4.len]
  | .num k n r, l, us, tk, h => by
    simp only [TkS] at h
    obtain ⟨s, l', u, us', rfl, rfl, _, h4⟩ := h
    simp [h4.len]
  | .nls r, l, us, tk, h => by
    simp only [TkS] at h
    obtain ⟨s, l', u, us', rfl, rfl, _, h4⟩ := h
    simp [h4.len]
theorem svS_len : ∀ {s : Sh} {x : s.T}, (svS s x).length = s.len
  | .nil, _ => rfl
  | .cell K f r, x => by simp [svS, Sh.len, svS_len (s := r)]
  | .agg i r, x => by simp [svS, Sh.len, svS_len (s := r)]
  | .ifc t i r, x => by simp [svS, Sh.len, svS_len (s := r)]
  | .fnc g r, x => by simp [svS, Sh.len, svS_len (s := r)]
  | .num k n r, x => by simp [svS, Sh.len, svS_len (s := r)]
  | .nls r, x => by simp [svS, Sh.len, svS_len (s := r)]
end
end Go.Proofs.Ytmkekjmckdkcnaa.Den
namespace Go.Proofs.Ytmkekjmckdkcnaa.Den
open Go Go.RowKit
structure TFT where
  e : Kd
  ag : Bool
  cs : List (Kd × Bool)
  ps : Sh
  rs : List Pm
  al : Bool
  fn : List e.T × CsT cs × ps.T → Option (List e.T × PsT rs)
def TFT.te (tf : TFT) : TE where
  X := List tf.e.T × CsT tf.cs × tf.ps.T
  Y := List tf.e.T × PsT tf.rs
  mono := false
  view args H := match args with
    | a :: r => match firstOf tf.ag a with
      | some (β, ss) => match Rf.view [] (.arr tf.e 0) H[β]?, viewCs [] tf.cs ss, viewS [] tf.ps r with
        | some c, some d, some x => some (c, d, x)
        | _, _, _ => none
      | none => none
    | _ => none
  fn := tf.fn
  put _ y args H := match args with
    | a :: _ => match firstOf tf.ag a with
      | some (β, _) => match tf.al with
        | true => some (.own β, H.set β (.arr tf.e y.1 0))
        | false => some (resV (putPs tf.rs y.2 (H.set β (.arr tf.e y.1 0))).1, (putPs tf.rs y.2 (H.set β (.arr tf.e y.1 0))).2)
      | none => none
    | _ => none
section
variable {P : Program} {w : World} {ρ ρ' : Map} {H H' : Heap}
end
end Go.Proofs.Ytmkekjmckdkcnaa.Den
namespace Go.Proofs.Ytmkekjmckdkcnaa.Den
open Go Go.RowKit
section
variable {w : World} {ρ : Map} {H : Heap}
end
end Go.Proofs.Ytmkekjmckdkcnaa.Den
namespace Go.Proofs.Ytmkekjmckdkcnaa.Den
open Go Go.RowKit
section
variable {R : Type}
theorem zhf (T : Tab) : ∀ (gs : List GI) (τ : Env) (H : Heap) (k : Env → Heap → Option R), runR T gs τ H k = (runR T gs τ H fun τ H => some (τ, H)).bind fun p => k p.1 p.2
  | [], τ, H, k => rfl
  | gi :: r, τ, H, k => by
    rw [zeB]; conv => rhs; rw [zeB]
    rw [Option.bind_assoc]
    congr 1; funext p; exact zhf T r p.1 p.2 k
theorem zhg (T : Tab) : ∀ (gs : List GI) (tc rd : List Nat) (τ : Env) (H : Heap) (k : Env → Heap → Option R), runRD T gs tc rd τ H k = (runRD T gs tc rd τ H fun τ H => some (τ, H)).bind fun p => k p.1 p.2
  | [], tc, rd, τ, H, k => rfl
  | gi :: r, tc, rd, τ, H, k => by
    simp only [runRD]
    rw [zu]
    congr 1
    rw [zeA]; conv => rhs; rw [zeA]
    rw [Option.bind_assoc]
    congr 1; funext p; exact zhg T r _ _ p.1 p.2 k
abbrev ES := Ex × Env × Heap
theorem zsh {f : Env → Heap → (Ex → Env → Heap → Option R) → Option R} {f' : Env → Heap → (Ex → Env → Heap → Option ES) → Option ES} {k : Ex → Env → Heap → Option R}
    (h : ∀ τ H, f τ H k = (f' τ H fun e τ H => some (e, τ, H)).bind fun p => k p.1 p.2.1 p.2.2) (e : Ex) (τ : Env) (H : Heap) :
    seqK f k e τ H = (seqK f' (fun e τ H => some (e, τ, H)) e τ H).bind fun p => k p.1 p.2.1 p.2.2 := by
  cases e with
  | normal => exact h τ H
  | exit i => rfl
  | ret => rfl
theorem zsi {id : Nat} {k : Ex → Env → Heap → Option R} (e : Ex) (τ : Env) (H : Heap) :
    blkK id k e τ H = (blkK id (fun e τ H => some ((e, τ, H) : ES)) e τ H).bind fun p => k p.1 p.2.1 p.2.2 := by
  cases e with
  | exit i => simp only [blkK]; rw [zu]; rfl
  | normal => rfl
  | ret => rfl
theorem zhh {n0 : Nat} {nm : Norm} {G : Env → Heap → Option R} {G' : Env → Heap → Option ES} {k : Ex → Env → Heap → Option R}
    (h : ∀ τ H, G τ H = (G' τ H).bind fun p => k p.1 p.2.1 p.2.2) (τ : Env) (H : Heap) : normK n0 nm G τ H = (normK n0 nm G' τ H).bind fun p => k p.1 p.2.1 p.2.2 := by
  unfold normK
  split
  · exact h _ _
  · rfl
theorem zsj {n0 : Nat} {nm : Norm} {G : Env → Heap → Option R} {G' : Env → Heap → Option ES} {k : Ex → Env → Heap → Option R}
    (h : ∀ τ H, G τ H = (G' τ H).bind fun p => k p.1 p.2.1 p.2.2) (e : Ex) (τ : Env) (H : Heap) :
    loopK n0 nm G k e τ H = (loopK n0 nm G' (fun e τ H => some (e, τ, H)) e τ H).bind fun p => k p.1 p.2.1 p.2.2 := by
  cases e with
  | normal => exact zhh h τ H
  | exit i => rfl
  | ret => rfl
theorem zhi {f : (R : Type) → Env → Heap → (Ex → Env → Heap → Option R) → Option R} (hf : ∀ (R : Type) (τ : Env) (H : Heap) (k : Ex → Env → Heap → Option R), f R τ H k = (f ES τ H fun e τ H => some (e, τ, H)).bind fun p => k p.1 p.2.1 p.2.2)
    {τ : Env} {H : Heap} {k : Ex → Env → Heap → Option R} {k' : Ex → Env → Heap → Option ES} {k2 : Ex → Env → Heap → Option R} (h : ∀ e τ H, k e τ H = (k' e τ H).bind fun p => k2 p.1 p.2.1 p.2.2) :
    f R τ H k = (f ES τ H k').bind fun p => k2 p.1 p.2.1 p.2.2 := by
  rw [hf R]; conv => rhs; rw [hf ES]
  rw [Option.bind_assoc]
  congr 1; funext p; exact h _ _ _
theorem zmj {n0 : Nat} {nm : Norm} {f : (R : Type) → Env → Heap → (Ex → Env → Heap → Option R) → Option R} (hf : ∀ (R : Type) (τ : Env) (H : Heap) (k : Ex → Env → Heap → Option R), f R τ H k = (f ES τ H fun e τ H => some (e, τ, H)).bind fun p => k p.1 p.2.1 p.2.2) :
    ∀ (n : Nat) (τ : Env) (H : Heap) (k : Ex → Env → Heap → Option R), loopN (f R) n0 nm n τ H k = (loopN (f ES) n0 nm n τ H fun e τ H => some (e, τ, H)).bind fun p => k p.1 p.2.1 p.2.2
  | 0, τ, H, k => rfl
  | n + 1, τ, H, k => by
    simp only [loopN]
    exact zhi hf fun e τ H => zsj (fun τ H => zmj hf n τ H k) e τ H
end
theorem run_nat (T : Tab) (n0 fuel : Nat) : ∀ (c : C) (R : Type) (τ : Env) (H : Heap) (k : Ex → Env → Heap → Option R), run T n0 fuel c τ H k = (run T n0 fuel c τ H fun e τ H => some ((e, τ, H) : ES)).bind fun p => k p.1 p.2.1 p.2.2
  | .skip, R, τ, H, k => rfl
  | .exit _, R, τ, H, k => rfl
  | .ret, R, τ, H, k => rfl
  | .bad, R, τ, H, k => rfl
  | .cut nm, R, τ, H, k => by
    simp only [run]
    exact zhh (G := k .normal) (G' := fun τ H => some ((Ex.normal, τ, H) : ES)) (k := k) (fun _ _ => rfl) τ H
  | .reg d gs, R, τ, H, k => by
    cases d with
    | true =>
      simp only [run]
      rw [zhg]; conv => rhs; rw [zhg]
      rw [Option.bind_assoc]; rfl
    | false =>
      simp only [run]
      rw [zhf]; conv => rhs; rw [zhf]
      rw [Option.bind_assoc]; rfl
  | .seq a b, R, τ, H, k => by
    simp only [run]
    exact zhi (f := fun R => run (R := R) T n0 fuel a) (fun R => run_nat T n0 fuel a R) fun e τ H => zsh (fun τ H => run_nat T n0 fuel b R τ H k) e τ H
  | .cnd s a b, R, τ, H, k => by
    simp only [run]
    split
    · rw [zu, run_nat T n0 fuel a R, run_nat T n0 fuel b R]
    · rfl
  | .blk id a, R, τ, H, k => by
    simp only [run]
    exact zhi (f := fun R => run (R := R) T n0 fuel a) (fun R => run_nat T n0 fuel a R) fun e τ H => zsi e τ H
  | .loop nm a, R, τ, H, k => by
    simp only [run]
    exact zhh (fun τ H => zmj (f := fun R => run (R := R) T n0 fuel a) (fun R => run_nat T n0 fuel a R) fuel τ H k) τ H
def inlEnd {R : Type} (n : Nat) (rv : List (Nat × Option (Nat × Bool))) (k : SV → Heap → Option R) (ex : Ex) (τ : Env) (H : Heap) : Option R :=
  match ex with
  | .exit _ => none
  | _ => match evalRes τ H rv with
    | some ss => cond (Nat.ble n H.length) (k (resV ss) H) none
    | none => none
def inlGo (np : Nat) (T : Tab) (fuel : Nat) (c : C) (rv : List (Nat × Option (Nat × Bool))) (R : Type) (args : List SV) (H : Heap) (k : SV → Heap → Option R) : Option R :=
  cond (Nat.beq args.length np) (run T H.length fuel c (env0 args 0) H (inlEnd H.length rv k)) none
theorem zsk {R : Type} {n : Nat} {rv : List (Nat × Option (Nat × Bool))} {k : SV → Heap → Option R} (ex : Ex) (τ : Env) (H : Heap) :
    inlEnd n rv k ex τ H = (inlEnd n rv (fun v H => some (v, H)) ex τ H).bind fun p => k p.1 p.2 := by
  unfold inlEnd
  cases ex with
  | exit i => rfl
  | normal => simp only; split <;> first | rfl | (rw [zu]; rfl)
  | ret => simp only; split <;> first | rfl | (rw [zu]; rfl)
theorem zsl (np : Nat) (T : Tab) (fuel : Nat) (c : C) (rv : List (Nat × Option (Nat × Bool))) (R : Type) (args : List SV) (H : Heap) (k : SV → Heap → Option R) :
    inlGo np T fuel c rv R args H k = (inlGo np T fuel c rv (SV × Heap) args H fun v H => some (v, H)).bind fun p => k p.1 p.2 := by
  unfold inlGo
  rw [zu, run_nat T H.length fuel c R]; conv => rhs; rw [run_nat T H.length fuel c (SV × Heap)]
  rw [Option.bind_assoc]
  congr 1
  congr 1; funext p
  exact zsk p.1 p.2.1 p.2.2
def inlIE (np : Nat) (T : Tab) (fuel : Nat) (c : C) (rv : List (Nat × Option (Nat × Bool))) : IE := ⟨inlGo np T fuel c rv, zsl np T fuel c rv⟩
theorem zc5 {P : Program} {T : Tab} {f : FuncId} {fn : Func} {c : Code} {np : Nat} {frz : List Nat} {ann : List Norm} {cuts : List (Nat × Norm)} {ci : C} {j fuel : Nat} {rv : List (Nat × Option (Nat × Bool))} (hT : TabOK P T) (hmix : P.follows .mixedOrders = true)
    (hf : P.funcs[f]? = some fn) (hb : fn.body = some c) (hl : lightC P frz fn.ntmps ann cuts 0 c = some (ci, j)) (ho : okC T c ci = true) (hn : np ≤ fn.ntmps) (hrv : lightRes P fn.results.toList = some rv)
    (hfn : ∃ fn, P.funcs[f]? = some fn ∧ fn.name ≠ "runtime.NumGoroutine" ∧ fn.body.isSome = true) : ISound P f (inlIE np T fuel ci rv) where
  fn := hfn
  snd := by
    intro ρ H w args vs v H' hH hu hv he
    simp only [inlIE, inlGo] at he
    obtain ⟨hnp, he⟩ := (zc he).resolve_right (by simp)
    have hnp := Nat.eq_of_beq_eq_true hnp
    have hvl := hv.length
    refine calls_of_wp hf hb ?_
    have hat : At P fn.ntmps ρ H w (env0 args 0) { tmps := vs.toArray ++ Array.replicate (fn.ntmps - vs.toArray.size) undef, defers := [] } := by
      refine ⟨⟨by simp; omega, rfl, fun n => ?_⟩, hH, hu⟩
      rw [zI]
      simp only [Nat.zero_le, if_true, Nat.sub_zero]
      split
      · rename_i s hs
        obtain ⟨u, h1, h2⟩ := hv.get n s hs
        have : (vs.toArray ++ Array.replicate (fn.ntmps - vs.toArray.size) undef).getD n undef = u := by
          rw [Array.getD_eq_getD_getElem?, Array.getElem?_append_left (by have := (List.getElem?_eq_some_iff.1 h1).1; simpa using this), List.getElem?_toArray, h1]
          rfl
        rw [this]; exact h2
      · simp [VRel]
    refine zy hT hmix c hl ho hat he fun ex τ' H2 ρ' a' w' h1 h2 h3 => ?_
    have hend : ∃ ss, evalRes τ' H2 rv = some ss ∧ H.length ≤ H2.length ∧ v = resV ss ∧ H' = H2 ∧ (ex = .normal ∨ ex = .ret) := by
      unfold inlEnd at h3
      cases ex with
      | exit i => cases h3
      | normal =>
        simp only at h3
        split at h3
        · rename_i ss h4
          obtain ⟨h5, h6⟩ := (zc h3).resolve_right (by simp)
          simp only [Option.some.injEq, Prod.mk.injEq] at h6
          exact ⟨ss, h4, Nat.le_of_ble_eq_true h5, h6.1.symm, h6.2.symm, .inl rfl⟩
        · cases h3
      | ret =>
        simp only at h3
        split at h3
        · rename_i ss h4
          obtain ⟨h5, h6⟩ := (zc h3).resolve_right (by simp)
          simp only [Option.some.injEq, Prod.mk.injEq] at h6
          exact ⟨ss, h4, Nat.le_of_ble_eq_true h5, h6.1.symm, h6.2.symm, .inr rfl⟩
        · cases h3
    obtain ⟨ss, h4, hlen, rfl, rfl, hex⟩ := hend
    obtain ⟨us, h8, h9⟩ := zE h1.t h1.h hrv h4
    have hst : Step ρ w ρ' w' := ⟨h2.os, h2.tape, h2.output, h2.size, h2.kept, h2.shape, h2.img, fun β hβ => h2.ref β (by
      rcases Nat.lt_or_ge β H.length with h | h
      · exact h
      · exact absurd (hu β h) hβ) hβ, h2.res, h2.vl, h2.vln⟩
    have hpost : a'.defers = [] ∧ ∃ v', (results fn a'.tmps).run P w' = .ok v' w' ∧ (fun e w' => ∃ u ρ', e = Ending.returned u ∧ Good false ρ H w (resV ss) H' u w' ρ') (Ending.returned v') w' := by
      exact ⟨h1.t.2.1, resU us, h8, resU us, ρ', rfl, hst, h1.h, zmf h9, hlen, fun β _ h => h1.u β h, by simp⟩
    rcases hex with rfl | rfl
    · exact hpost
    · exact hpost
theorem inlNil {P : Program} : ∀ p ∈ ([] : List (Nat × IE)), ISound P p.1 p.2 := fun _ h => nomatch h
theorem inlCons {P : Program} {f : Nat} {ie : IE} {l : List (Nat × IE)} (h : ISound P f ie) (t : ∀ p ∈ l, ISound P p.1 p.2) : ∀ p ∈ (f, ie) :: l, ISound P p.1 p.2 := List.forall_mem_cons.2 ⟨h, t⟩
end Go.Proofs.Ytmkekjmckdkcnaa.Den
namespace Go.Proofs.Ytmkekjmckdkcnaa.Den
open Go Go.RowKit
section
variable {w w' : World} {ρ ρ' : Map} {H H' : Heap}
theorem CRel.tree {B : Nat → Prop} : ∀ {K : Kd} {x : K.T} {cs : List Value}, K.noList = true → CRel w B K x cs → TreeC w K x cs []
  | .int k, _, _, _, h => ⟨h, rfl⟩
  | .bool, _, _, _, h => ⟨h, rfl⟩
  | .unit, _, _, _, h => ⟨h, rfl⟩
  | .pair a b, x, cs, hn, h => by
    simp only [Kd.noList, Bool.and_eq_true] at hn
    simp only [CRel] at h
    obtain ⟨c1, c2, rfl, h1, h2⟩ := h
    exact ⟨c1, c2, [], [], rfl, rfl, h1.tree hn.1, h2.tree hn.2⟩
  | .list e, _, _, hn, _ => by cases hn
theorem TreeC.noTk : ∀ {K : Kd} {x : K.T} {cs : List Value} {tk : List Nat}, K.noList = true → TreeC w K x cs tk → tk = []
  | .int k, _, _, _, _, h => h.2
  | .bool, _, _, _, _, h => h.2
  | .unit, _, _, _, _, h => h.2
  | .pair a b, x, cs, tk, hn, h => by
    simp only [Kd.noList, Bool.and_eq_true] at hn
    simp only [TreeC] at h
    obtain ⟨c1, c2, t1, t2, rfl, rfl, h3, h4⟩ := h
    rw [h3.noTk hn.1, h4.noTk hn.2]; rfl
  | .list e, _, _, _, hn, _ => by cases hn
theorem SeqL.noTk {α : Type} {P : α → List Value → List Nat → Prop} (hP : ∀ x c t, P x c t → t = []) : ∀ {xs : List α} {us : List Value} {tk : List Nat}, SeqL P xs us tk → tk = []
  | [], _, _, h => h.2
  | x :: xs, us, tk, h => by
    simp only [SeqL] at h
    obtain ⟨c, us', t1, t2, rfl, rfl, h3, h4⟩ := h
    rw [hP _ _ _ h3, SeqL.noTk hP h4]; rfl
theorem SeqL.len {α : Type} {P : α → List Value → List Nat → Prop} {sz : Nat} (hP : ∀ x c t, P x c t → c.length = sz) : ∀ {xs : List α} {us : List Value} {tk : List Nat}, SeqL P xs us tk → us.length = xs.length * sz
  | [], _, _, h => by rw [h.1]; simp
  | x :: xs, us, tk, h => by
    simp only [SeqL] at h
    obtain ⟨c, us', t1, t2, rfl, rfl, h3, h4⟩ := h
    rw [List.length_append, hP _ _ _ h3, SeqL.len hP h4, List.length_cons, Nat.add_mul, Nat.one_mul]; omega
theorem RowRel.seq {B : Nat → Prop} {e : Kd} (hn : e.noList = true) {C : Array Value} : ∀ {xs : List e.T} {o : Nat}, RowRel w B e xs C o → o + xs.length * e.sz ≤ C.size → SeqL (TreeC w e) xs ((C.toList.drop o).take (xs.length * e.sz)) []
  | [], o, _, _ => by simp [SeqL]
  | x :: xs, o, h, hb => by
    obtain ⟨es, h1, h2⟩ := h 0 x rfl
    have hl := h1.length
    rw [List.length_cons, Nat.add_mul, Nat.one_mul] at hb
    have ih := RowRel.seq hn (o := o + e.sz) (xs := xs) (fun i y hy => by
      obtain ⟨es', h3, h4⟩ := h (i + 1) y (by simpa using hy)
      refine ⟨es', h3, fun j u hu => ?_⟩
      rw [← h4 j u hu]; congr 1; rw [Nat.add_mul, Nat.one_mul]; omega) (by omega)
    have e1 : es = (C.toList.drop o).take e.sz := by
      refine List.ext_getElem? fun j => ?_
      rw [List.getElem?_take]
      split
      · rename_i hj
        have hu := List.getElem?_eq_getElem (l := es) (i := j) (by omega)
        rw [hu, List.getElem?_drop, Array.getElem?_toList]
        have := h2 j _ hu
        simpa using this.symm
      · rw [List.getElem?_eq_none (by omega)]
    refine ⟨es, (C.toList.drop (o + e.sz)).take (xs.length * e.sz), [], [], ?_, rfl, h1.tree hn, ih⟩
    rw [e1, List.length_cons, Nat.add_mul, Nat.one_mul, Nat.add_comm (xs.length * e.sz), List.take_add, List.drop_drop]
theorem SeqL.row {B : Nat → Prop} {e : Kd} {xs : List e.T} {us : List Value} {tk : List Nat} {C : Array Value} {o : Nat} (hn : e.noList = true) (h : SeqL (TreeC w e) xs us tk) (hc : ∀ (i : Nat) (v : Value), us[i]? = some v → C[o + i]? = some v) : RowRel w B e xs C o := by
  have ht := h.noTk fun _ _ _ h => h.noTk hn
  subst ht
  intro i x hx
  obtain ⟨c, t, h1, h2, h3⟩ := h.get (fun _ _ _ h => h.length) i x hx
  refine ⟨c, h1.crel (fun b hb => by have h9 := h2 b hb; simp at h9), fun j u hu => ?_⟩
  rw [Nat.add_assoc]
  exact hc _ _ (h3 j u hu)
def TreeF (w : World) : (K : Kd) → K.T → List Value → List (Nat × List Nat) → Prop
  | .int k, n, cs, ps => cs = [.int k n] ∧ ps = []
  | .bool, b, cs, ps => cs = [.bool b] ∧ ps = []
  | .unit, _, cs, ps => cs = [] ∧ ps = []
  | .pair a b, x, cs, ps => ∃ c1 c2 p1 p2, cs = c1 ++ c2 ∧ ps = p1 ++ p2 ∧ TreeF w a x.1 c1 p1 ∧ TreeF w b x.2 c2 p2
  | .list e, xs, cs, ps => (∃ a, cs = [.slice a 0 0] ∧ xs = [] ∧ ps = []) ∨
      ∃ b o c C tC us t', ps = [(b, t')] ∧ cs = [.slice (some ⟨b, o, none⟩) xs.length c] ∧ xs.length ≤ c ∧ w.heap[b]? = some (.cells C tC (0, 0)) ∧ o + c * e.sz ≤ C.size ∧ us.length = xs.length * e.sz ∧
        (∀ (i : Nat) (v : Value), us[i]? = some v → C[o + i]? = some v) ∧ SeqL (TreeC w e) xs us t'
def flatF (ps : List (Nat × List Nat)) : List Nat := ps.flatMap fun p => p.1 :: p.2
theorem zr {a b : List (Nat × List Nat)} : flatF (a ++ b) = flatF a ++ flatF b := by simp [flatF]
theorem zd {ps : List (Nat × List Nat)} {b : Nat} : b ∈ flatF ps ↔ ∃ p ∈ ps, b = p.1 ∨ b ∈ p.2 := by simp [flatF]
theorem TreeF.toC : ∀ {K : Kd} {x : K.T} {cs : List Value} {ps : List (Nat × List Nat)}, TreeF w K x cs ps → TreeC w K x cs (flatF ps)
  | .int k, _, _, _, h => by rw [h.2]; exact ⟨h.1, rfl⟩
  | .bool, _, _, _, h => by rw [h.2]; exact ⟨h.1, rfl⟩
  | .unit, _, _, _, h => by rw [h.2]; exact ⟨h.1, rfl⟩
  | .pair a b, x, cs, ps, h => by
    simp only [TreeF] at h
    obtain ⟨c1, c2, p1, p2, rfl, rfl, h3, h4⟩ := h
    exact ⟨c1, c2, _, _, rfl, zr, h3.toC, h4.toC⟩
  | .list e, xs, cs, ps, h => by
    simp only [TreeF] at h
    rcases h with ⟨a, rfl, rfl, rfl⟩ | ⟨b, o, c, C, tC, us, t', rfl, rfl, h2⟩
    · exact .inl ⟨a, rfl, rfl, rfl⟩
    · exact .inr ⟨b, o, c, C, tC, us, t', by simp [flatF], rfl, h2⟩
theorem TreeC.toF : ∀ {K : Kd} {x : K.T} {cs : List Value} {tk : List Nat}, TreeC w K x cs tk → ∃ ps, TreeF w K x cs ps ∧ flatF ps = tk
  | .int k, _, _, _, h => ⟨[], ⟨h.1, rfl⟩, h.2.symm⟩
  | .bool, _, _, _, h => ⟨[], ⟨h.1, rfl⟩, h.2.symm⟩
  | .unit, _, _, _, h => ⟨[], ⟨h.1, rfl⟩, h.2.symm⟩
  | .pair a b, x, cs, tk, h => by
    simp only [TreeC] at h
    obtain ⟨c1, c2, t1, t2, rfl, rfl, h3, h4⟩ := h
    obtain ⟨p1, h5, rfl⟩ := h3.toF
    obtain ⟨p2, h6, rfl⟩ := h4.toF
    exact ⟨p1 ++ p2, ⟨c1, c2, p1, p2, rfl, rfl, h5, h6⟩, zr⟩
  | .list e, xs, cs, tk, h => by
    simp only [TreeC] at h
    rcases h with ⟨a, rfl, rfl, rfl⟩ | ⟨b, o, c, C, tC, us, t', rfl, rfl, h2⟩
    · exact ⟨[], .inl ⟨a, rfl, rfl, rfl⟩, rfl⟩
    · exact ⟨[(b, t')], .inr ⟨b, o, c, C, tC, us, t', rfl, rfl, h2⟩, by simp [flatF]⟩
theorem TreeF.length {K : Kd} {x : K.T} {cs : List Value} {ps : List (Nat × List Nat)} (h : TreeF w K x cs ps) : cs.length = K.sz := h.toC.length
def readRows {α : Type} (f : List SV → Option (α × List Nat)) (sz : Nat) : Nat → List SV → Option (List α × List Nat)
  | 0, cs => match cs with | [] => some ([], []) | _ => none
  | n + 1, cs => match f (cs.take sz), readRows f sz n (cs.drop sz) with
    | some x, some r => some (x.1 :: r.1, x.2 ++ r.2)
    | _, _ => none
def readT (dp : Bool) (H : Heap) : (K : Kd) → List SV → Option (K.T × List Nat)
  | .int k, cs => match cs with
    | [.int k' n] => if k' = k then some (n, []) else none
    | _ => none
  | .bool, cs => match cs with
    | [.bool b] => some (b, [])
    | _ => none
  | .unit, cs => match cs with
    | [] => some ((), [])
    | _ => none
  | .pair a b, cs => match readT dp H a (cs.take a.sz), readT dp H b (cs.drop a.sz) with
    | some x, some y => some ((x.1, y.1), x.2 ++ y.2)
    | _, _ => none
  | .list e, cs => match cs with
    | [.nils] => some ([], [])
    | [.own γ] => match H[γ]? with
      | some (.arr e' xs _) => if h : e' = e then (if e.noList = true then some (h ▸ xs, [γ]) else none) else none
      | some (.tree e' xs) => if h : e' = e then some (h ▸ xs, [γ]) else none
      | some (.cells ds _ z) => if dp = true ∧ z = e.sz ∧ z ≠ 0 then (match readRows (readT dp H e) e.sz (ds.length / e.sz) ds with
        | some r => some (r.1, γ :: r.2)
        | none => none) else none
      | _ => none
    | _ => none
def Tok (ρ : Map) (ids : List Nat) (b : Nat) : Prop := ∃ γ ∈ ids, ∃ b0 o n sz, ρ γ = .at b0 o n sz ∧ (b = b0 ∨ ρ.vl b = some b0)
theorem Tok.sub {ids ids' : List Nat} {b : Nat} (h : Tok ρ ids b) (hs : ∀ γ ∈ ids, γ ∈ ids') : Tok ρ ids' b := by
  obtain ⟨γ, h1, h2⟩ := h
  exact ⟨γ, hs γ h1, h2⟩
theorem zhj (hH : HRel ρ H w) {i1 i2 : List Nat} (hd : ∀ γ ∈ i1, γ ∉ i2) {b : Nat} (h1 : Tok ρ i1 b) (h2 : Tok ρ i2 b) : False := by
  obtain ⟨γ, g1, b0, o, n, sz, g2, g3⟩ := h1
  obtain ⟨δ, k1, b1, o', n', sz', k2, k3⟩ := h2
  have key : b0 = b1 → False := fun e => by
    subst e
    exact hd γ g1 (by rw [hH.inj _ _ _ _ _ _ _ _ _ g2 k2]; exact k1)
  rcases g3 with rfl | g3 <;> rcases k3 with rfl | k3
  · exact key rfl
  · exact hH.resf _ _ _ _ _ g2 (.inr (by rw [k3]; simp))
  · exact hH.resf _ _ _ _ _ k2 (.inr (by rw [g3]; simp))
  · rw [g3] at k3; exact key (Option.some.inj k3)
theorem zmk (hH : HRel ρ H w) {e : Kd} {f : List SV → Option (e.T × List Nat)} (hf : ∀ {cs : List SV} {x : e.T} {ids : List Nat} {us : List Value}, f cs = some (x, ids) → VRels ρ w cs us → ids.Nodup → ∃ tk, TreeC w e x us tk ∧ tk.Nodup ∧ ∀ b ∈ tk, Tok ρ ids b) :
    ∀ {n : Nat} {cs : List SV} {xs : List e.T} {ids : List Nat} {us : List Value}, readRows f e.sz n cs = some (xs, ids) → VRels ρ w cs us → ids.Nodup → xs.length = n ∧ ∃ tk, SeqL (TreeC w e) xs us tk ∧ tk.Nodup ∧ ∀ b ∈ tk, Tok ρ ids b
  | 0, cs, xs, ids, us, h, hv, hnd => by
    simp only [readRows] at h
    split at h
    · simp only [Option.some.injEq, Prod.mk.injEq] at h
      obtain ⟨rfl, rfl⟩ := h
      simp only [VRels] at hv
      subst hv
      exact ⟨rfl, [], ⟨rfl, rfl⟩, List.nodup_nil, fun b h => (by cases h)⟩
    · cases h
  | n + 1, cs, xs, ids, us, h, hv, hnd => by
    simp only [readRows] at h
    split at h
    · rename_i x r h1 h2
      simp only [Option.some.injEq, Prod.mk.injEq] at h
      obtain ⟨rfl, rfl⟩ := h
      obtain ⟨x, i1⟩ := x
      obtain ⟨xs, i2⟩ := r
      obtain ⟨n1, n2, n3⟩ := List.nodup_append.1 hnd
      have hs := hv.split (n := e.sz)
      obtain ⟨t1, g1, g2, g3⟩ := hf h1 hs.1 n1
      obtain ⟨g4, t2, g5, g6, g7⟩ := zmk hH hf h2 hs.2 n2
      refine ⟨by simp [g4], t1 ++ t2, ⟨_, _, t1, t2, (List.take_append_drop e.sz us).symm, rfl, g1, g5⟩, List.nodup_append.2 ⟨g2, g6, fun b hb b' hb' e => ?_⟩, fun b hb => ?_⟩
      · subst e
        exact zhj hH (fun γ h1 h2 => n3 γ h1 γ h2 rfl) (g3 b hb) (g7 b hb')
      · rcases List.mem_append.1 hb with hb | hb
        · exact (g3 b hb).sub fun γ h => List.mem_append.2 (.inl h)
        · exact (g7 b hb).sub fun γ h => List.mem_append.2 (.inr h)
    · cases h
theorem zK {dp : Bool} (hH : HRel ρ H w) : ∀ {K : Kd} {cs : List SV} {x : K.T} {ids : List Nat} {us : List Value}, readT dp H K cs = some (x, ids) → VRels ρ w cs us → ids.Nodup →
    ∃ ps, TreeF w K x us ps ∧ (flatF ps).Nodup ∧ (∀ b ∈ flatF ps, Tok ρ ids b) ∧ (dp = false → ∀ p ∈ ps, ∃ γ ∈ ids, ∃ o n sz, ρ γ = .at p.1 o n sz ∧ ∀ b ∈ p.2, ρ.vl b = some p.1)
  | .int k, cs, x, ids, us, h, hv, hnd => by
    simp only [readT] at h
    split at h
    · split at h
      · rename_i he
        subst he
        simp only [Option.some.injEq, Prod.mk.injEq] at h
        obtain ⟨rfl, rfl⟩ := h
        obtain ⟨u, rfl, hu⟩ := hv.single'
        simp only [VRel] at hu
        exact ⟨[], ⟨by rw [hu], rfl⟩, List.nodup_nil, fun b h => (by cases h), fun _ p h => by cases h⟩
      · cases h
    · cases h
  | .bool, cs, x, ids, us, h, hv, hnd => by
    simp only [readT] at h
    split at h
    · simp only [Option.some.injEq, Prod.mk.injEq] at h
      obtain ⟨rfl, rfl⟩ := h
      obtain ⟨u, rfl, hu⟩ := hv.single'
      simp only [VRel] at hu
      exact ⟨[], ⟨by rw [hu], rfl⟩, List.nodup_nil, fun b h => (by cases h), fun _ p h => by cases h⟩
    · cases h
  | .unit, cs, x, ids, us, h, hv, hnd => by
    simp only [readT] at h
    split at h
    · simp only [Option.some.injEq, Prod.mk.injEq] at h
      obtain ⟨_, rfl⟩ := h
      simp only [VRels] at hv
      exact ⟨[], ⟨hv, rfl⟩, List.nodup_nil, fun b h => (by cases h), fun _ p h => by cases h⟩
    · cases h
  | .pair a b, cs, x, ids, us, h, hv, hnd => by
    simp only [readT] at h
    split at h
    · rename_i y z h1 h2
      simp only [Option.some.injEq, Prod.mk.injEq] at h
      obtain ⟨rfl, rfl⟩ := h
      obtain ⟨y, i1⟩ := y
      obtain ⟨z, i2⟩ := z
      obtain ⟨n1, n2, n3⟩ := List.nodup_append.1 hnd
      have hs := hv.split (n := a.sz)
      obtain ⟨p1, g1, g2, g3, g4⟩ := zK hH h1 hs.1 n1
      obtain ⟨p2, k1, k2, k3, k4⟩ := zK hH h2 hs.2 n2
      refine ⟨p1 ++ p2, ⟨_, _, p1, p2, (List.take_append_drop a.sz us).symm, rfl, g1, k1⟩, ?_, fun b hb => ?_, fun hdp p hp => ?_⟩
      · rw [zr]
        refine List.nodup_append.2 ⟨g2, k2, fun b hb b' hb' e => ?_⟩
        subst e
        exact zhj hH (fun γ h1 h2 => n3 γ h1 γ h2 rfl) (g3 b hb) (k3 b hb')
      · rw [zr] at hb
        rcases List.mem_append.1 hb with hb | hb
        · exact (g3 b hb).sub fun γ h => List.mem_append.2 (.inl h)
        · exact (k3 b hb).sub fun γ h => List.mem_append.2 (.inr h)
      · rcases List.mem_append.1 hp with hp | hp
        · obtain ⟨γ, h1, h2⟩ := g4 hdp p hp
          exact ⟨γ, List.mem_append.2 (.inl h1), h2⟩
        · obtain ⟨γ, h1, h2⟩ := k4 hdp p hp
          exact ⟨γ, List.mem_append.2 (.inr h1), h2⟩
    · cases h
  | .list e, cs, x, ids, us, h, hv, hnd => by
    simp only [readT] at h
    split at h
    · simp only [Option.some.injEq, Prod.mk.injEq] at h
      obtain ⟨rfl, rfl⟩ := h
      obtain ⟨u, rfl, hu⟩ := hv.single'
      simp only [VRel] at hu
      obtain ⟨a, rfl⟩ := hu
      exact ⟨[], .inl ⟨a, rfl, rfl, rfl⟩, List.nodup_nil, fun b h => (by cases h), fun _ p h => by cases h⟩
    · rename_i γ
      obtain ⟨u, rfl, hu⟩ := hv.single'
      split at h
      · rename_i e' xs t hb
        split at h
        · rename_i he
          subst he
          split at h
          · rename_i hn
            simp only [Option.some.injEq, Prod.mk.injEq] at h
            obtain ⟨rfl, rfl⟩ := h
            rcases own_rel hH hb (by simp) hu with ⟨hr, ad, rfl⟩ | ⟨b, o, n, sz, c, hr, hc, rfl, hroom⟩
            · have := zaF hH hb hr
              subst this
              exact ⟨[], .inl ⟨ad, rfl, rfl, rfl⟩, List.nodup_nil, fun b h => (by cases h), fun _ p h => by cases h⟩
            · obtain ⟨rfl, rfl, C, tC, hC, hle, hrow⟩ := row_raw hH hb hr
              obtain ⟨C2, t2, hC2, hroom⟩ := hroom
              rw [hC] at hC2
              simp only [Option.some.injEq, Obj.cells.injEq] at hC2
              obtain ⟨rfl, _⟩ := hC2
              refine ⟨[(b, [])], .inr ⟨b, o, c, C, tC, _, [], rfl, rfl, hc, hC, hroom, ?_, fun i v hv => ?_, RowRel.seq hn hrow hle⟩, by simp [flatF], fun b' hb' => ?_, fun _ p hp => ?_⟩
              · simp; omega
              · rw [List.getElem?_take] at hv
                split at hv
                · rw [List.getElem?_drop, Array.getElem?_toList] at hv; exact hv
                · simp at hv
              · simp [flatF] at hb'
                subst hb'
                exact ⟨γ, by simp, _, _, _, _, hr, .inl rfl⟩
              · simp at hp
                subst hp
                exact ⟨γ, by simp, _, _, _, hr, fun b h => (by cases h)⟩
          · cases h
        · cases h
      · rename_i e' xs hb
        split at h
        · rename_i he
          subst he
          simp only [Option.some.injEq, Prod.mk.injEq] at h
          obtain ⟨rfl, rfl⟩ := h
          have hlt : γ < H.length := (List.getElem?_eq_some_iff.1 hb).1
          rcases own_rel hH hb (by simp) hu with ⟨hr, ad, rfl⟩ | ⟨b, o, n, sz, c, hr, hc, rfl, hroom⟩
          · have : xs = [] := by
              rcases hH.none_ γ hlt hr with ⟨K', t', h1⟩ | ⟨t', z', h1⟩ | ⟨e2, h1⟩
              · rw [hb] at h1; simp at h1
              · rw [hb] at h1; simp at h1
              · rw [hb] at h1
                injection h1 with h1
                injection h1 with h2 h3
                subst h2
                exact eq_of_heq h3
            subst this
            exact ⟨[], .inl ⟨ad, rfl, rfl, rfl⟩, List.nodup_nil, fun b h => (by cases h), fun _ p h => by cases h⟩
          · obtain ⟨y, h1, h2⟩ := hH.at_ γ hlt _ _ _ _ hr
            rw [hb] at h1
            simp only [Option.some.injEq] at h1
            subst h1
            simp only [BRel] at h2
            obtain ⟨rfl, rfl, C, tC, vs, tk, hC, hsz, hul, hus, hown, hnd', hvl⟩ := h2
            obtain ⟨C2, t2, hC2, hroom⟩ := hroom
            rw [hC] at hC2
            simp only [Option.some.injEq, Obj.cells.injEq] at hC2
            obtain ⟨rfl, _⟩ := hC2
            have hbt : b ∉ tk := fun hbt => hH.resf _ _ _ _ _ hr (.inr (by rw [hvl b hbt]; simp))
            refine ⟨[(b, tk)], .inr ⟨b, o, c, C, tC, vs, tk, rfl, rfl, hc, hC, hroom, hul, hus, hown⟩, by simp [flatF, hbt, hnd'], fun b' hb' => ?_, fun _ p hp => ?_⟩
            · simp [flatF] at hb'
              rcases hb' with rfl | hb'
              · exact ⟨γ, by simp, _, _, _, _, hr, .inl rfl⟩
              · exact ⟨γ, by simp, _, _, _, _, hr, .inr (hvl b' hb')⟩
            · simp at hp
              subst hp
              exact ⟨γ, by simp, _, _, _, hr, hvl⟩
        · cases h
      · rename_i ds t z hb
        split at h
        · rename_i hc
          obtain ⟨hdp, rfl, hz0⟩ := hc
          split at h
          · rename_i r h1
            simp only [Option.some.injEq, Prod.mk.injEq] at h
            obtain ⟨rfl, rfl⟩ := h
            obtain ⟨xs, ids⟩ := r
            have hnd' := List.nodup_cons.1 hnd
            have hf : ∀ {cs : List SV} {x : e.T} {ids : List Nat} {us : List Value}, readT dp H e cs = some (x, ids) → VRels ρ w cs us → ids.Nodup → ∃ tk, TreeC w e x us tk ∧ tk.Nodup ∧ ∀ b ∈ tk, Tok ρ ids b := fun h2 h3 h4 => by
              obtain ⟨ps, g1, g2, g3, _⟩ := zK hH h2 h3 h4
              exact ⟨_, g1.toC, g2, g3⟩
            rcases own_rel hH hb (by simp) hu with ⟨hr, ad, rfl⟩ | ⟨b, o, n, sz, c, hr, hc, rfl, hroom⟩
            · have := zaG hH hb hr
              subst this
              simp only [List.length_nil, Nat.zero_div, readRows, Option.some.injEq, Prod.mk.injEq] at h1
              obtain ⟨rfl, rfl⟩ := h1
              exact ⟨[], .inl ⟨ad, rfl, rfl, rfl⟩, List.nodup_nil, fun b h => (by cases h), fun _ p h => by cases h⟩
            · obtain ⟨C, tC, hC, rfl, hlen, hle, hvs, _⟩ := zn hH hb hr
              obtain ⟨C2, t2, hC2, hroom⟩ := hroom
              rw [hC] at hC2
              simp only [Option.some.injEq, Obj.cells.injEq] at hC2
              obtain ⟨rfl, _⟩ := hC2
              have hpos : 0 < e.sz := by omega
              have hn : ds.length / e.sz = n := by rw [hlen]; exact Nat.mul_div_cancel _ hpos
              rw [hn] at h1
              obtain ⟨g1, tk, g2, g3, g4⟩ := zmk hH hf h1 hvs hnd'.2
              subst g1
              have hbt : b ∉ tk := fun hbt => zhj hH (i1 := [γ]) (by simpa using hnd'.1) ⟨γ, by simp, _, _, _, _, hr, .inl rfl⟩ (g4 b hbt)
              refine ⟨[(b, tk)], .inr ⟨b, o, c, C, tC, _, tk, rfl, rfl, hc, hC, hroom, ?_, fun i v hv => ?_, g2⟩, by simp [flatF, hbt, g3], fun b' hb' => ?_, fun h => by rw [hdp] at h; cases h⟩
              · simp; omega
              · rw [List.getElem?_take] at hv
                split at hv
                · rw [List.getElem?_drop, Array.getElem?_toList] at hv; exact hv
                · simp at hv
              · simp [flatF] at hb'
                rcases hb' with rfl | hb'
                · exact ⟨γ, by simp, _, _, _, _, hr, .inl rfl⟩
                · exact (g4 b' hb').sub fun δ h => List.mem_cons_of_mem _ h
          · cases h
        · cases h
      · cases h
    · cases h
end
end Go.Proofs.Ytmkekjmckdkcnaa.Den
namespace Go.Proofs.Ytmkekjmckdkcnaa.Den
open Go Go.RowKit
def childB (e : Kd) (xs : List e.T) : Blk := cond e.noList (.arr e xs 0) (.tree e xs)
def expl : (K : Kd) → K.T → Nat → List SV × List Blk
  | .int k, n, _ => ([.int k n], [])
  | .bool, b, _ => ([.bool b], [])
  | .unit, _, _ => ([], [])
  | .pair a b, x, k => ((expl a x.1 k).1 ++ (expl b x.2 (k + (expl a x.1 k).2.length)).1, (expl a x.1 k).2 ++ (expl b x.2 (k + (expl a x.1 k).2.length)).2)
  | .list e, xs, k => ([.own k], [childB e xs])
def valOf (ag : Bool) (cs : List SV) : SV := match ag with
  | true => .agg cs
  | false => cs.headD .junk
def valU (ag : Bool) (us : List Value) : Value := match ag with
  | true => .agg us.toArray
  | false => us.headD default
def cellsOf (ag : Bool) (s : SV) : Option (List SV) := match ag with
  | true => match s with
    | .agg cs => some cs
    | _ => none
  | false => some [s]
structure TR where
  ps : Sh
  K : Kd
  ag : Bool
  fn : ps.T → Option K.T
def TR.te (tr : TR) : TE where
  X := tr.ps.T
  Y := tr.K.T
  mono := true
  view args H := viewS H tr.ps args
  fn := tr.fn
  put _ y _ H := some (valOf tr.ag (expl tr.K y H.length).1, H ++ (expl tr.K y H.length).2)
def putT (K : Kd) (x : K.T) (cs : List SV) (H : Heap) : Heap := match K with
  | .pair a b => putT b x.2 (cs.drop a.sz) (putT a x.1 (cs.take a.sz) H)
  | .list e => match cs with
    | [.own γ] => H.set γ (childB e x)
    | _ => H
  | _ => H
structure TM where
  K : Kd
  ag : Bool
  fn : K.T × Int → Option (K.T × Int)
def TM.te (tm : TM) : TE where
  X := tm.K.T × Int
  Y := tm.K.T × Int
  mono := false
  view args H := match args with
    | [a, .int .i64 k] => match cellsOf tm.ag a with
      | some cs => match readT false H tm.K cs with
        | some (x, ids) => cond (nodupB ids) (some (x, k)) none
        | none => none
      | none => none
    | _ => none
  fn := tm.fn
  put _ y args H := match args with
    | a :: _ => match cellsOf tm.ag a with
      | some cs => some (.int .i64 y.2, putT tm.K y.1 cs H)
      | none => none
    | _ => none
def FnSpecR (P : Program) (f : FuncId) (tr : TR) : Prop :=
  ∀ (w : World) (res : Nat → Prop) (vs : List Value) (x : tr.ps.T) (y : tr.K.T), (∀ b, res b → b < w.heap.size) → ShRel w (fun b => b < w.heap.size ∧ ¬ res b) tr.ps x vs → tr.fn x = some y →
    Calls P f vs.toArray w fun e w' => ∃ us tk, e = .returned (valU tr.ag us) ∧ w'.os = w.os ∧ w'.tape = w.tape ∧ w'.output = w.output ∧ w.heap.size ≤ w'.heap.size ∧ (∀ b, b < w.heap.size → w'.heap[b]? = w.heap[b]?) ∧
      tk.Nodup ∧ (∀ b ∈ tk, w.heap.size ≤ b ∧ b < w'.heap.size) ∧ TreeC w' tr.K y us tk ∧ (tr.ag = false → tr.K.sz = 1)
def FnSpecM (P : Program) (f : FuncId) (tm : TM) : Prop :=
  ∀ (w : World) (us : List Value) (ps : List (Nat × List Nat)) (x : tm.K.T) (k : Int) (y : tm.K.T × Int), TreeF w tm.K x us ps → (flatF ps).Nodup → (∀ b ∈ flatF ps, b < w.heap.size) → tm.fn (x, k) = some y → (tm.ag = false → tm.K.sz = 1) →
    Calls P f #[valU tm.ag us, .int .i64 k] w fun e w' => e = .returned (.int .i64 y.2) ∧ w'.os = w.os ∧ w'.tape = w.tape ∧ w'.output = w.output ∧ w.heap.size ≤ w'.heap.size ∧ (∀ b, b < w.heap.size → b ∉ flatF ps → w'.heap[b]? = w.heap[b]?) ∧
      (∀ (b : Nat) C t fr, w.heap[b]? = some (.cells C t fr) → ∃ C', w'.heap[b]? = some (.cells C' t fr) ∧ C'.size = C.size) ∧
      ∃ ps2, TreeF w' tm.K y.1 us ps2 ∧ (flatF ps2).Nodup ∧ ∀ p2 ∈ ps2, ∃ p ∈ ps, p2.1 = p.1 ∧ ∀ b ∈ p2.2, b ∈ p.2
section
variable {w w' : World} {ρ ρ' : Map} {H H' : Heap}
def imgB : List Img → List Nat
  | [] => []
  | .at b _ _ _ :: ms => b :: imgB ms
  | _ :: ms => imgB ms
theorem zaM : ∀ {a b : List Img}, imgB (a ++ b) = imgB a ++ imgB b
  | [], b => rfl
  | .at _ _ _ _ :: a, b => by simp [imgB, zaM]
  | .unborn :: a, b => by simp [imgB, zaM]
  | .dead :: a, b => by simp [imgB, zaM]
  | .none_ :: a, b => by simp [imgB, zaM]
theorem zg : ∀ {ms : List Img} {i b o n sz : Nat}, ms[i]? = some (.at b o n sz) → b ∈ imgB ms
  | [], i, b, o, n, sz, h => by simp at h
  | m :: ms, 0, b, o, n, sz, h => by simp at h; subst h; simp [imgB]
  | m :: ms, i + 1, b, o, n, sz, h => by
    have := zg (ms := ms) (i := i) (by simpa using h)
    cases m <;> simp [imgB, this]
theorem zeL : ∀ {ms : List Img} {i j b o n sz o' n' sz' : Nat}, (imgB ms).Nodup → ms[i]? = some (.at b o n sz) → ms[j]? = some (.at b o' n' sz') → i = j
  | [], i, j, b, o, n, sz, o', n', sz', _, h, _ => by simp at h
  | m :: ms, i, j, b, o, n, sz, o', n', sz', hnd, h1, h2 => by
    have hms : (imgB ms).Nodup := by cases m <;> simp [imgB] at hnd <;> first | exact hnd | exact hnd.2
    cases i with
    | zero =>
      cases j with
      | zero => rfl
      | succ j =>
        simp at h1 h2
        subst h1
        simp only [imgB, List.nodup_cons] at hnd
        exact absurd (zg h2) hnd.1
    | succ i =>
      cases j with
      | zero =>
        simp at h1 h2
        subst h2
        simp only [imgB, List.nodup_cons] at hnd
        exact absurd (zg h1) hnd.1
      | succ j =>
        simp at h1 h2
        rw [zeL hms h1 h2]
def ChildAt (ρ : Map) (w : World) (x : Blk) (m : Img) : Prop := (m = .none_ ∧ ((∃ e, x = .arr e [] 0) ∨ ∃ e, x = .tree e [])) ∨ ∃ b o n sz, m = .at b o n sz ∧ BRel ρ w b o n sz x
theorem zhk {e : Kd} {xs : List e.T} {b o : Nat} {C : Array Value} {tC : TypeId} {us : List Value} {t' : List Nat} (hC : w.heap[b]? = some (.cells C tC (0, 0))) (hsz : o + xs.length * e.sz ≤ C.size) (hul : us.length = xs.length * e.sz)
    (hus : ∀ (i : Nat) (v : Value), us[i]? = some v → C[o + i]? = some v) (h : SeqL (TreeC w e) xs us t') (hnd : t'.Nodup) (hv : ∀ b' ∈ t', ρ.vl b' = some b) : BRel ρ w b o xs.length e.sz (childB e xs) := by
  unfold childB
  cases hn : e.noList with
  | true =>
    simp only [cond_true, BRel]
    exact ⟨trivial, trivial, C, tC, hC, hsz, h.row hn hus⟩
  | false =>
    simp only [cond_false, BRel]
    exact ⟨trivial, trivial, C, tC, us, t', hC, hsz, hul, hus, h, hnd, hv⟩
theorem TreeF.ent : ∀ {K : Kd} {x : K.T} {us : List Value} {ps : List (Nat × List Nat)}, TreeF w K x us ps → (flatF ps).Nodup → ∀ k, ∃ ms : List Img, ms.length = (expl K x k).2.length ∧ imgB ms = ps.map Prod.fst ∧
    ∀ ρ : Map, Agree ρ k ms → (∀ p ∈ ps, ∀ b ∈ p.2, ρ.vl b = some p.1) → VRels ρ w (expl K x k).1 us ∧ ∀ (i : Nat) (x' : Blk) (m : Img), (expl K x k).2[i]? = some x' → ms[i]? = some m → ChildAt ρ w x' m
  | .int _, x, us, ps, h, _, k => ⟨[], rfl, by rw [h.2]; rfl, fun ρ _ _ => ⟨by rw [h.1]; simp only [expl]; exact ⟨_, _, rfl, by simp only [VRel], by simp only [VRels]⟩, fun i x' m h => by simp [expl] at h⟩⟩
  | .bool, x, us, ps, h, _, k => ⟨[], rfl, by rw [h.2]; rfl, fun ρ _ _ => ⟨by rw [h.1]; simp only [expl]; exact ⟨_, _, rfl, by simp only [VRel], by simp only [VRels]⟩, fun i x' m h => by simp [expl] at h⟩⟩
  | .unit, x, us, ps, h, _, k => ⟨[], rfl, by rw [h.2]; rfl, fun ρ _ _ => ⟨by rw [h.1]; simp [expl, VRels], fun i x' m h => by simp [expl] at h⟩⟩
  | .pair a b, x, us, ps, h, hnd, k => by
    simp only [TreeF] at h
    obtain ⟨c1, c2, p1, p2, rfl, rfl, h3, h4⟩ := h
    rw [zr] at hnd
    obtain ⟨n1, n2, _⟩ := List.nodup_append.1 hnd
    obtain ⟨m1, g1, g2, g3⟩ := h3.ent n1 k
    obtain ⟨m2, k1, k2, k3⟩ := h4.ent n2 (k + (expl a x.1 k).2.length)
    refine ⟨m1 ++ m2, by simp [expl, g1, k1], by rw [zaM, g2, k2, List.map_append], fun ρ ha hv => ?_⟩
    have ha2 := ha.split
    rw [g1] at ha2
    obtain ⟨g4, g5⟩ := g3 ρ ha2.1 fun p hp => hv p (List.mem_append.2 (.inl hp))
    obtain ⟨k4, k5⟩ := k3 ρ ha2.2 fun p hp => hv p (List.mem_append.2 (.inr hp))
    refine ⟨by simp only [expl]; exact g4.append k4, fun i x' m hx hm => ?_⟩
    simp only [expl] at hx
    rcases Nat.lt_or_ge i (expl a x.1 k).2.length with hi | hi
    · rw [List.getElem?_append_left hi] at hx
      rw [List.getElem?_append_left (by rw [g1]; exact hi)] at hm
      exact g5 i x' m hx hm
    · rw [List.getElem?_append_right hi] at hx
      rw [List.getElem?_append_right (by rw [g1]; exact hi), g1] at hm
      exact k5 _ x' m hx hm
  | .list e, xs, us, ps, h, hnd, k => by
    simp only [TreeF] at h
    rcases h with ⟨a, rfl, rfl, rfl⟩ | ⟨b, o, c, C, tC, vs, t', rfl, rfl, h2, h3, h4, h5, h6, h7⟩
    · refine ⟨[.none_], rfl, rfl, fun ρ ha _ => ⟨?_, fun i x' m hx hm => ?_⟩⟩
      · have := ha 0 _ rfl
        simp only [Nat.add_zero] at this
        simp only [expl, VRels, VRel, this]
        exact ⟨_, [], rfl, ⟨a, rfl⟩, rfl⟩
      · cases i with
        | zero =>
          simp [expl] at hx hm
          subst hx; subst hm
          refine .inl ⟨rfl, ?_⟩
          unfold childB
          cases e.noList
          · exact .inr ⟨e, rfl⟩
          · exact .inl ⟨e, rfl⟩
        | succ i => simp [expl] at hx
    · have hle : xs.length * e.sz ≤ c * e.sz := Nat.mul_le_mul_right _ h2
      refine ⟨[.at b o xs.length e.sz], rfl, rfl, fun ρ ha hv => ⟨?_, fun i x' m hx hm => ?_⟩⟩
      · have := ha 0 _ rfl
        simp only [Nat.add_zero] at this
        simp only [expl, VRels, VRel, this]
        exact ⟨_, [], rfl, ⟨c, h2, rfl, C, tC, h3, h4⟩, rfl⟩
      · cases i with
        | zero =>
          simp [expl] at hx hm
          subst hx; subst hm
          simp [flatF] at hnd
          exact .inr ⟨_, _, _, _, rfl, zhk h3 (by omega) h5 h6 h7 hnd.2 fun b' hb' => hv (b, t') (by simp) b' hb'⟩
        | succ i => simp [expl] at hx
def vlS (ps : List (Nat × List Nat)) (b : Nat) : Option Nat := (ps.find? fun p => p.2.contains b).map Prod.fst
theorem zhl {ps : List (Nat × List Nat)} {b : Nat} (h : ∀ p ∈ ps, b ∉ p.2) : vlS ps b = none := by
  unfold vlS
  rw [List.find?_eq_none.2 (fun p hp => by simpa using h p hp)]; rfl
theorem zc6 : ∀ {ps : List (Nat × List Nat)} {p : Nat × List Nat} {b : Nat}, (flatF ps).Nodup → p ∈ ps → b ∈ p.2 → vlS ps b = some p.1
  | [], p, b, _, h, _ => by cases h
  | q :: ps, p, b, hnd, hp, hb => by
    unfold vlS
    have hnd' : (flatF ([q] ++ ps)).Nodup := hnd
    rw [zr] at hnd'
    obtain ⟨_, n2, n3⟩ := List.nodup_append.1 hnd'
    rw [List.find?_cons]
    rcases List.mem_cons.1 hp with rfl | hp
    · have : p.2.contains b = true := by simpa using hb
      rw [this]; rfl
    · have : q.2.contains b = false := by
        cases hc : q.2.contains b
        · rfl
        · exfalso
          exact n3 b (zd.2 ⟨q, by simp, .inr (by simpa using hc)⟩) b (zd.2 ⟨p, hp, .inr hb⟩) rfl
      rw [this]
      exact zc6 n2 hp hb
theorem vlS_mem {ps : List (Nat × List Nat)} {b t : Nat} (h : vlS ps b = some t) : ∃ p ∈ ps, b ∈ p.2 ∧ p.1 = t := by
  unfold vlS at h
  obtain ⟨p, h1, h2⟩ := Option.map_eq_some_iff.1 h
  exact ⟨p, List.mem_of_find?_eq_some h1, by simpa using List.find?_some h1, h2⟩
theorem zhm {ag : Bool} {cs : List SV} {us : List Value} (h : VRels ρ w cs us) (hl : ag = false → us.length = 1) : VRel ρ w (valOf ag cs) (valU ag us) := by
  cases ag with
  | true => simp only [valOf, valU, VRel]; exact ⟨_, rfl, by simpa using h⟩
  | false =>
    have hl := hl rfl
    have hl2 := h.length
    match us, cs, hl, hl2, h with
    | [u], [c], _, _, h =>
      simp only [VRels] at h
      obtain ⟨u', us', e, h1, _⟩ := h
      simp at e
      simp only [valOf, valU, List.headD_cons, e.1]; exact h1
theorem zaN {K : Kd} : ∀ {x : K.T} {k : Nat}, (expl K x k).1.length = K.sz := by
  induction K with
  | int k => intro x k; rfl
  | bool => intro x k; rfl
  | unit => intro x k; rfl
  | pair a b iha ihb => intro x k; simp [expl, Kd.sz, iha, ihb]
  | list e _ => intro x k; rfl
theorem zsm {P : Program} {f : FuncId} {tr : TR} (h : FnSpecR P f tr) : TESound P f tr.te := by
  intro ρ H w args vs (x : tr.ps.T) (y : tr.K.T) v H' hH hv hun hview hfn hput
  have hput' : v = valOf tr.ag (expl tr.K y H.length).1 ∧ H' = H ++ (expl tr.K y H.length).2 := by
    simp only [TR.te, Option.some.injEq, Prod.mk.injEq] at hput
    exact ⟨hput.1.symm, hput.2.symm⟩
  obtain ⟨rfl, rfl⟩ := hput'
  let res : Nat → Prop := fun b => ρ.res0 b ∧ ρ.vl b = none
  have hres : ∀ b, res b → b < w.heap.size := fun b hb => hH.resl b (.inl hb.1)
  have hps : ShRel w (fun b => b < w.heap.size ∧ ¬ res b) tr.ps x vs := by
    refine ShRel.of_view (ρ := ρ) (fun {K s x u} h1 h2 => ?_) hview hv
    exact zm hH (B := fun b => b < w.heap.size ∧ ¬ res b) (fun b hb => ⟨hb.1, fun h3 => hb.2.1 (.inl h3.1)⟩) (fun _ b t hv2 => ⟨hH.vlt hv2, fun h3 => by have h4 := h3.2; rw [hv2] at h4; cases h4⟩)
      (fun γ b o n sz _ hg => ⟨hH.lt _ _ _ _ _ hg, fun h3 => hH.resf _ _ _ _ _ hg (.inl h3.1)⟩) h1 (VRels.single h2)
  refine Calls.mono (h w res vs x y hres hps hfn) fun e w' he => ?_
  obtain ⟨us, tk, rfl, hos, htape, hout, hsize, hkept, hnd, htk, htree, hag⟩ := he
  obtain ⟨ps, hF, rfl⟩ := htree.toF
  obtain ⟨ms, hml, himg, hent⟩ := hF.ent hnd H.length
  have hnew0 : ∀ b ∈ imgB ms, w.heap.size ≤ b ∧ b < w'.heap.size := fun b hb => by
    rw [himg] at hb
    obtain ⟨p, hp, rfl⟩ := List.mem_map.1 hb
    exact htk _ (zd.2 ⟨p, hp, .inl rfl⟩)
  have hnewv : ∀ p ∈ ps, ∀ b ∈ p.2, w.heap.size ≤ b ∧ b < w'.heap.size := fun p hp b hb => htk _ (zd.2 ⟨p, hp, .inr hb⟩)
  have hindd : (imgB ms).Nodup := by
    rw [himg]
    have hs : List.Sublist (ps.map Prod.fst) (flatF ps) := by
      clear hF hent himg hnew0 hnewv hnd htk htree
      induction ps with
      | nil => exact List.Sublist.slnil
      | cons p ps ih =>
        show List.Sublist (p.1 :: ps.map Prod.fst) ((p.1 :: p.2) ++ flatF ps)
        rw [List.cons_append]
        exact (ih.trans (List.sublist_append_right _ _)).cons_cons _
    exact hs.nodup hnd
  have hapart : ∀ p ∈ ps, ∀ b ∈ p.2, b ∉ imgB ms := by
    intro p hp b hb hbi
    rw [himg] at hbi
    obtain ⟨q, hq, rfl⟩ := List.mem_map.1 hbi
    clear hF hent himg hnew0 hnewv htk htree hindd hbi
    induction ps with
    | nil => cases hp
    | cons r ps ih =>
      have hnd' : (flatF ([r] ++ ps)).Nodup := hnd
      rw [zr] at hnd'
      obtain ⟨n1, n2, n3⟩ := List.nodup_append.1 hnd'
      rcases List.mem_cons.1 hp with rfl | hp2 <;> rcases List.mem_cons.1 hq with rfl | hq2
      · simp [flatF] at n1; exact n1.1 hb
      · exact n3 _ (zd.2 ⟨p, by simp, .inr hb⟩) _ (zd.2 ⟨q, hq2, .inl rfl⟩) rfl
      · exact n3 _ (zd.2 ⟨q, by simp, .inl rfl⟩) _ (zd.2 ⟨p, hp2, .inr hb⟩) rfl
      · exact ih n2 hp2 hq2
  let ρ' : Map := ⟨fun γ => if γ < H.length then ρ γ else match ms[γ - H.length]? with | some m => m | none => ρ γ, ρ.res0, fun b' => match vlS ps b' with | some t => some t | none => ρ.vl b'⟩
  have hlt : ∀ {γ}, γ < H.length → ρ' γ = ρ γ := fun {γ} h => by show (if γ < H.length then ρ γ else _) = _; rw [if_pos h]
  have hge : ∀ {γ m}, H.length ≤ γ → ms[γ - H.length]? = some m → ρ' γ = m := fun {γ m} h h2 => by show (if γ < H.length then ρ γ else match ms[γ - H.length]? with | some m => m | none => ρ γ) = _; rw [if_neg (by omega), h2]
  have hgt : ∀ {γ}, H.length ≤ γ → ms[γ - H.length]? = none → ρ' γ = ρ γ := fun {γ} h h2 => by show (if γ < H.length then ρ γ else match ms[γ - H.length]? with | some m => m | none => ρ γ) = _; rw [if_neg (by omega), h2]
  have hvo : ∀ {b'}, b' < w.heap.size → ρ'.vl b' = ρ.vl b' := fun {b'} hb' => by
    show (match vlS ps b' with | some t => some t | none => ρ.vl b') = _
    rw [zhl fun p hp hb => by have := (hnewv p hp b' hb).1; omega]
  have hvn : ∀ p ∈ ps, ∀ b ∈ p.2, ρ'.vl b = some p.1 := fun p hp b hb => by
    show (match vlS ps b with | some t => some t | none => ρ.vl b) = _
    rw [zc6 hnd hp hb]
  have hvc : ∀ {b'}, ρ'.vl b' ≠ none → (∃ p ∈ ps, b' ∈ p.2) ∨ ρ.vl b' ≠ none := fun {b'} hb' => by
    cases hq : vlS ps b' with
    | some t => obtain ⟨p, hp, h1, _⟩ := vlS_mem hq; exact .inl ⟨p, hp, h1⟩
    | none =>
      refine .inr fun h => hb' ?_
      show (match vlS ps b' with | some t => some t | none => ρ.vl b') = none
      rw [hq]; exact h
  have hsb : ∀ {β b o n sz}, ρ β = .at b o n sz → b < w.heap.size := fun h => hH.lt _ _ _ _ _ h
  have hag1 : Agree ρ' H.length ms := fun i m hm => hge (by omega) (by rw [Nat.add_sub_cancel_left]; exact hm)
  have hubn : ∀ γ, H.length ≤ γ → γ < H.length + ms.length → ρ γ = .unborn := fun γ h1 h2 => hun γ h1 (by rw [List.length_append, ← hml]; exact h2)
  have cs3 : ∀ {γ b o n sz}, ρ' γ = .at b o n sz → (γ < H.length ∧ ρ γ = .at b o n sz) ∨ (H.length ≤ γ ∧ ms[γ - H.length]? = some (.at b o n sz)) ∨ (H.length + ms.length ≤ γ ∧ ρ γ = .at b o n sz) := by
    intro γ b o n sz h
    rcases Nat.lt_or_ge γ H.length with h1 | h1
    · rw [hlt h1] at h; exact .inl ⟨h1, h⟩
    · cases hm : ms[γ - H.length]? with
      | some m => rw [hge h1 hm] at h; subst h; exact .inr (.inl ⟨h1, rfl⟩)
      | none =>
        rw [hgt h1 hm] at h
        have := List.getElem?_eq_none_iff.1 hm
        exact .inr (.inr ⟨by omega, h⟩)
  have old : ∀ {γ b o n sz}, ρ' γ = .at b o n sz → ρ γ = .at b o n sz ∨ (H.length ≤ γ ∧ ms[γ - H.length]? = some (.at b o n sz)) := fun h => by
    rcases cs3 h with ⟨_, h⟩ | h | ⟨_, h⟩
    · exact .inl h
    · exact .inr h
    · exact .inl h
  obtain ⟨hvr, hch⟩ := hent ρ' hag1 hvn
  have hstep : Step ρ w ρ' w' := {
    os := hos, tape := htape, output := hout, size := hsize
    kept := fun b hb _ _ => hkept b hb
    shape := fun b C t fr hb => ⟨C, by rw [hkept b (Array.getElem?_eq_some_iff.1 hb).1]; exact hb, rfl⟩
    img := fun γ b1 o1 n1 sz1 hg => by
      rcases old hg with h | ⟨_, h⟩
      · exact .inl ⟨γ, o1, n1, sz1, h⟩
      · exact .inr (hnew0 _ (zg h)).1
    ref := fun γ hg => .inl (by
      rcases Nat.lt_or_ge γ H.length with h1 | h1
      · exact hlt h1
      · rcases Nat.lt_or_ge γ (H.length + ms.length) with h2 | h2
        · exact absurd (hubn γ h1 h2) hg
        · exact hgt h1 (List.getElem?_eq_none (by omega)))
    res := rfl
    vl := fun b' hb' => hvo hb'
    vln := fun b t hb => by
      have hb : (match vlS ps b with | some t => some t | none => ρ.vl b) = some t := hb
      split at hb
      · rename_i t' hq
        obtain ⟨p, hp, h1, h2⟩ := vlS_mem hq
        simp only [Option.some.injEq] at hb
        subst hb; subst h2
        exact .inr ⟨(hnewv p hp b h1).1, (htk _ (zd.2 ⟨p, hp, .inl rfl⟩)).1⟩
      · exact .inl hb }
  have hl' : (H ++ (expl tr.K y H.length).2).length = H.length + ms.length := by rw [List.length_append, hml]
  refine ⟨_, ρ', rfl, hstep, ?_, zhm hvr fun hag' => by rw [hF.length]; exact hag hag', by simp, ?_, ?_⟩
  · constructor
    · intro γ hl hd
      rcases Nat.lt_or_ge γ H.length with h1 | h1
      · rw [hlt h1] at hd
        rw [List.getElem?_append_left h1]; exact hH.dead γ h1 hd
      · have hm := List.getElem?_eq_getElem (l := ms) (i := γ - H.length) (by omega)
        rw [hge h1 hm] at hd
        rcases hch _ _ _ (List.getElem?_eq_getElem (by rw [← hml]; omega)) hm with ⟨h2, _⟩ | ⟨_, _, _, _, h2, _⟩ <;> rw [h2] at hd <;> cases hd
    · intro γ hl hd
      rcases Nat.lt_or_ge γ H.length with h1 | h1
      · rw [hlt h1] at hd
        rw [List.getElem?_append_left h1]; exact hH.none_ γ h1 hd
      · have hm := List.getElem?_eq_getElem (l := ms) (i := γ - H.length) (by omega)
        rw [hge h1 hm] at hd
        have hx := List.getElem?_eq_getElem (l := (expl tr.K y H.length).2) (i := γ - H.length) (by rw [← hml]; omega)
        rw [List.getElem?_append_right h1, hx]
        rcases hch _ _ _ hx hm with ⟨_, ⟨e, h2⟩ | ⟨e, h2⟩⟩ | ⟨_, _, _, _, h2, _⟩
        · exact .inl ⟨e, 0, by rw [h2]⟩
        · exact .inr (.inr ⟨e, by rw [h2]⟩)
        · rw [h2] at hd; cases hd
    · intro γ hl b1 o1 n1 sz1 hd
      rcases Nat.lt_or_ge γ H.length with h1 | h1
      · rw [hlt h1] at hd
        obtain ⟨z, h3, h4⟩ := hH.at_ γ h1 _ _ _ _ hd
        exact ⟨z, by rw [List.getElem?_append_left h1]; exact h3, h4.keep hstep (hkept b1 (hsb hd)) fun b' hb' => ⟨hH.vlt hb', hkept b' (hH.vlt hb')⟩⟩
      · have hm := List.getElem?_eq_getElem (l := ms) (i := γ - H.length) (by omega)
        rw [hge h1 hm] at hd
        have hx := List.getElem?_eq_getElem (l := (expl tr.K y H.length).2) (i := γ - H.length) (by rw [← hml]; omega)
        refine ⟨_, by rw [List.getElem?_append_right h1]; exact hx, ?_⟩
        rcases hch _ _ _ hx hm with ⟨h2, _⟩ | ⟨b, o, n, sz, h2, h3⟩
        · rw [h2] at hd; cases hd
        · rw [h2] at hd
          injection hd with e1 e2 e3 e4
          subst e1; subst e2; subst e3; subst e4
          exact h3
    · intro γ δ b1 o1 n1 sz1 o2 n2 sz2 h1 h2
      rcases old h1 with h1 | ⟨g1, h1⟩ <;> rcases old h2 with h2 | ⟨g2, h2⟩
      · exact hH.inj _ _ _ _ _ _ _ _ _ h1 h2
      · have := hsb h1; have := (hnew0 _ (zg h2)).1; omega
      · have := hsb h2; have := (hnew0 _ (zg h1)).1; omega
      · have := zeL hindd h1 h2; omega
    · intro γ b1 o1 n1 sz1 h1
      rcases old h1 with h1 | ⟨_, h1⟩
      · have := hsb h1; omega
      · exact (hnew0 _ (zg h1)).2
    · rintro b' (h1 | h1)
      · have := hH.resl b' (.inl h1); omega
      · rcases hvc h1 with ⟨p, hp, h2⟩ | h2
        · exact (hnewv p hp b' h2).2
        · have := hH.resl b' (.inr h2); omega
    · rintro γ b1 o1 n1 sz1 h1 h2
      rcases old h1 with h1 | ⟨_, h1⟩
      · have hlt' := hsb h1
        rcases h2 with h2 | h2
        · exact hH.resf _ _ _ _ _ h1 (.inl h2)
        · rw [hvo hlt'] at h2; exact hH.resf _ _ _ _ _ h1 (.inr h2)
      · have hn := hnew0 _ (zg h1)
        rcases h2 with h2 | h2
        · have := hH.resl b1 (.inl h2); omega
        · rcases hvc h2 with ⟨p, hp, h3⟩ | h3
          · exact hapart p hp b1 h3 (zg h1)
          · have := hH.resl b1 (.inr h3); omega
  · intro γ hg hl
    rw [hl'] at hl
    rw [hgt (by omega) (List.getElem?_eq_none (by omega))]; exact hg
  · intro _
    refine ⟨⟨_, rfl⟩, fun γ hl => ?_, hkept⟩
    rw [hl'] at hl
    rcases hl with hl | hl
    · exact hlt hl
    · exact hgt (by omega) (List.getElem?_eq_none (by omega))
end
theorem EntryOK.tr {P : Program} {f : Nat} {tr : TR} (h : FnSpecR P f tr) (hf : ∃ fn, P.funcs[f]? = some fn ∧ fn.name ≠ "runtime.NumGoroutine" ∧ fn.body.isSome = true) : EntryOK P f tr.te where
  snd := zsm h
  fn := hf
  ext _ x y args H v H' hp := ⟨_, (congrArg Prod.snd (Option.some.inj hp)).symm⟩
  tch x y args H v H' _ hp := ext_tch (te := tr.te) (x := x) (y := y) (v := v) ⟨_, (congrArg Prod.snd (Option.some.inj hp)).symm⟩
end Go.Proofs.Ytmkekjmckdkcnaa.Den
namespace Go.Proofs.Ytmkekjmckdkcnaa.Den
open Go Go.RowKit
section
variable {w w' : World} {ρ ρ' : Map} {H H' : Heap}
theorem zc7 : ∀ {K : Kd} {y : K.T} {cs : List SV} {H : Heap}, (putT K y cs H).length = H.length
  | .int _, _, _, _ => rfl
  | .bool, _, _, _ => rfl
  | .unit, _, _, _ => rfl
  | .pair a b, y, cs, H => by simp only [putT]; rw [zc7 (K := b), zc7 (K := a)]
  | .list e, y, cs, H => by
    unfold putT
    split
    · simp
    · rfl
theorem zc8 : ∀ {K : Kd} {cs : List SV} {x : K.T} {ids : List Nat}, readT false H K cs = some (x, ids) → ∀ γ ∈ ids, (∃ z, H[γ]? = some z ∧ z ≠ .dead) ∧ γ ∈ SV.refsL cs
  | .int k, cs, x, ids, h, γ, hγ => by
    simp only [readT] at h
    split at h
    · split at h
      · simp only [Option.some.injEq, Prod.mk.injEq] at h
        rw [← h.2] at hγ; cases hγ
      · cases h
    · cases h
  | .bool, cs, x, ids, h, γ, hγ => by
    simp only [readT] at h
    split at h
    · simp only [Option.some.injEq, Prod.mk.injEq] at h
      rw [← h.2] at hγ; cases hγ
    · cases h
  | .unit, cs, x, ids, h, γ, hγ => by
    simp only [readT] at h
    split at h
    · simp only [Option.some.injEq, Prod.mk.injEq] at h
      rw [← h.2] at hγ; cases hγ
    · cases h
  | .pair a b, cs, x, ids, h, γ, hγ => by
    simp only [readT] at h
    split at h
    · rename_i y z h1 h2
      simp only [Option.some.injEq, Prod.mk.injEq] at h
      obtain ⟨rfl, rfl⟩ := h
      have hr : SV.refsL cs = SV.refsL (cs.take a.sz) ++ SV.refsL (cs.drop a.sz) := by rw [← zZ, List.take_append_drop]
      rw [hr]
      rcases List.mem_append.1 hγ with hγ | hγ
      · obtain ⟨g1, g2⟩ := zc8 h1 γ hγ
        exact ⟨g1, List.mem_append.2 (.inl g2)⟩
      · obtain ⟨g1, g2⟩ := zc8 h2 γ hγ
        exact ⟨g1, List.mem_append.2 (.inr g2)⟩
    · cases h
  | .list e, cs, x, ids, h, γ, hγ => by
    simp only [readT] at h
    split at h
    · simp only [Option.some.injEq, Prod.mk.injEq] at h
      rw [← h.2] at hγ; cases hγ
    · rename_i δ
      split at h
      · rename_i e' xs t hb
        split at h
        · split at h
          · simp only [Option.some.injEq, Prod.mk.injEq] at h
            rw [← h.2] at hγ
            simp at hγ
            subst hγ
            exact ⟨⟨_, hb, by simp⟩, by simp [SV.refsL, SV.refs]⟩
          · cases h
        · cases h
      · rename_i e' xs hb
        split at h
        · simp only [Option.some.injEq, Prod.mk.injEq] at h
          rw [← h.2] at hγ
          simp at hγ
          subst hγ
          exact ⟨⟨_, hb, by simp⟩, by simp [SV.refsL, SV.refs]⟩
        · cases h
      · split at h
        · rename_i hc; cases hc.1
        · cases h
      · cases h
    · cases h
theorem zhn {e : Kd} {cs : List SV} {x : List e.T} {ids : List Nat} (h : readT false H (.list e) cs = some (x, ids)) : (cs = [.nils] ∧ ids = []) ∨ ∃ γ, cs = [.own γ] ∧ ids = [γ] ∧ ((∃ t, H[γ]? = some (.arr e x t)) ∨ H[γ]? = some (.tree e x)) := by
  simp only [readT] at h
  split at h
  · simp only [Option.some.injEq, Prod.mk.injEq] at h
    exact .inl ⟨rfl, h.2.symm⟩
  · rename_i δ
    split at h
    · rename_i e' xs t hb
      split at h
      · rename_i he
        subst he
        split at h
        · simp only [Option.some.injEq, Prod.mk.injEq] at h
          obtain ⟨rfl, rfl⟩ := h
          exact .inr ⟨δ, rfl, rfl, .inl ⟨t, hb⟩⟩
        · cases h
      · cases h
    · rename_i e' xs hb
      split at h
      · rename_i he
        subst he
        simp only [Option.some.injEq, Prod.mk.injEq] at h
        obtain ⟨rfl, rfl⟩ := h
        exact .inr ⟨δ, rfl, rfl, .inr hb⟩
      · cases h
    · split at h
      · rename_i hc; cases hc.1
      · cases h
    · cases h
  · cases h
theorem z6 : ∀ {K : Kd} {cs : List SV} {x y : K.T} {ids : List Nat} {H0 : Heap}, readT false H K cs = some (x, ids) → ∀ γ, γ ∉ ids → (putT K y cs H0)[γ]? = H0[γ]?
  | .int _, _, _, _, _, _, _, _, _ => rfl
  | .bool, _, _, _, _, _, _, _, _ => rfl
  | .unit, _, _, _, _, _, _, _, _ => rfl
  | .pair a b, cs, x, y, ids, H0, h, γ, hγ => by
    simp only [readT] at h
    split at h
    · rename_i y' z h1 h2
      simp only [Option.some.injEq, Prod.mk.injEq] at h
      obtain ⟨rfl, rfl⟩ := h
      simp only [List.mem_append, not_or] at hγ
      simp only [putT]
      rw [z6 h2 γ hγ.2, z6 h1 γ hγ.1]
    · cases h
  | .list e, cs, x, y, ids, H0, h, γ, hγ => by
    rcases zhn h with ⟨rfl, _⟩ | ⟨δ, rfl, rfl, _⟩
    · rfl
    · simp only [putT]
      rw [List.getElem?_set_ne (fun e => hγ (by simp [e]))]
theorem putT_in (hH : HRel ρ H w) (hshape : ∀ (b : Nat) C t fr, w.heap[b]? = some (.cells C t fr) → ∃ C', w'.heap[b]? = some (.cells C' t fr) ∧ C'.size = C.size) :
    ∀ {K : Kd} {cs : List SV} {x y : K.T} {ids : List Nat} {us : List Value} {ps2 : List (Nat × List Nat)} {H0 : Heap}, readT false H K cs = some (x, ids) → ids.Nodup → VRels ρ w cs us → TreeF w' K y us ps2 → (flatF ps2).Nodup → (∀ p ∈ ps2, ∀ b ∈ p.2, ρ.vl b = some p.1) →
      H0.length = H.length → ∀ γ ∈ ids, ∃ blk, (putT K y cs H0)[γ]? = some blk ∧ (ρ γ = .none_ → (∃ e, blk = .arr e [] 0) ∨ ∃ e, blk = .tree e []) ∧ ∀ b o n sz, ρ γ = .at b o n sz → BRel ρ w' b o n sz blk
  | .int k, cs, x, y, ids, us, ps2, H0, h, hnd, hv, ht, hn2, hvl, hl, γ, hγ => by
    simp only [readT] at h
    split at h
    · split at h
      · simp only [Option.some.injEq, Prod.mk.injEq] at h
        rw [← h.2] at hγ; cases hγ
      · cases h
    · cases h
  | .bool, cs, x, y, ids, us, ps2, H0, h, hnd, hv, ht, hn2, hvl, hl, γ, hγ => by
    simp only [readT] at h
    split at h
    · simp only [Option.some.injEq, Prod.mk.injEq] at h
      rw [← h.2] at hγ; cases hγ
    · cases h
  | .unit, cs, x, y, ids, us, ps2, H0, h, hnd, hv, ht, hn2, hvl, hl, γ, hγ => by
    simp only [readT] at h
    split at h
    · simp only [Option.some.injEq, Prod.mk.injEq] at h
      rw [← h.2] at hγ; cases hγ
    · cases h
  | .pair a b, cs, x, y, ids, us, ps2, H0, h, hnd, hv, ht, hn2, hvl, hl, γ, hγ => by
    simp only [readT] at h
    split at h
    · rename_i y' z h1 h2
      simp only [Option.some.injEq, Prod.mk.injEq] at h
      obtain ⟨rfl, rfl⟩ := h
      obtain ⟨n1, n2, n3⟩ := List.nodup_append.1 hnd
      simp only [TreeF] at ht
      obtain ⟨c1, c2, p1, p2, rfl, rfl, g1, g2⟩ := ht
      rw [zr] at hn2
      obtain ⟨k1, k2, _⟩ := List.nodup_append.1 hn2
      have hs := hv.split (n := a.sz)
      have e1 : (c1 ++ c2).take a.sz = c1 := by rw [← g1.length, List.take_left]
      have e2 : (c1 ++ c2).drop a.sz = c2 := by rw [← g1.length, List.drop_left]
      rw [e1, e2] at hs
      simp only [putT]
      rcases List.mem_append.1 hγ with hγ | hγ
      · rw [z6 h2 γ fun h => n3 γ hγ γ h rfl]
        exact putT_in hH hshape h1 n1 hs.1 g1 k1 (fun p hp => hvl p (List.mem_append.2 (.inl hp))) hl γ hγ
      · exact putT_in hH hshape h2 n2 hs.2 g2 k2 (fun p hp => hvl p (List.mem_append.2 (.inr hp))) (by rw [zc7]; exact hl) γ hγ
    · cases h
  | .list e, cs, x, y, ids, us, ps2, H0, h, hnd, hv, ht, hn2, hvl, hl, γ, hγ => by
    rcases zhn h with ⟨rfl, rfl⟩ | ⟨δ, rfl, rfl, hb⟩
    · cases hγ
    simp at hγ
    subst hγ
    have hlive : ∃ z, H[γ]? = some z ∧ z ≠ .dead := by
      rcases hb with ⟨t, hb⟩ | hb
      · exact ⟨_, hb, by simp⟩
      · exact ⟨_, hb, by simp⟩
    obtain ⟨z, hz, hzd⟩ := hlive
    have hγl : γ < H.length := (List.getElem?_eq_some_iff.1 hz).1
    obtain ⟨u, rfl, hu⟩ := hv.single'
    refine ⟨childB e y, by simp only [putT]; rw [List.getElem?_set_self (by rw [hl]; exact hγl)], ?_, ?_⟩
    · intro hr
      rcases own_rel hH hz hzd hu with ⟨_, a, rfl⟩ | ⟨b, o, n, sz, c, hr2, _⟩
      · have hy : y = [] := by
          simp only [TreeF] at ht
          rcases ht with ⟨_, _, h2, _⟩ | ⟨b, o, c, C, tC, vs, t', _, h2, _⟩
          · exact h2
          · simp only [List.cons.injEq, Value.slice.injEq, and_true] at h2
            exact List.eq_nil_of_length_eq_zero h2.2.1.symm
        subst hy
        unfold childB
        cases e.noList
        · exact .inr ⟨e, rfl⟩
        · exact .inl ⟨e, rfl⟩
      · rw [hr] at hr2; cases hr2
    · intro b o n sz hr
      have hsz : e.sz = sz ∧ ∃ C tC, w.heap[b]? = some (.cells C tC (0, 0)) ∧ o + n * sz ≤ C.size := by
        obtain ⟨z2, h1, h2⟩ := hH.at_ γ hγl _ _ _ _ hr
        rcases hb with ⟨t, hb⟩ | hb
        · rw [hb] at h1
          simp only [Option.some.injEq] at h1
          subst h1
          simp only [BRel] at h2
          obtain ⟨_, g2, C, tC, g3, g4, _⟩ := h2
          exact ⟨g2, C, tC, g3, g4⟩
        · rw [hb] at h1
          simp only [Option.some.injEq] at h1
          subst h1
          simp only [BRel] at h2
          obtain ⟨_, g2, C, tC, us, tk, g3, g4, _⟩ := h2
          exact ⟨g2, C, tC, g3, g4⟩
      obtain ⟨rfl, C0, tC0, hC0, hsz0⟩ := hsz
      rcases own_rel hH hz hzd hu with ⟨hr2, _⟩ | ⟨b2, o2, n2, sz2, c, hr2, hc, rfl, _⟩
      · rw [hr] at hr2; cases hr2
      rw [hr] at hr2
      injection hr2 with e1 e2 e3 e4
      subst e1; subst e2; subst e3
      simp only [TreeF] at ht
      rcases ht with ⟨a, h1, rfl, _⟩ | ⟨b3, o3, c3, C, tC, vs, t', rfl, h2, h3, h4, h5, h6, h7, h8⟩
      · simp only [List.cons.injEq, Value.slice.injEq, and_true] at h1
        obtain ⟨_, rfl, _⟩ := h1
        obtain ⟨C', h9, h10⟩ := hshape _ _ _ _ hC0
        have := zhk (ρ := ρ) (o := o) (e := e) (xs := []) (us := []) (t' := []) h9 (by simp; omega) (by simp) (fun i v h => by simp at h) ⟨rfl, rfl⟩ List.nodup_nil (fun b h => by cases h)
        exact this
      · simp only [List.cons.injEq, Value.slice.injEq, Option.some.injEq, Addr.mk.injEq, and_true] at h2
        obtain ⟨⟨rfl, rfl⟩, rfl, rfl⟩ := h2
        simp [flatF] at hn2
        have hle : y.length * e.sz ≤ c * e.sz := Nat.mul_le_mul_right _ h3
        exact zhk h4 (by omega) h6 h7 h8 hn2.2 fun b' hb' => hvl (b, t') (by simp) b' hb'
theorem zc9 : ∀ {l : List Nat}, nodupB l = true → l.Nodup
  | [], _ => List.nodup_nil
  | x :: r, h => by
    simp only [nodupB, Bool.and_eq_true, Bool.not_eq_true', List.contains_eq_mem, decide_eq_false_iff_not] at h
    exact List.nodup_cons.2 ⟨h.1, zc9 h.2⟩
theorem zsn {P : Program} {f : FuncId} {tm : TM} (h : FnSpecM P f tm) : TESound P f tm.te := by
  intro ρ H w args vs (x : tm.K.T × Int) (y : tm.K.T × Int) v H' hH hv hun hview hfn hput
  obtain ⟨a, k, cs, x0, ids, rfl, hcs, hrd, hnd, rfl⟩ : ∃ a k cs x0 ids, args = [a, .int .i64 k] ∧ cellsOf tm.ag a = some cs ∧ readT false H tm.K cs = some (x0, ids) ∧ nodupB ids = true ∧ x = (x0, k) := by
    change (match (generalizing := false) args with
      | [a, .int .i64 k] => (match cellsOf tm.ag a with
        | some cs => (match readT false H tm.K cs with
          | some (x, ids) => cond (nodupB ids) (some (x, k)) none
          | none => none)
        | none => none)
      | _ => none) = some x at hview
    split at hview
    · rename_i a k
      split at hview
      · rename_i cs hcs
        split at hview
        · rename_i x0 ids hrd
          obtain ⟨h1, h2⟩ := (zc hview).resolve_right (by simp)
          simp only [Option.some.injEq] at h2
          exact ⟨a, k, cs, x0, ids, rfl, hcs, hrd, h1, h2.symm⟩
        · simp at hview
      · simp at hview
    · simp at hview
  have hput' : v = .int .i64 y.2 ∧ H' = putT tm.K y.1 cs H := by
    simp only [TM.te, hcs, Option.some.injEq, Prod.mk.injEq] at hput
    exact ⟨hput.1.symm, hput.2.symm⟩
  obtain ⟨rfl, rfl⟩ := hput'
  have hnd := zc9 hnd
  simp only [VRels] at hv
  obtain ⟨v0, vs0, rfl, hv0, v1, vs1, rfl, hv1, rfl⟩ := hv
  simp only [VRel] at hv1
  subst hv1
  obtain ⟨us, rfl, hus⟩ : ∃ us, v0 = valU tm.ag us ∧ VRels ρ w cs us := by
    unfold cellsOf at hcs
    cases hag : tm.ag with
    | true =>
      rw [hag] at hcs
      simp only at hcs
      split at hcs
      · simp only [Option.some.injEq] at hcs
        subst hcs
        simp only [VRel] at hv0
        obtain ⟨arr, rfl, h1⟩ := hv0
        exact ⟨arr.toList, by simp [valU], h1⟩
      · cases hcs
    | false =>
      rw [hag] at hcs
      simp only [Option.some.injEq] at hcs
      subst hcs
      exact ⟨[v0], by simp [valU], VRels.single hv0⟩
  obtain ⟨ps, hF, hnF, htok, hfst⟩ := zK hH hrd hus hnd
  have hsb : ∀ {β b o n sz}, ρ β = .at b o n sz → b < w.heap.size := fun h => hH.lt _ _ _ _ _ h
  have hlt : ∀ b ∈ flatF ps, b < w.heap.size := fun b hb => by
    obtain ⟨γ, _, b0, o, n, sz, h1, rfl | h2⟩ := htok b hb
    · exact hsb h1
    · exact hH.vlt h2
  have hag : tm.ag = false → tm.K.sz = 1 := fun hag => by
    rw [← hF.length]
    unfold cellsOf at hcs
    rw [hag] at hcs
    simp only [Option.some.injEq] at hcs
    have := hus.length
    rw [← hcs] at this
    simpa using this.symm
  refine Calls.mono (h w us ps x0 k y hF hnF hlt hfn hag) fun e w' he => ?_
  obtain ⟨rfl, hos, htape, hout, hsize, hkept, hshape, ps2, hF2, hnF2, hsub⟩ := he
  have hl1 : (putT tm.K y.1 cs H).length = H.length := zc7
  have hnot : ∀ b, ρ.vl b = none → (∀ γ o n sz, γ ∈ ids → ρ γ ≠ .at b o n sz) → b ∉ flatF ps := by
    intro b h1 h2 hb
    obtain ⟨γ, h3, b0, o, n, sz, h4, rfl | h5⟩ := htok b hb
    · exact h2 γ o n sz h3 h4
    · rw [h1] at h5; cases h5
  have hvl2 : ∀ p ∈ ps2, ∀ b ∈ p.2, ρ.vl b = some p.1 := by
    intro p2 hp2 b hb
    obtain ⟨p, hp, e1, h1⟩ := hsub p2 hp2
    obtain ⟨γ, _, o, n, sz, _, h2⟩ := hfst rfl p hp
    rw [e1]; exact h2 b (h1 b hb)
  have hstep : Step ρ w ρ w' := {
    os := hos, tape := htape, output := hout, size := hsize
    kept := fun b hb hn hv => hkept b hb (hnot b hv fun γ o n sz _ h => hn _ _ _ _ h)
    shape := hshape
    img := fun γ b o n sz hg => .inl ⟨γ, o, n, sz, hg⟩
    ref := fun γ _ => .inl rfl
    res := rfl
    vl := fun _ _ => rfl }
  have hin := putT_in hH hshape (H0 := H) hrd hnd hus hF2 hnF2 hvl2 rfl
  refine ⟨_, ρ, rfl, hstep, ?_, by simp [VRel], by rw [hl1]; omega, fun γ hg _ => hg, by simp [TM.te]⟩
  constructor
  · intro γ hl hd
    by_cases e : γ ∈ ids
    · obtain ⟨⟨z, h1, h2⟩, _⟩ := zc8 hrd γ e
      exact absurd hd (live_of hH h1 h2)
    · rw [z6 hrd γ e]; exact hH.dead γ (by omega) hd
  · intro γ hl hd
    by_cases e : γ ∈ ids
    · obtain ⟨blk, h1, h2, _⟩ := hin γ e
      rw [h1]
      rcases h2 hd with ⟨e2, rfl⟩ | ⟨e2, rfl⟩
      · exact .inl ⟨e2, 0, rfl⟩
      · exact .inr (.inr ⟨e2, rfl⟩)
    · rw [z6 hrd γ e]; exact hH.none_ γ (by omega) hd
  · intro γ hl b1 o1 n1 sz1 hq
    by_cases e : γ ∈ ids
    · obtain ⟨blk, h1, _, h3⟩ := hin γ e
      exact ⟨blk, h1, h3 _ _ _ _ hq⟩
    · obtain ⟨z, h3, h4⟩ := hH.at_ γ (by omega) _ _ _ _ hq
      have hne2 : ∀ δ o n sz, δ ∈ ids → ρ δ ≠ .at b1 o n sz := fun δ o n sz h5 h6 => e (by rw [hH.inj _ _ _ _ _ _ _ _ _ hq h6]; exact h5)
      have hv1 : ρ.vl b1 = none := by
        cases hvb : ρ.vl b1 with
        | none => rfl
        | some t => exact absurd (.inr (by rw [hvb]; simp)) (hH.resf _ _ _ _ _ hq)
      refine ⟨z, by rw [z6 hrd γ e]; exact h3, h4.keep hstep (hkept b1 (hsb hq) (hnot b1 hv1 hne2)) fun b' hb' => ⟨hH.vlt hb', hkept b' (hH.vlt hb') fun hbt => ?_⟩⟩
      obtain ⟨δ, h5, b0, o, n, sz, h6, rfl | h7⟩ := htok b' hbt
      · exact hH.resf _ _ _ _ _ h6 (.inr (by rw [hb']; simp))
      · rw [hb'] at h7
        simp only [Option.some.injEq] at h7
        subst h7
        exact hne2 _ _ _ _ h5 h6
  · exact hH.inj
  · intro γ b1 o1 n1 sz1 h1
    have := hsb h1; omega
  · intro b' h1; have := hH.resl b' h1; omega
  · exact hH.resf
end
theorem EntryOK.tm {P : Program} {f : Nat} {tm : TM} (h : FnSpecM P f tm) (hf : ∃ fn, P.funcs[f]? = some fn ∧ fn.name ≠ "runtime.NumGoroutine" ∧ fn.body.isSome = true) : EntryOK P f tm.te where
  snd := zsn h
  fn := hf
  ext hm := by simp [TM.te] at hm
  tch x y args H v H' hv hp := by
    change tm.K.T × Int at y
    change tm.K.T × Int at x
    obtain ⟨a, k, cs, x0, ids, rfl, hcs, hrd, hnd, rfl⟩ : ∃ a k cs x0 ids, args = [a, .int .i64 k] ∧ cellsOf tm.ag a = some cs ∧ readT false H tm.K cs = some (x0, ids) ∧ nodupB ids = true ∧ x = (x0, k) := by
      change (match (generalizing := false) args with
        | [a, .int .i64 k] => (match cellsOf tm.ag a with
          | some cs => (match readT false H tm.K cs with
            | some (x, ids) => cond (nodupB ids) (some (x, k)) none
            | none => none)
          | none => none)
        | _ => none) = some x at hv
      split at hv
      · rename_i a k
        split at hv
        · rename_i cs hcs
          split at hv
          · rename_i x0 ids hrd
            obtain ⟨h1, h2⟩ := (zc hv).resolve_right (by simp)
            simp only [Option.some.injEq] at h2
            exact ⟨a, k, cs, x0, ids, rfl, hcs, hrd, h1, h2.symm⟩
          · simp at hv
        · simp at hv
      · simp at hv
    have h2 : H' = putT tm.K y.1 cs H := by
      simp only [TM.te, hcs, Option.some.injEq, Prod.mk.injEq] at hp
      exact hp.2.symm
    subst h2
    refine ⟨by rw [zc7]; exact Nat.le_refl _, fun γ h1 h3 => z6 hrd γ fun hγ => h3 ?_⟩
    have := (zc8 hrd γ hγ).2
    simp only [List.headD_cons]
    unfold cellsOf at hcs
    split at hcs
    · split at hcs
      · simp only [Option.some.injEq] at hcs
        subst hcs
        simpa [SV.refs] using this
      · cases hcs
    · simp only [Option.some.injEq] at hcs
      subst hcs
      simpa [SV.refsL] using this
end Go.Proofs.Ytmkekjmckdkcnaa.Den
namespace Go.Proofs.Ytmkekjmckdkcnaa.Den
open Go Go.RowKit
section
variable {P : Program} {w w' : World} {ρ ρ' : Map} {H H' : Heap}
def endR (rv : List (Nat × Option (Nat × Bool))) (K : Kd) (ag : Bool) (ex : Ex) (τ : Env) (H : Heap) : Option K.T :=
  match ex with
  | .exit _ => none
  | _ => match evalRes τ H rv with
    | some [v] => match cellsOf ag v with
      | some cs => match readT true H K cs with
        | some (y, ids) => cond (nodupB ids) (some y) none
        | none => none
      | none => none
    | _ => none
theorem zml {ag : Bool} {v : SV} {cs : List SV} {u : Value} (hc : cellsOf ag v = some cs) (hv : VRel ρ w v u) : ∃ us, u = valU ag us ∧ VRels ρ w cs us ∧ (ag = false → us.length = 1) := by
  unfold cellsOf at hc
  cases ag with
  | true =>
    simp only at hc
    split at hc
    · simp only [Option.some.injEq] at hc
      subst hc
      simp only [VRel] at hv
      obtain ⟨arr, rfl, h1⟩ := hv
      exact ⟨arr.toList, by simp [valU], h1, fun h => by cases h⟩
    · cases hc
  | false =>
    simp only [Option.some.injEq] at hc
    subst hc
    exact ⟨[u], by simp [valU], VRels.single hv, fun _ => rfl⟩
theorem zmm {T : Tab} {f : FuncId} {fn : Func} {c : Code} {tr : TR} {frz : List Nat} {ann : List Norm} {cuts : List (Nat × Norm)} {ci : C} {j : Nat} {rv : List (Nat × Option (Nat × Bool))} (hT : TabOK P T) (hmix : P.follows .mixedOrders = true)
    (hf : P.funcs[f]? = some fn) (hb : fn.body = some c) (hl : lightC P frz fn.ntmps ann cuts 0 c = some (ci, j)) (ho : okC T c ci = true) (hn : tr.ps.len ≤ fn.ntmps) (hrv : lightRes P fn.results.toList = some rv)
    (hrun : ∀ x y, tr.fn x = some y → ∃ fuel, run T 0 fuel ci (env0 (svS tr.ps x) 0) [] (endR rv tr.K tr.ag) = some y) : FnSpecR P f tr := by
  intro w res vs x y hres hps hy
  refine calls_of_wp hf hb ?_
  let ρ0 : Map := ⟨fun _ => .unborn, res, fun _ => none⟩
  have hv : VRels ρ0 w (svS tr.ps x) vs := svS_rel (fun b hb => ⟨hb.1, fun h => hb.2 (res_new.1 h), fun _ _ _ _ h => by cases h⟩) hps
  have hvl := hv.length
  rw [svS_len] at hvl
  have hat : At P fn.ntmps ρ0 [] w (env0 (svS tr.ps x) 0) { tmps := vs.toArray ++ Array.replicate (fn.ntmps - vs.toArray.size) undef, defers := [] } := by
    refine ⟨⟨by simp; omega, rfl, fun n => ?_⟩, ?_, fun _ _ => rfl⟩
    · rw [zI]
      simp only [Nat.zero_le, if_true, Nat.sub_zero]
      split
      · rename_i s hs
        obtain ⟨u, h1, h2⟩ := hv.get n s hs
        have : (vs.toArray ++ Array.replicate (fn.ntmps - vs.toArray.size) undef).getD n undef = u := by
          rw [Array.getD_eq_getD_getElem?, Array.getElem?_append_left (by have := (List.getElem?_eq_some_iff.1 h1).1; simpa using this)]
          simp [h1]
        rw [this]; exact h2
      · simp [VRel]
    · exact ⟨fun β h => by simp at h, fun β h => by simp at h, fun β h => by simp at h, fun _ _ _ _ _ _ _ _ _ h => by (cases h), fun _ _ _ _ _ h => by (cases h), fun b hb => hres b (res_new.1 hb), fun _ _ _ _ _ h => by (cases h)⟩
  obtain ⟨fuel, hrun'⟩ := hrun x y hy
  refine zy hT hmix c hl ho hat hrun' fun ex τ' H' ρ' a' w' h1 h2 h3 => ?_
  have hend : ∃ v cs ids, evalRes τ' H' rv = some [v] ∧ cellsOf tr.ag v = some cs ∧ readT true H' tr.K cs = some (y, ids) ∧ ids.Nodup ∧ (ex = .normal ∨ ex = .ret) := by
    unfold endR at h3
    split at h3
    · simp at h3
    · rename_i hex
      have hex' : ex = .normal ∨ ex = .ret := by
        cases ex with
        | normal => exact .inl rfl
        | ret => exact .inr rfl
        | exit id => exact absurd rfl (hex id)
      split at h3
      · rename_i v h4
        split at h3
        · rename_i cs h5
          split at h3
          · rename_i y2 ids h6
            obtain ⟨h7, h8⟩ := (zc h3).resolve_right (by simp)
            simp only [Option.some.injEq] at h8
            subst h8
            exact ⟨v, cs, ids, h4, h5, h6, zc9 h7, hex'⟩
          · simp at h3
        · simp at h3
      · simp at h3
  obtain ⟨v, cs, ids, h4, h5, h6, hnd, hex⟩ := hend
  obtain ⟨vs2, h8, h9⟩ := zE h1.t h1.h hrv h4
  obtain ⟨u, h10, h11⟩ := h9.single'
  have hus : vs2 = #[u] := Array.toList_inj.1 (by simpa using h10)
  subst hus
  obtain ⟨us, rfl, h12, h13⟩ := zml h5 h11
  obtain ⟨ps, g1, g2, g3, _⟩ := zK h1.h h6 h12 hnd
  have hpost : a'.defers = [] ∧ ∃ v', (results fn a'.tmps).run P w' = .ok v' w' ∧ (fun e w' => ∃ us tk, e = Ending.returned (valU tr.ag us) ∧ w'.os = w.os ∧ w'.tape = w.tape ∧ w'.output = w.output ∧ w.heap.size ≤ w'.heap.size ∧ (∀ b, b < w.heap.size → w'.heap[b]? = w.heap[b]?) ∧
      tk.Nodup ∧ (∀ b ∈ tk, w.heap.size ≤ b ∧ b < w'.heap.size) ∧ TreeC w' tr.K y us tk ∧ (tr.ag = false → tr.K.sz = 1)) (Ending.returned v') w' := by
    refine ⟨h1.t.2.1, resU #[valU tr.ag us], h8, us, flatF ps, by simp [resU], h2.os, h2.tape, h2.output, h2.size, fun b hb => h2.kept b hb (fun _ _ _ _ h => by (cases h)) rfl, g2, fun b hb => ?_, g1.toC, fun hag => by rw [← g1.length]; exact h13 hag⟩
    obtain ⟨γ, _, b0, o, n, sz, k1, rfl | k2⟩ := g3 b hb
    · refine ⟨?_, h1.h.lt _ _ _ _ _ k1⟩
      rcases h2.img _ _ _ _ _ k1 with ⟨_, _, _, _, h⟩ | h
      · cases h
      · exact h
    · refine ⟨?_, h1.h.vlt k2⟩
      rcases h2.vln b b0 k2 with h | h
      · cases h
      · exact h.1
  rcases hex with rfl | rfl
  · exact hpost
  · exact hpost
theorem zho (hshape : ∀ (b : Nat) C t fr, w.heap[b]? = some (.cells C t fr) → ∃ C', w'.heap[b]? = some (.cells C' t fr) ∧ C'.size = C.size) : ∀ {K : Kd} {x : K.T} {k : Nat} {us : List Value}, (∀ i, i < (expl K x k).2.length → ρ (k + i) ≠ .dead ∧ ρ' (k + i) = ρ (k + i)) →
    VRels ρ w (expl K x k).1 us → VRels ρ' w' (expl K x k).1 us
  | .int _, x, k, us, _, h => by simpa only [expl, VRels, VRel] using h
  | .bool, x, k, us, _, h => by simpa only [expl, VRels, VRel] using h
  | .unit, x, k, us, _, h => by simpa only [expl, VRels] using h
  | .pair a b, x, k, us, hk, h => by
    simp only [expl] at h ⊢ hk
    have hs := h.split (n := (expl a x.1 k).1.length)
    rw [List.take_left, List.drop_left] at hs
    have e : us = us.take (expl a x.1 k).1.length ++ us.drop (expl a x.1 k).1.length := (List.take_append_drop _ _).symm
    rw [e]
    exact (zho hshape (fun i hi => hk i (by rw [List.length_append]; omega)) hs.1).append (zho hshape (fun i hi => by
      have := hk ((expl a x.1 k).2.length + i) (by rw [List.length_append]; omega)
      rw [← Nat.add_assoc] at this; exact this) hs.2)
  | .list e, xs, k, us, hk, h => by
    simp only [expl] at h ⊢ hk
    obtain ⟨u, rfl, hu⟩ := h.single'
    refine VRels.single ?_
    obtain ⟨hd, he⟩ := hk 0 (by simp)
    rw [Nat.add_zero] at hd he
    simp only [VRel] at hu ⊢
    rw [he]
    rcases hr : ρ k with _ | _ | _ | ⟨b, o, n, sz⟩ <;> rw [hr] at hu <;> simp only at hu ⊢
    · exact absurd hr hd
    · exact hu
    · obtain ⟨c, g1, g2, C, t, g3, g4⟩ := hu
      obtain ⟨C', g5, g6⟩ := hshape _ _ _ _ g3
      exact ⟨c, g1, g2, C', t, g5, by omega⟩
def explL (e : Kd) : List e.T → Nat → List SV × List Blk
  | [], _ => ([], [])
  | x :: xs, k => ((expl e x k).1 ++ (explL e xs (k + (expl e x k).2.length)).1, (expl e x k).2 ++ (explL e xs (k + (expl e x k).2.length)).2)
theorem zaO {e : Kd} : ∀ {xs : List e.T} {k : Nat}, (explL e xs k).1.length = xs.length * e.sz
  | [], k => by simp [explL]
  | x :: xs, k => by simp only [explL, List.length_append, zaN, zaO, List.length_cons, Nat.add_mul, Nat.one_mul]; omega
theorem SeqL.ent {e : Kd} : ∀ {xs : List e.T} {us : List Value} {tk : List Nat}, SeqL (TreeC w e) xs us tk → tk.Nodup → ∀ k, ∃ (ms : List Img) (qs : List (Nat × List Nat)), ms.length = (explL e xs k).2.length ∧ imgB ms = qs.map Prod.fst ∧ flatF qs = tk ∧
    ∀ ρ : Map, Agree ρ k ms → (∀ p ∈ qs, ∀ b ∈ p.2, ρ.vl b = some p.1) → VRels ρ w (explL e xs k).1 us ∧ ∀ (i : Nat) (x' : Blk) (m : Img), (explL e xs k).2[i]? = some x' → ms[i]? = some m → ChildAt ρ w x' m
  | [], us, tk, h, _, k => by
    simp only [SeqL] at h
    obtain ⟨rfl, rfl⟩ := h
    exact ⟨[], [], rfl, rfl, rfl, fun ρ _ _ => ⟨by simp [explL, VRels], fun i x' m h => by simp [explL] at h⟩⟩
  | x :: xs, us, tk, h, hnd, k => by
    simp only [SeqL] at h
    obtain ⟨c, us', t1, t2, rfl, rfl, h3, h4⟩ := h
    obtain ⟨n1, n2, _⟩ := List.nodup_append.1 hnd
    obtain ⟨ps, hF, rfl⟩ := h3.toF
    obtain ⟨m1, g1, g2, g3⟩ := hF.ent n1 k
    obtain ⟨m2, qs, k1, k2, k0, k3⟩ := h4.ent n2 (k + (expl e x k).2.length)
    refine ⟨m1 ++ m2, ps ++ qs, by simp [explL, g1, k1], by rw [zaM, g2, k2, List.map_append], by rw [zr, k0], fun ρ ha hv => ?_⟩
    have ha2 := ha.split
    rw [g1] at ha2
    obtain ⟨g4, g5⟩ := g3 ρ ha2.1 fun p hp => hv p (List.mem_append.2 (.inl hp))
    obtain ⟨k4, k5⟩ := k3 ρ ha2.2 fun p hp => hv p (List.mem_append.2 (.inr hp))
    refine ⟨by simp only [explL]; exact g4.append k4, fun i x' m hx hm => ?_⟩
    simp only [explL] at hx
    rcases Nat.lt_or_ge i (expl e x k).2.length with hi | hi
    · rw [List.getElem?_append_left hi] at hx
      rw [List.getElem?_append_left (by rw [g1]; exact hi)] at hm
      exact g5 i x' m hx hm
    · rw [List.getElem?_append_right hi] at hx
      rw [List.getElem?_append_right (by rw [g1]; exact hi), g1] at hm
      exact k5 _ x' m hx hm
theorem zeM {ps : List (Nat × List Nat)} : List.Sublist (ps.map Prod.fst) (flatF ps) := by
  induction ps with
  | nil => exact List.Sublist.slnil
  | cons p ps ih =>
    show List.Sublist (p.1 :: ps.map Prod.fst) ((p.1 :: p.2) ++ flatF ps)
    rw [List.cons_append]
    exact (ih.trans (List.sublist_append_right _ _)).cons_cons _
theorem zhp : ∀ {ps : List (Nat × List Nat)}, (flatF ps).Nodup → ∀ p ∈ ps, ∀ b ∈ p.2, b ∉ ps.map Prod.fst
  | [], _, p, hp, _, _, _ => by cases hp
  | r :: ps, hnd, p, hp, b, hb, hbi => by
    have hnd' : (flatF ([r] ++ ps)).Nodup := hnd
    rw [zr] at hnd'
    obtain ⟨n1, n2, n3⟩ := List.nodup_append.1 hnd'
    obtain ⟨q, hq, rfl⟩ := List.mem_map.1 hbi
    rcases List.mem_cons.1 hp with rfl | hp2 <;> rcases List.mem_cons.1 hq with rfl | hq2
    · simp [flatF] at n1; exact n1.1 hb
    · exact n3 _ (zd.2 ⟨p, by simp, .inr hb⟩) _ (zd.2 ⟨q, hq2, .inl rfl⟩) rfl
    · exact n3 _ (zd.2 ⟨q, by simp, .inl rfl⟩) _ (zd.2 ⟨p, hp2, .inr hb⟩) rfl
    · exact zhp n2 p hp2 _ hb (List.mem_map.2 ⟨q, hq2, rfl⟩)
def endM (rv : List (Nat × Option (Nat × Bool))) (dp : Bool) (K : Kd) (n0 : Nat) (cs : List SV) (ex : Ex) (τ : Env) (H : Heap) : Option (K.T × Int) :=
  match ex with
  | .exit _ => none
  | _ => match evalRes τ H rv with
    | some [.int .i64 m] => cond (Nat.beq H.length n0) (match readT dp H K cs with
      | some (y, ids) => cond (nodupB ids) (some (y, m)) none
      | none => none) none
    | _ => none
theorem zmn {rv : List (Nat × Option (Nat × Bool))} {dp : Bool} {K : Kd} {n0 : Nat} {cs : List SV} {ex : Ex} {τ : Env} {y : K.T × Int} (h : endM rv dp K n0 cs ex τ H = some y) :
    ∃ ids, evalRes τ H rv = some [.int .i64 y.2] ∧ H.length = n0 ∧ readT dp H K cs = some (y.1, ids) ∧ ids.Nodup ∧ (ex = .normal ∨ ex = .ret) := by
  unfold endM at h
  split at h
  · simp at h
  · rename_i hex
    have hex' : ex = .normal ∨ ex = .ret := by
      cases ex with
      | normal => exact .inl rfl
      | ret => exact .inr rfl
      | exit id => exact absurd rfl (hex id)
    split at h
    · rename_i m h4
      obtain ⟨h5, h⟩ := (zc h).resolve_right (by simp)
      split at h
      · rename_i y2 ids h6
        obtain ⟨h7, h8⟩ := (zc h).resolve_right (by simp)
        simp only [Option.some.injEq] at h8
        subst h8
        exact ⟨ids, h4, Nat.eq_of_beq_eq_true h5, h6, zc9 h7, hex'⟩
      · simp at h
    · simp at h
theorem zhq {N : Nat} {s : SV} {u : Value} {k : Int} (hn : 2 ≤ N) (hH : HRel ρ H w) (hu : ∀ β, H.length ≤ β → ρ β = .unborn) (hv : VRel ρ w s u) : At P N ρ H w (env0 [s, .int .i64 k] 0) { tmps := #[u, .int .i64 k] ++ Array.replicate (N - 2) undef, defers := [] } := by
  have hv2 : VRels ρ w [s, .int .i64 k] [u, .int .i64 k] := by
    simp only [VRels, VRel]
    exact ⟨u, _, rfl, hv, _, _, rfl, rfl, rfl⟩
  refine ⟨⟨by simp; omega, rfl, fun n => ?_⟩, hH, hu⟩
  rw [zI]
  simp only [Nat.zero_le, if_true, Nat.sub_zero]
  split
  · rename_i s hs
    obtain ⟨u', h1, h2⟩ := hv2.get n s hs
    have : (#[u, .int .i64 k] ++ Array.replicate (N - 2) undef).getD n undef = u' := by
      rw [Array.getD_eq_getD_getElem?, Array.getElem?_append_left (by have := (List.getElem?_eq_some_iff.1 h1).1; simpa using this)]
      rw [← Array.getElem?_toList, h1]
      rfl
    rw [this]; exact h2
  · simp [VRel]
theorem zmo {ms : List Img} {bs : List Blk} {ps : List (Nat × List Nat)} {res : Nat → Prop} (hml : ms.length = bs.length) (hnd : (imgB ms).Nodup) (hap : ∀ b, vlS ps b ≠ none → b ∉ imgB ms) (hlt : ∀ b ∈ imgB ms, b < w.heap.size) (hvlt : ∀ b, vlS ps b ≠ none → b < w.heap.size) (hres : ∀ b, res b → b < w.heap.size) (hresf : ∀ b, res b → b ∉ imgB ms) :
    let ρ0 : Map := ⟨fun β => match ms[β]? with | some m => m | none => .unborn, res, vlS ps⟩
    (∀ (i : Nat) (x' : Blk) (m : Img), bs[i]? = some x' → ms[i]? = some m → ChildAt ρ0 w x' m ∨ ∃ b o n sz, m = .at b o n sz ∧ BRel ρ0 w b o n sz x') → HRel ρ0 bs w ∧ (∀ β, bs.length ≤ β → ρ0 β = .unborn) ∧ Agree ρ0 0 ms := by
  intro ρ0 hch
  have hget : ∀ {β m}, ρ0 β = m → m ≠ .unborn → ms[β]? = some m := by
    intro β m h1 h2
    have h1 : (match ms[β]? with | some m => m | none => .unborn) = m := h1
    split at h1
    · rename_i m' h3; rw [h3, h1]
    · exact absurd h1.symm h2
  refine ⟨⟨fun β hl hd => ?_, fun β hl hd => ?_, fun β hl b o n sz hd => ?_, fun β γ b o n sz o' n' sz' h1 h2 => ?_, fun β b o n sz h1 => ?_, fun b hb => ?_, fun β b o n sz h1 h2 => ?_⟩, fun β hβ => ?_, fun i m hm => ?_⟩
  · have h1 := hget hd (by simp)
    rcases hch β _ _ (List.getElem?_eq_getElem hl) h1 with (⟨h2, _⟩ | ⟨_, _, _, _, h2, _⟩) | ⟨_, _, _, _, h2, _⟩ <;> cases h2
  · have h1 := hget hd (by simp)
    rcases hch β _ _ (List.getElem?_eq_getElem hl) h1 with (⟨_, ⟨e, h2⟩ | ⟨e, h2⟩⟩ | ⟨_, _, _, _, h2, _⟩) | ⟨_, _, _, _, h2, _⟩
    · exact .inl ⟨e, 0, by rw [List.getElem?_eq_getElem hl, h2]⟩
    · exact .inr (.inr ⟨e, by rw [List.getElem?_eq_getElem hl, h2]⟩)
    · cases h2
    · cases h2
  · have h1 := hget hd (by simp)
    rcases hch β _ _ (List.getElem?_eq_getElem hl) h1 with (⟨h2, _⟩ | ⟨_, _, _, _, h2, h3⟩) | ⟨_, _, _, _, h2, h3⟩
    · cases h2
    · cases h2; exact ⟨_, List.getElem?_eq_getElem hl, h3⟩
    · cases h2; exact ⟨_, List.getElem?_eq_getElem hl, h3⟩
  · exact zeL hnd (hget h1 (by simp)) (hget h2 (by simp))
  · exact hlt b (zg (hget h1 (by simp)))
  · rcases hb with hb | hb
    · exact hres b hb
    · exact hvlt b hb
  · have := zg (hget h1 (by simp))
    rcases h2 with h2 | h2
    · exact hresf b h2 this
    · exact hap b h2 this
  · show (match ms[β]? with | some m => m | none => .unborn) = _
    rw [List.getElem?_eq_none (by rw [hml]; exact hβ)]
  · show (match ms[0 + i]? with | some m => m | none => .unborn) = m
    rw [Nat.zero_add, hm]
theorem zda {T : Tab} {f : FuncId} {fn : Func} {c : Code} {tm : TM} {frz : List Nat} {ann : List Norm} {cuts : List (Nat × Norm)} {ci : C} {j : Nat} {rv : List (Nat × Option (Nat × Bool))} (hT : TabOK P T) (hmix : P.follows .mixedOrders = true)
    (hf : P.funcs[f]? = some fn) (hb : fn.body = some c) (hl : lightC P frz fn.ntmps ann cuts 0 c = some (ci, j)) (ho : okC T c ci = true) (hn : 2 ≤ fn.ntmps) (hrv : lightRes P fn.results.toList = some rv)
    (hrun : ∀ x k y, tm.fn (x, k) = some y → ∃ fuel, run T (expl tm.K x 0).2.length fuel ci (env0 [valOf tm.ag (expl tm.K x 0).1, .int .i64 k] 0) (expl tm.K x 0).2 (endM rv false tm.K (expl tm.K x 0).2.length (expl tm.K x 0).1) = some y) : FnSpecM P f tm := by
  intro w us ps x k y hF hnd hlt hy hag
  refine calls_of_wp hf hb ?_
  obtain ⟨ms, hml, himg, hent⟩ := hF.ent hnd 0
  obtain ⟨fuel, hr⟩ := hrun x k y hy
  let ρ0 : Map := ⟨fun β => match ms[β]? with | some m => m | none => .unborn, fun b => b < w.heap.size ∧ b ∉ flatF ps, vlS ps⟩
  have hvl0 : ∀ p ∈ ps, ∀ b ∈ p.2, ρ0.vl b = some p.1 := fun p hp b hb => zc6 hnd hp hb
  have hag1 : Agree ρ0 0 ms := fun i m hm => by
    show (match ms[0 + i]? with | some m => m | none => .unborn) = m
    rw [Nat.zero_add, hm]
  obtain ⟨hvr, hch⟩ := hent ρ0 hag1 hvl0
  have himgf : ∀ b ∈ imgB ms, b ∈ flatF ps := fun b hb => zeM.subset (by rw [← himg]; exact hb)
  obtain ⟨hH, hun, _⟩ := zmo (w := w) (ps := ps) (res := fun b => b < w.heap.size ∧ b ∉ flatF ps) hml (by rw [himg]; exact zeM.nodup hnd) (fun b hb => by
      cases hq : vlS ps b with
      | none => exact absurd hq hb
      | some t =>
        obtain ⟨p, hp, h1, _⟩ := vlS_mem hq
        rw [himg]; exact zhp hnd p hp b h1) (fun b hb => hlt b (himgf b hb)) (fun b hb => by
      cases hq : vlS ps b with
      | none => exact absurd hq hb
      | some t =>
        obtain ⟨p, hp, h1, _⟩ := vlS_mem hq
        exact hlt b (zd.2 ⟨p, hp, .inr h1⟩)) (fun b hb => hb.1) (fun b hb h => hb.2 (himgf b h)) (fun i x' m h1 h2 => .inl (hch i x' m h1 h2))
  have hat := zhq (P := P) (k := k) hn hH hun (zhm hvr fun h => by rw [hF.length]; exact hag h)
  refine zy hT hmix c hl ho hat hr fun ex τ' H' ρ' a' w' h1 h2 h3 => ?_
  obtain ⟨ids, h4, hl2, h5, hnd2, hex⟩ := zmn h3
  obtain ⟨vs2, h8, h9⟩ := zE h1.t h1.h hrv h4
  obtain ⟨u', h10, h11⟩ := h9.single'
  have hus : vs2 = #[u'] := Array.toList_inj.1 (by simpa using h10)
  subst hus
  simp only [VRel] at h11
  subst h11
  have hkeep : ∀ γ, γ < ms.length → ρ0 γ ≠ .unborn := fun γ hγ h => by
    have hx := List.getElem?_eq_getElem (l := (expl tm.K x 0).2) (i := γ) (by rw [← hml]; exact hγ)
    have hm := List.getElem?_eq_getElem hγ
    rcases hch γ _ _ hx hm with ⟨h2, _⟩ | ⟨_, _, _, _, h2, _⟩ <;> rw [← hag1 γ _ hm, Nat.zero_add, h] at h2 <;> cases h2
  have hnd0 : ∀ γ, γ < ms.length → ρ0 γ ≠ .dead := fun γ hγ h => by
    have hx := List.getElem?_eq_getElem (l := (expl tm.K x 0).2) (i := γ) (by rw [← hml]; exact hγ)
    have hm := List.getElem?_eq_getElem hγ
    rcases hch γ _ _ hx hm with ⟨h2, _⟩ | ⟨_, _, _, _, h2, _⟩ <;> rw [← hag1 γ _ hm, Nat.zero_add, h] at h2 <;> cases h2
  -- all names that are read at the end
  have hsame : ∀ γ, γ ∈ ids → γ < ms.length ∧ ρ' γ = ρ0 γ := by
    intro γ hγ
    obtain ⟨⟨z, g1, g2⟩, _⟩ := zc8 h5 γ hγ
    have hγl : γ < H'.length := (List.getElem?_eq_some_iff.1 g1).1
    have hγm : γ < ms.length := by rw [hml]; omega
    refine ⟨hγm, ?_⟩
    rcases h2.ref γ (by rw [← hml]; exact hγm) (hkeep γ hγm) with e | e
    · exact e
    · exact absurd e (live_of h1.h g1 g2)
  have hall : ∀ γ, γ < ms.length → γ ∈ ids := by
    intro γ hγ
    have h6 := expl_ids h5 γ (by rw [← hml]; omega)
    simpa using h6
  have hv2 : VRels ρ' w' (expl tm.K x 0).1 us := zho h2.shape (fun i hi => by
    rw [Nat.zero_add]
    exact ⟨hnd0 i (by rw [hml]; exact hi), (hsame i (hall i (by rw [hml]; exact hi))).2⟩) hvr
  obtain ⟨ps2, g1, g2, g3, g4⟩ := zK h1.h h5 hv2 hnd2
  have hpost : a'.defers = [] ∧ ∃ v', (results fn a'.tmps).run P w' = .ok v' w' ∧ (fun e w' => e = Ending.returned (.int .i64 y.2) ∧ w'.os = w.os ∧ w'.tape = w.tape ∧ w'.output = w.output ∧ w.heap.size ≤ w'.heap.size ∧ (∀ b, b < w.heap.size → b ∉ flatF ps → w'.heap[b]? = w.heap[b]?) ∧
      (∀ (b : Nat) C t fr, w.heap[b]? = some (.cells C t fr) → ∃ C', w'.heap[b]? = some (.cells C' t fr) ∧ C'.size = C.size) ∧
      ∃ ps2, TreeF w' tm.K y.1 us ps2 ∧ (flatF ps2).Nodup ∧ ∀ p2 ∈ ps2, ∃ p ∈ ps, p2.1 = p.1 ∧ ∀ b ∈ p2.2, b ∈ p.2) (Ending.returned v') w' := by
    refine ⟨h1.t.2.1, resU #[.int .i64 y.2], h8, by simp [resU], h2.os, h2.tape, h2.output, h2.size, fun b hb hbt => ?_, h2.shape, ps2, g1, g2, fun p2 hp2 => ?_⟩
    · refine h2.kept b hb (fun β o n sz h => hbt (himgf b ?_)) ?_
      · have h : (match ms[β]? with | some m => m | none => .unborn) = .at b o n sz := h
        split at h
        · rename_i m hm; subst h; exact zg hm
        · cases h
      · exact zhl fun p hp h => hbt (zd.2 ⟨p, hp, .inr h⟩)
    · obtain ⟨γ, k1, o, n, sz, k2, k3⟩ := g4 rfl p2 hp2
      obtain ⟨k4, k5⟩ := hsame γ k1
      rw [k5] at k2
      have hm := List.getElem?_eq_getElem k4
      have e0 := hag1 γ _ hm
      rw [Nat.zero_add, k2] at e0
      have hb0 : p2.1 ∈ imgB ms := zg (i := γ) (by rw [hm, ← e0])
      rw [himg] at hb0
      obtain ⟨p, hp, e1⟩ := List.mem_map.1 hb0
      refine ⟨p, hp, e1.symm, fun b hb => ?_⟩
      rcases h2.vln b _ (k3 b hb) with h | ⟨_, h⟩
      · obtain ⟨q, hq, h6, h7⟩ := vlS_mem h
        have : q = p := by
          have hq1 : q.1 = p.1 := by rw [h7, e1]
          exact fstF_inj hnd hq hp hq1
        rw [← this]; exact h6
      · exact absurd (hlt p2.1 (by rw [← e1]; exact zd.2 ⟨p, hp, .inl rfl⟩)) (by omega)
  rcases hex with rfl | rfl
  · exact hpost
  · exact hpost
where
  expl_ids : ∀ {K : Kd} {x y : K.T} {k : Nat} {ids : List Nat} {H : Heap}, readT false H K (expl K x k).1 = some (y, ids) → ∀ i, i < (expl K x k).2.length → (k + i) ∈ ids
    | .int _, _, _, _, _, _, _, i, hi => by simp [expl] at hi
    | .bool, _, _, _, _, _, _, i, hi => by simp [expl] at hi
    | .unit, _, _, _, _, _, _, i, hi => by simp [expl] at hi
    | .pair a b, x, y, k, ids, H, h, i, hi => by
      simp only [readT, expl] at h
      rw [show a.sz = (expl a x.1 k).1.length from zaN.symm, List.take_left, List.drop_left] at h
      split at h
      · rename_i y' z h1 h2
        simp only [Option.some.injEq, Prod.mk.injEq] at h
        obtain ⟨rfl, rfl⟩ := h
        simp only [expl, List.length_append] at hi
        rcases Nat.lt_or_ge i (expl a x.1 k).2.length with h3 | h3
        · exact List.mem_append.2 (.inl (expl_ids h1 i h3))
        · have := expl_ids h2 (i - (expl a x.1 k).2.length) (by omega)
          rw [show k + (expl a x.1 k).2.length + (i - (expl a x.1 k).2.length) = k + i by omega] at this
          exact List.mem_append.2 (.inr this)
      · cases h
    | .list e, x, y, k, ids, H, h, i, hi => by
      simp only [expl, List.length_singleton] at hi
      have : i = 0 := by omega
      subst this
      simp only [expl] at h
      rcases zhn h with ⟨h1, _⟩ | ⟨γ, h1, rfl, _⟩
      · simp at h1
      · simp at h1; subst h1; simp
  fstF_inj : ∀ {ps : List (Nat × List Nat)} {p q : Nat × List Nat}, (flatF ps).Nodup → p ∈ ps → q ∈ ps → p.1 = q.1 → p = q
    | [], _, _, _, h, _, _ => by cases h
    | r :: ps, p, q, hnd, hp, hq, e => by
      have hnd' : (flatF ([r] ++ ps)).Nodup := hnd
      rw [zr] at hnd'
      obtain ⟨n1, n2, n3⟩ := List.nodup_append.1 hnd'
      rcases List.mem_cons.1 hp with rfl | hp2 <;> rcases List.mem_cons.1 hq with rfl | hq2
      · rfl
      · exact absurd e (n3 _ (zd.2 ⟨p, by simp, .inl rfl⟩) _ (zd.2 ⟨q, hq2, .inl rfl⟩))
      · exact absurd e.symm (n3 _ (zd.2 ⟨q, by simp, .inl rfl⟩) _ (zd.2 ⟨p, hp2, .inl rfl⟩))
      · exact fstF_inj n2 hp2 hq2 e
end
end Go.Proofs.Ytmkekjmckdkcnaa.Den
namespace Go.Proofs.Ytmkekjmckdkcnaa.Den
open Go Go.RowKit
section
variable {P : Program} {w w' : World} {ρ ρ' : Map} {H H' : Heap}
abbrev openH (e : Kd) (xs : List e.T) : Heap := .cells (explL e xs 1).1 0 e.sz :: (explL e xs 1).2
theorem zso {T : Tab} {f : FuncId} {fn : Func} {c : Code} {e : Kd} {fnM : List e.T × Int → Option (List e.T × Int)} {frz : List Nat} {ann : List Norm} {cuts : List (Nat × Norm)} {ci : C} {j : Nat} {rv : List (Nat × Option (Nat × Bool))} (hT : TabOK P T) (hmix : P.follows .mixedOrders = true)
    (hf : P.funcs[f]? = some fn) (hb : fn.body = some c) (hl : lightC P frz fn.ntmps ann cuts 0 c = some (ci, j)) (ho : okC T c ci = true) (hn : 2 ≤ fn.ntmps) (hrv : lightRes P fn.results.toList = some rv)
    (hrun0 : ∀ k y, fnM ([], k) = some y → y.1 = [] ∧ ∃ fuel, run T 0 fuel ci (env0 [.es e [], .int .i64 k] 0) [] (fun ex τ H => match ex with
      | .exit _ => none
      | _ => evalRes τ H rv) = some [.int .i64 y.2])
    (hrun : ∀ xs k y, xs ≠ [] → fnM (xs, k) = some y → ∃ fuel, run T ((explL e xs 1).2.length + 1) fuel ci (env0 [.own 0, .int .i64 k] 0) (openH e xs) (endM rv true (.list e) ((explL e xs 1).2.length + 1) [.own 0]) = some y) : FnSpecM P f ⟨.list e, false, fnM⟩ := by
  intro w us ps (x : List e.T) k (y : List e.T × Int) hF hnd hlt hy _
  refine calls_of_wp hf hb ?_
  have hF0 := hF
  simp only [TreeF] at hF
  have hU : ∃ u, us = [u] := by
    rcases hF with ⟨a, rfl, _⟩ | ⟨b, o, c, C, tC, vs, t', rfl, rfl, _⟩ <;> exact ⟨_, rfl⟩
  obtain ⟨u, rfl⟩ := hU
  by_cases hx : x = []
  · subst hx
    obtain ⟨hy1, fuel, hr⟩ := hrun0 k y hy
    let ρ0 : Map := ⟨fun _ => .unborn, fun b => b < w.heap.size, fun _ => none⟩
    have hat := zhq (P := P) (N := fn.ntmps) (w := w) (ρ := ρ0) (H := []) (s := .es e []) (u := u) (k := k) hn ⟨fun β h => by simp at h, fun β h => by simp at h, fun β h => by simp at h, fun _ _ _ _ _ _ _ _ _ h => by (cases h), fun _ _ _ _ _ h => by (cases h), fun b hb => (res_new (f := fun _ => .unborn) (res := fun b => b < w.heap.size)).1 hb, fun _ _ _ _ _ h => by (cases h)⟩ (fun _ _ => rfl) (by
      rcases hF with ⟨a, h1, _⟩ | ⟨b, o, c, C, tC, vs, t', _, h1, h2, _⟩
      · simp at h1; subst h1
        exact ⟨a, 0, rfl, Nat.le_refl _, fun h => absurd h (by simp)⟩
      · simp at h1; subst h1
        exact ⟨_, c, rfl, Nat.zero_le _, fun h => absurd h (by simp)⟩)
    refine zy hT hmix c hl ho hat hr fun ex τ' H' ρ' a' w' h1 h2 h3 => ?_
    have hend : evalRes τ' H' rv = some [.int .i64 y.2] ∧ (ex = .normal ∨ ex = .ret) := by
      cases ex with
      | normal => exact ⟨h3, .inl rfl⟩
      | ret => exact ⟨h3, .inr rfl⟩
      | exit id => simp at h3
    obtain ⟨h4, hex⟩ := hend
    obtain ⟨vs2, h8, h9⟩ := zE h1.t h1.h hrv h4
    obtain ⟨u', h10, h11⟩ := h9.single'
    have hus : vs2 = #[u'] := Array.toList_inj.1 (by simpa using h10)
    subst hus
    simp only [VRel] at h11
    subst h11
    have hk : ∀ b, b < w.heap.size → w'.heap[b]? = w.heap[b]? := fun b hb => h2.kept b hb (fun _ _ _ _ h => by (cases h)) rfl
    have hpost : a'.defers = [] ∧ ∃ v', (results fn a'.tmps).run P w' = .ok v' w' ∧ (fun e' w' => e' = Ending.returned (.int .i64 y.2) ∧ w'.os = w.os ∧ w'.tape = w.tape ∧ w'.output = w.output ∧ w.heap.size ≤ w'.heap.size ∧ (∀ b, b < w.heap.size → b ∉ flatF ps → w'.heap[b]? = w.heap[b]?) ∧
      (∀ (b : Nat) C t fr, w.heap[b]? = some (.cells C t fr) → ∃ C', w'.heap[b]? = some (.cells C' t fr) ∧ C'.size = C.size) ∧
      ∃ ps2, TreeF w' (.list e) y.1 [u] ps2 ∧ (flatF ps2).Nodup ∧ ∀ p2 ∈ ps2, ∃ p ∈ ps, p2.1 = p.1 ∧ ∀ b ∈ p2.2, b ∈ p.2) (Ending.returned v') w' := by
      refine ⟨h1.t.2.1, resU #[.int .i64 y.2], h8, by simp [resU], h2.os, h2.tape, h2.output, h2.size, fun b hb _ => hk b hb, h2.shape, ?_⟩
      obtain ⟨ps', g1, g2⟩ := (TreeC.keep (w' := w') (fun b hb => hk b (hlt b hb)) hF0.toC).toF
      refine ⟨ps, ?_, hnd, fun p hp => ⟨p, hp, rfl, fun b hb => hb⟩⟩
      rw [hy1]
      simp only [TreeF]
      rcases hF with h | ⟨b, o, c, C, tC, vs, t', rfl, e1, e2, e3, e4, e5, e6, e7⟩
      · exact .inl (by simpa using h)
      · refine .inr ⟨b, o, c, C, tC, vs, t', rfl, e1, e2, by rw [hk b (hlt b (by simp [flatF]))]; exact e3, e4, e5, e6, e7.mono fun x _ c t ht h8 => h8.keep fun b' hb' => hk b' (hlt b' (by simp [flatF, ht b' hb']))⟩
    rcases hex with rfl | rfl
    · exact hpost
    · exact hpost
  obtain ⟨fuel, hr⟩ := hrun x k y hx hy
  rcases hF with ⟨_, _, h, _⟩ | ⟨b, o, c, C, tC, vs, t', rfl, hu, e2, e3, e4, e5, e6, e7⟩
  · exact absurd h hx
  simp only [List.cons.injEq, and_true] at hu
  subst hu
  have hnd' : b ∉ t' ∧ t'.Nodup := by simpa [flatF] using hnd
  have hltb : b < w.heap.size := hlt b (by simp [flatF])
  have hltt : ∀ b' ∈ t', b' < w.heap.size := fun b' hb' => hlt b' (by simp [flatF, hb'])
  obtain ⟨ms, qs, hml, himg, hflat, hent⟩ := e7.ent hnd'.2 1
  have hqs : (flatF qs).Nodup := by rw [hflat]; exact hnd'.2
  have himgt : ∀ b' ∈ imgB ms, b' ∈ t' := fun b' hb' => by rw [← hflat]; exact zeM.subset (by rw [← himg]; exact hb')
  have hvlt : ∀ {b' t}, vlS qs b' = some t → b' ∈ t' ∧ ∃ p ∈ qs, b' ∈ p.2 ∧ p.1 = t := fun {b' t} h => by
    obtain ⟨p, hp, h1, h2⟩ := vlS_mem h
    exact ⟨by rw [← hflat]; exact zd.2 ⟨p, hp, .inr h1⟩, p, hp, h1, h2⟩
  let M0 : Img := .at b o x.length e.sz
  let ρ0 : Map := ⟨fun β => match (M0 :: ms)[β]? with | some m => m | none => .unborn, fun b' => b' < w.heap.size ∧ b' ∉ b :: t', vlS qs⟩
  have hag1 : Agree ρ0 1 ms := fun i m hm => by
    show (match (M0 :: ms)[1 + i]? with | some m => m | none => .unborn) = m
    rw [Nat.add_comm, List.getElem?_cons_succ, hm]
  obtain ⟨hvr, hch⟩ := hent ρ0 hag1 fun p hp b' hb' => zc6 hqs hp hb'
  have himg0 : imgB (M0 :: ms) = b :: imgB ms := rfl
  have hle : x.length * e.sz ≤ c * e.sz := Nat.mul_le_mul_right _ e2
  obtain ⟨hH, hun, hag0⟩ := zmo (w := w) (ms := M0 :: ms) (bs := openH e x) (ps := qs) (res := fun b' => b' < w.heap.size ∧ b' ∉ b :: t') (by simp [hml]) (by
      rw [himg0]
      exact List.nodup_cons.2 ⟨fun h => hnd'.1 (himgt b h), by rw [himg]; exact zeM.nodup hqs⟩) (fun b' hb' => by
      cases hq : vlS qs b' with
      | none => exact absurd hq hb'
      | some t =>
        obtain ⟨h1, p, hp, h2, _⟩ := hvlt hq
        rw [himg0]
        intro h3
        rcases List.mem_cons.1 h3 with rfl | h3
        · exact hnd'.1 h1
        · rw [himg] at h3; exact zhp hqs p hp b' h2 h3) (fun b' hb' => by
      rw [himg0] at hb'
      rcases List.mem_cons.1 hb' with rfl | h
      · exact hltb
      · exact hltt _ (himgt _ h)) (fun b' hb' => by
      cases hq : vlS qs b' with
      | none => exact absurd hq hb'
      | some t => exact hltt _ (hvlt hq).1) (fun b' hb' => hb'.1) (fun b' hb' h => by
      rw [himg0] at h
      rcases List.mem_cons.1 h with rfl | h
      · exact hb'.2 (by simp)
      · exact hb'.2 (by simp [himgt _ h])) (fun i x' m h1 h2 => by
      cases i with
      | zero =>
        simp at h1 h2
        subst h1; subst h2
        refine .inr ⟨_, _, _, _, rfl, ?_⟩
        simp only [BRel]
        refine ⟨trivial, zaO, C, tC, e3, by omega, fun j s hs => ?_⟩
        obtain ⟨u2, h3, h4⟩ := hvr.get j s hs
        exact ⟨u2, e6 j u2 h3, h4⟩
      | succ i => exact .inl (hch i x' m (by simpa using h1) (by simpa using h2)))
  have hρ00 : ρ0 0 = M0 := rfl
  have hv0 : VRel ρ0 w (.own 0) (.slice (some ⟨b, o, none⟩) x.length c) := by
    simp only [VRel, hρ00, M0]
    exact ⟨c, e2, rfl, C, tC, e3, e4⟩
  have hat := zhq (P := P) (k := k) hn hH hun hv0
  refine zy hT hmix _ hl ho hat hr fun ex τ' H' ρ' a' w' h1 h2 h3 => ?_
  obtain ⟨ids, h4, hl2, h5, hnd2, hex⟩ := zmn h3
  obtain ⟨vs2, h8, h9⟩ := zE h1.t h1.h hrv h4
  obtain ⟨u', h10, h11⟩ := h9.single'
  have hus : vs2 = #[u'] := Array.toList_inj.1 (by simpa using h10)
  subst hus
  simp only [VRel] at h11
  subst h11
  have hb0 : ∃ z, H'[0]? = some z ∧ z ≠ .dead := by
    simp only [readT] at h5
    split at h5
    · rename_i hb; exact ⟨_, hb, by simp⟩
    · rename_i hb; exact ⟨_, hb, by simp⟩
    · rename_i hb; exact ⟨_, hb, by simp⟩
    · cases h5
  obtain ⟨z, hz0, hzd⟩ := hb0
  have hsame : ∀ γ b0 o0 n0 sz0, ρ' γ = .at b0 o0 n0 sz0 → ρ0 γ = .at b0 o0 n0 sz0 := by
    intro γ b0 o0 n0 sz0 h
    have hγ : γ < ms.length + 1 := by
      rcases Nat.lt_or_ge γ (ms.length + 1) with h6 | h6
      · exact h6
      · have := h1.u γ (by rw [hl2, ← hml]; exact h6)
        rw [this] at h; cases h
    have hm := List.getElem?_eq_getElem (l := M0 :: ms) (i := γ) (by simpa using hγ)
    have hne : ρ0 γ ≠ .unborn := by
      have e1 : ρ0 (0 + γ) = (M0 :: ms)[γ] := hag0 γ _ hm
      rw [Nat.zero_add] at e1
      intro h7
      rw [h7] at e1
      cases γ with
      | zero => simp [M0] at e1
      | succ i =>
        have hx2 := List.getElem?_eq_getElem (l := (explL e x 1).2) (i := i) (by rw [← hml]; omega)
        have hm2 : ms[i]? = some (M0 :: ms)[i + 1] := by rw [← hm]; rfl
        rcases hch i _ _ hx2 hm2 with ⟨h8, _⟩ | ⟨_, _, _, _, h8, _⟩ <;> rw [← e1] at h8 <;> cases h8
    rcases h2.ref γ (by rw [← hml]; exact hγ) hne with e1 | e1
    · have e1 : ρ' γ = ρ0 γ := e1
      rw [← e1]; exact h
    · rw [e1] at h; cases h
  have hv1 : VRel ρ' w' (.own 0) (.slice (some ⟨b, o, none⟩) x.length c) := by
    have hne0 : ρ0 0 ≠ .unborn := by rw [hρ00]; simp [M0]
    have e1 : ρ' 0 = ρ0 0 := by
      rcases h2.ref 0 (by omega) hne0 with e1 | e1
      · exact e1
      · exact absurd e1 (live_of h1.h hz0 hzd)
    simp only [VRel, e1, hρ00, M0]
    obtain ⟨C', g5, g6⟩ := h2.shape _ _ _ _ e3
    exact ⟨c, e2, rfl, C', tC, g5, by omega⟩
  obtain ⟨ps2, g1, g2, g3, _⟩ := zK h1.h h5 (VRels.single hv1) hnd2
  have hpost : a'.defers = [] ∧ ∃ v', (results fn a'.tmps).run P w' = .ok v' w' ∧ (fun e' w' => e' = Ending.returned (.int .i64 y.2) ∧ w'.os = w.os ∧ w'.tape = w.tape ∧ w'.output = w.output ∧ w.heap.size ≤ w'.heap.size ∧ (∀ b', b' < w.heap.size → b' ∉ flatF [(b, t')] → w'.heap[b']? = w.heap[b']?) ∧
      (∀ (b : Nat) C t fr, w.heap[b]? = some (.cells C t fr) → ∃ C', w'.heap[b]? = some (.cells C' t fr) ∧ C'.size = C.size) ∧
      ∃ ps2, TreeF w' (.list e) y.1 [.slice (some ⟨b, o, none⟩) x.length c] ps2 ∧ (flatF ps2).Nodup ∧ ∀ p2 ∈ ps2, ∃ p ∈ [(b, t')], p2.1 = p.1 ∧ ∀ b ∈ p2.2, b ∈ p.2) (Ending.returned v') w' := by
    refine ⟨h1.t.2.1, resU #[.int .i64 y.2], h8, by simp [resU], h2.os, h2.tape, h2.output, h2.size, fun b' hb' hbt => ?_, h2.shape, ps2, g1, g2, fun p2 hp2 => ⟨(b, t'), by simp, ?_⟩⟩
    · have hbt' : b' ≠ b ∧ b' ∉ t' := by simpa [flatF] using hbt
      refine h2.kept b' hb' (fun β o n sz h => ?_) ?_
      · have h : (match (M0 :: ms)[β]? with | some m => m | none => .unborn) = .at b' o n sz := h
        split at h
        · rename_i m hm
          subst h
          have := zg hm
          rw [himg0] at this
          rcases List.mem_cons.1 this with h6 | h6
          · exact hbt'.1 h6
          · exact hbt'.2 (himgt _ h6)
        · cases h
      · cases hq : vlS qs b' with
        | none => exact hq
        | some t => exact absurd (hvlt hq).1 hbt'.2
    · simp only [TreeF] at g1
      rcases g1 with ⟨_, _, _, rfl⟩ | ⟨b3, o3, c3, C3, tC3, vs3, t3, rfl, h6, _⟩
      · cases hp2
      · simp only [List.cons.injEq, Value.slice.injEq, Option.some.injEq, Addr.mk.injEq, and_true] at h6
        obtain ⟨⟨rfl, rfl⟩, _, _⟩ := h6
        simp at hp2
        subst hp2
        refine ⟨rfl, fun b' hb' => ?_⟩
        simp [flatF] at g2
        obtain ⟨γ, k1, b0, o0, n0, sz0, k2, rfl | k3⟩ := g3 b' (by simp [flatF, hb'])
        · have := hsame γ _ _ _ _ k2
          have h : (match (M0 :: ms)[γ]? with | some m => m | none => .unborn) = .at b' o0 n0 sz0 := this
          split at h
          · rename_i m hm
            subst h
            have := zg hm
            rw [himg0] at this
            rcases List.mem_cons.1 this with h6 | h6
            · subst h6; exact absurd hb' g2.1
            · exact himgt _ h6
          · cases h
        · rcases h2.vln b' b0 k3 with h | ⟨_, h⟩
          · exact (hvlt h).1
          · have := hH.lt _ _ _ _ _ (hsame γ _ _ _ _ k2); omega
  rcases hex with rfl | rfl
  · exact hpost
  · exact hpost
end
end Go.Proofs.Ytmkekjmckdkcnaa.Den
