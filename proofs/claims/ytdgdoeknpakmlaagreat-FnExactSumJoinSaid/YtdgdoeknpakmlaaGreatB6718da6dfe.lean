/- Part 4 of the texts behind the row. -/
import Derived.Test.YtdgdoeknpakmlaaGreatB80c9ed5aff
set_option linter.unusedVariables false
set_option linter.unusedSimpArgs false
namespace Go.Proofs.YtdgdoeknpakmlaaGreat.Den
open Go Go.RowKit
def okC (T : Tab) : Code → C → Bool
  | .region _ ops d, .reg _ gs => !d || orderOK T ops.toList gs
  | .region _ ops d, .seq (.reg _ gs) (.cut _) => !d || orderOK T ops.toList gs
  | .region _ ops d, .seq (.cut _) (.reg _ gs) => !d || orderOK T ops.toList gs
  | .seq a b, .seq x y => okC T a x && okC T b y
  | .cond _ a b, .cnd _ x y => okC T a x && okC T b y
  | .block _ a, .blk _ x => okC T a x
  | .loop a, .loop _ x => okC T a x
  | .skip, .skip => true
  | .exit _, .exit _ => true
  | .ret, .ret => true
  | _, .bad => true
  | _, _ => false
def Ex.toExit : Ex → Exit
  | .normal => .normal
  | .exit id => .exit id
  | .ret => .ret
theorem zdr {p : Nat → Prop} (h : ∃ m, p m) : ∃ m, p m ∧ ∀ k, p k → m ≤ k := by
  obtain ⟨m, hm⟩ := h
  induction m using Nat.strongRecOn with
  | ind m ih =>
    by_cases h2 : ∃ k, k < m ∧ p k
    · obtain ⟨k, h3, h4⟩ := h2
      exact ih k h3 h4
    · exact ⟨m, hm, fun k hk => Nat.le_of_not_lt fun h5 => h2 ⟨k, h5, hk⟩⟩
section
variable {P : Program} {T : Tab} {N n0 fuel : Nat} {frz : List Nat} {ann : List Norm} {cuts : List (Nat × Norm)}
theorem zq2 (hT : TabOK P T) (hmix : P.follows .mixedOrders = true) {id : Nat} {ops : Array Oper} {d : Bool} {gs : List GI} (hl : lightOps P frz N ops ops.toList = some gs) (ho : (!d || orderOK T ops.toList gs) = true)
    {R : Type} {τ : Env} {H : Heap} {ρ : Map} {a : Act} {w : World} {k : Env → Heap → Option R} {r : R} (hat : At P N ρ H w τ a) (he : (match (generalizing := false) d with | true => runRD T gs [] [] τ H k | false => runR T gs τ H k) = some r) {Q : Exit → Act → World → Prop}
    (hQ : ∀ τ' H' ρ' a' w', At P N ρ' H' w' τ' a' → Step ρ w ρ' w' → k τ' H' = some r → Q .normal a' w') : (Code.region id ops d).wp P Q a w := by
  obtain ⟨h1, h2⟩ := zB0 hl
  cases d with
  | false =>
    exact wp_region_list (zB1 hT h1 h2 hat he hQ)
  | true =>
    refine wp_region_any hmix ?_
    have hat' : At P N ρ H w.drew τ a := ⟨⟨hat.t.1, hat.t.2.1, fun n => (hat.t.2.2 n).step Step.drew⟩, hat.h.drew, hat.u⟩
    exact zNQ (w := w.drew) hT (by rw [h1]; simp) (by simpa using ho) (fun j o gi h3 h4 => h2 j o gi (by rw [Array.getElem?_toList]; exact h3) h4) hat' he
      fun τ' H' ρ' a' w' h3 h4 h5 => hQ τ' H' ρ' a' w' h3 (Step.drew.trans h4) h5
theorem zaD (hT : TabOK P T) (hmix : P.follows .mixedOrders = true) : ∀ (c : Code) {i : Nat} {ci : C} {j : Nat}, lightC P frz N ann cuts i c = some (ci, j) → okC T c ci = true →
    ∀ {R : Type} {τ : Env} {H : Heap} {ρ : Map} {a : Act} {w : World} {k : Ex → Env → Heap → Option R} {r : R}, At P N ρ H w τ a → run T n0 fuel ci τ H k = some r →
    ∀ {Q : Exit → Act → World → Prop}, (∀ ex τ' H' ρ' a' w', At P N ρ' H' w' τ' a' → StepN n0 ρ w ρ' w' → k ex τ' H' = some r → Q ex.toExit a' w') → c.wp P Q a w := by
  intro c
  induction c with
  | skip =>
    intro i ci j hl ho R τ H ρ a w k r hat he Q hQ
    simp only [lightC, Option.some.injEq, Prod.mk.injEq] at hl
    obtain ⟨rfl, _⟩ := hl
    simp only [run] at he
    exact wp_skip (hQ .normal τ H ρ a w hat StepN.refl he)
  | region id ops d =>
    intro i ci j hl ho R τ H ρ a w k r hat he Q hQ
    simp only [lightC] at hl
    split at hl
    · rename_i gs h1 _
      split at hl
      · split at hl
        · simp only [Option.some.injEq, Prod.mk.injEq] at hl
          obtain ⟨rfl, _⟩ := hl
          simp only [run] at he
          simp only [okC] at ho
          exact zq2 hT hmix h1 ho hat he fun τ' H' ρ' a' w' h3 h4 h5 => hQ .normal τ' H' ρ' a' w' h3 h4.toN h5
        · rename_i nm hnm
          simp only [Option.some.injEq, Prod.mk.injEq] at hl
          obtain ⟨rfl, _⟩ := hl
          simp only [run, normK] at he
          simp only [okC] at ho
          split at he
          · rename_i τ2 H2 h6
            obtain ⟨ρ2, h7, h8⟩ := zl3 hat h6
            simp only [seqK] at he
            exact zq2 hT hmix h1 ho h7 he fun τ' H' ρ' a' w' h3 h4 h5 => hQ .normal τ' H' ρ' a' w' h3 (h8.trans h4.toN) h5
          · simp at he
      · rename_i nm hnm
        simp only [Option.some.injEq, Prod.mk.injEq] at hl
        obtain ⟨rfl, _⟩ := hl
        simp only [run] at he
        simp only [okC] at ho
        refine zq2 hT hmix h1 ho hat he fun τ' H' ρ' a' w' h3 h4 h5 => ?_
        simp only [seqK, run, normK] at h5
        split at h5
        · rename_i τ2 H2 h6
          obtain ⟨ρ2, h7, h8⟩ := zl3 h3 h6
          exact hQ .normal τ2 H2 ρ2 a' w' h7 (h4.toN.trans h8) h5
        · simp at h5
    · simp only [Option.some.injEq, Prod.mk.injEq] at hl
      obtain ⟨rfl, _⟩ := hl
      simp [run] at he
  | seq x y ihx ihy =>
    intro i ci j hl ho R τ H ρ a w k r hat he Q hQ
    simp only [lightC] at hl
    split at hl
    · rename_i cx jx hx
      split at hl
      · rename_i cy jy hy
        simp only [Option.some.injEq, Prod.mk.injEq] at hl
        obtain ⟨rfl, _⟩ := hl
        simp only [okC, Bool.and_eq_true] at ho
        simp only [run] at he
        refine wp_seq (ihx hx ho.1 hat he fun ex τ' H' ρ' a' w' h1 h2 h3 => ?_)
        cases ex with
        | normal => exact ihy hy ho.2 h1 h3 fun ex τ2 H2 ρ2 a2 w2 h4 h5 h6 => hQ ex τ2 H2 ρ2 a2 w2 h4 (h2.trans h5) h6
        | exit id => exact hQ (.exit id) τ' H' ρ' a' w' h1 h2 h3
        | ret => exact hQ .ret τ' H' ρ' a' w' h1 h2 h3
      · simp at hl
    · simp at hl
  | cond s x y ihx ihy =>
    intro i ci j hl ho R τ H ρ a w k r hat he Q hQ
    simp only [lightC] at hl
    split at hl
    · rename_i sx cx jx hs hx
      split at hl
      · rename_i cy jy hy
        simp only [Option.some.injEq, Prod.mk.injEq] at hl
        obtain ⟨rfl, _⟩ := hl
        simp only [okC, Bool.and_eq_true] at ho
        simp only [run] at he
        split at he
        · rename_i b hb
          have hv := opL_rel hat.t hs
          rw [hb] at hv
          simp only [VRel] at hv
          refine wp_cond hv ?_
          rcases zd he with ⟨rfl, he⟩ | ⟨rfl, he⟩
          · exact ihx hx ho.1 hat he hQ
          · exact ihy hy ho.2 hat he hQ
        · simp at he
      · simp at hl
    · simp at hl
  | block id x ih =>
    intro i ci j hl ho R τ H ρ a w k r hat he Q hQ
    simp only [lightC] at hl
    split at hl
    · rename_i cx jx hx
      simp only [Option.some.injEq, Prod.mk.injEq] at hl
      obtain ⟨rfl, _⟩ := hl
      simp only [okC] at ho
      simp only [run] at he
      refine wp_block (ih hx ho hat he fun ex τ' H' ρ' a' w' h1 h2 h3 => ?_)
      cases ex with
      | normal => exact hQ .normal τ' H' ρ' a' w' h1 h2 h3
      | ret => exact hQ .ret τ' H' ρ' a' w' h1 h2 h3
      | exit id' =>
        simp only [Ex.toExit, Exit.inBlock]
        simp only [blkK] at h3
        rcases zd h3 with ⟨h4, h5⟩ | ⟨h4, h5⟩
        · rw [if_pos (Nat.eq_of_beq_eq_true h4)]; exact hQ .normal τ' H' ρ' a' w' h1 h2 h5
        · rw [if_neg (fun e => by rw [e] at h4; simp at h4)]; exact hQ (.exit id') τ' H' ρ' a' w' h1 h2 h5
    · simp at hl
  | loop x ih =>
    intro i ci j hl ho R τ H ρ a w k r hat he Q hQ
    simp only [lightC] at hl
    split at hl
    · rename_i nm cx jx hnm hx
      simp only [Option.some.injEq, Prod.mk.injEq] at hl
      obtain ⟨rfl, _⟩ := hl
      simp only [okC] at ho
      simp only [run, normK] at he
      split at he
      · rename_i τ1 H1 hn
        obtain ⟨ρ1, hat1, hst1⟩ := zl3 hat hn
        let J : Nat → Act → World → Prop := fun m a' w' => ∃ τ' H' ρ', At P N ρ' H' w' τ' a' ∧ StepN n0 ρ w ρ' w' ∧ loopN (run T n0 fuel cx) n0 nm m τ' H' k = some r
        have hJ : ∃ m, J m a w := ⟨fuel, τ1, H1, ρ1, hat1, hst1, he⟩
        classical
        refine wp_loop (fun a' w' => ∃ m, J m a' w') (fun a' w' => if h : ∃ m, J m a' w' then Classical.choose (zdr h) else 0) hJ fun a1 w1 hI => ?_
        have hm := (Classical.choose_spec (zdr hI)).1
        have hμ : (if h : ∃ m, J m a1 w1 then Classical.choose (zdr h) else 0) = Classical.choose (zdr hI) := dif_pos hI
        rw [hμ]
        generalize Classical.choose (zdr hI) = m at hm ⊢
        obtain ⟨τ2, H2, ρ2, hat2, hst2, hl2⟩ := hm
        cases m with
        | zero => simp [loopN] at hl2
        | succ m =>
          simp only [loopN] at hl2
          refine ih hx ho hat2 hl2 fun ex τ3 H3 ρ3 a3 w3 h1 h2 h3 => ?_
          cases ex with
          | exit id => exact hQ (.exit id) τ3 H3 ρ3 a3 w3 h1 (hst2.trans h2) h3
          | ret => exact hQ .ret τ3 H3 ρ3 a3 w3 h1 (hst2.trans h2) h3
          | normal =>
            simp only [loopK, normK] at h3
            split at h3
            · rename_i τ4 H4 hn4
              obtain ⟨ρ4, hat4, hst4⟩ := zl3 h1 hn4
              have hJ4 : J m a3 w3 := ⟨τ4, H4, ρ4, hat4, (hst2.trans h2).trans hst4, h3⟩
              refine ⟨⟨m, hJ4⟩, ?_⟩
              have hI4 : ∃ m, J m a3 w3 := ⟨m, hJ4⟩
              rw [dif_pos hI4]
              have := (Classical.choose_spec (zdr hI4)).2 m hJ4
              omega
            · simp at h3
      · simp at he
    · simp at hl
  | exit id =>
    intro i ci j hl ho R τ H ρ a w k r hat he Q hQ
    simp only [lightC, Option.some.injEq, Prod.mk.injEq] at hl
    obtain ⟨rfl, _⟩ := hl
    simp only [run] at he
    exact wp_exit (hQ (.exit id) τ H ρ a w hat StepN.refl he)
  | ret =>
    intro i ci j hl ho R τ H ρ a w k r hat he Q hQ
    simp only [lightC, Option.some.injEq, Prod.mk.injEq] at hl
    obtain ⟨rfl, _⟩ := hl
    simp only [run] at he
    exact wp_ret (hQ .ret τ H ρ a w hat StepN.refl he)
  | _ =>
    intro i ci j hl ho R τ H ρ a w k r hat he Q hQ
    simp only [lightC, Option.some.injEq, Prod.mk.injEq] at hl
    obtain ⟨rfl, _⟩ := hl
    simp [run] at he
end
end Go.Proofs.YtdgdoeknpakmlaaGreat.Den
namespace Go.Proofs.YtdgdoeknpakmlaaGreat.Den
open Go Go.RowKit
structure Pm where
  cs : List (Kd × Bool)
  ag : Bool
@[reducible] def CsT : List (Kd × Bool) → Type
  | [] => Unit
  | p :: r => p.1.T × CsT r
@[reducible] def PsT : List Pm → Type
  | [] => Unit
  | p :: r => CsT p.cs × PsT r
def viewCs (H : Heap) : (cs : List (Kd × Bool)) → List SV → Option (CsT cs)
  | [], [] => some ()
  | (K, _) :: r, s :: ss => match decH true H K [s], viewCs H r ss with
    | some x, some y => some (x, y)
    | _, _ => none
  | _, _ => none
def cellsP (ag : Bool) (s : SV) : Option (List SV) :=
  match ag with
  | true => match s with
    | .agg cs => some cs
    | _ => none
  | false => some [s]
def viewPs (H : Heap) : (ps : List Pm) → List SV → Option (PsT ps)
  | [], [] => some ()
  | p :: r, s :: ss => match cellsP p.ag s with
    | some cs => match viewCs H p.cs cs, viewPs H r ss with
      | some x, some y => some (x, y)
      | _, _ => none
    | none => none
  | _, _ => none
def encS : (K : Kd) → K.T → SV
  | .int k, n => .int k n
  | .bool, b => .bool b
  | .list e, xs => .es e xs
  | _, _ => .junk
def svCs : (cs : List (Kd × Bool)) → CsT cs → List SV
  | [], _ => []
  | (K, _) :: r, x => encS K x.1 :: svCs r x.2
def svPs : (ps : List Pm) → PsT ps → List SV
  | [], _ => []
  | p :: r, x => (match p.ag with
    | true => .agg (svCs p.cs x.1)
    | false => (svCs p.cs x.1).headD .junk) :: svPs r x.2
def putCs : (cs : List (Kd × Bool)) → CsT cs → Heap → List SV × Heap
  | [], _, H => ([], H)
  | (.list e, true) :: r, x, H => ((.own H.length) :: (putCs r x.2 (H ++ [.arr e x.1 0])).1, (putCs r x.2 (H ++ [.arr e x.1 0])).2)
  | (K, _) :: r, x, H => (encS K x.1 :: (putCs r x.2 H).1, (putCs r x.2 H).2)
def putPs : (ps : List Pm) → PsT ps → Heap → List SV × Heap
  | [], _, H => ([], H)
  | p :: r, x, H => ((match p.ag with
    | true => .agg (putCs p.cs x.1 H).1
    | false => (putCs p.cs x.1 H).1.headD .junk) :: (putPs r x.2 (putCs p.cs x.1 H).2).1, (putPs r x.2 (putCs p.cs x.1 H).2).2)
def resV : List SV → SV
  | [s] => s
  | ss => .tup ss
structure TF where
  ps : List Pm
  rs : List Pm
  flat : Bool
  fn : PsT ps → Option (PsT rs)
def TF.te (tf : TF) : TE where
  X := PsT tf.ps
  Y := PsT tf.rs
  mono := true
  view args H := cond tf.flat (viewPs H tf.ps args) (viewPs [] tf.ps args)
  fn := tf.fn
  put _ y _ H := some (resV (putPs tf.rs y H).1, (putPs tf.rs y H).2)
def CsRel (w : World) (B : Nat → Prop) : (cs : List (Kd × Bool)) → CsT cs → List Value → Prop
  | [], _, us => us = []
  | (K, _) :: r, x, us => ∃ u us', us = u :: us' ∧ CRel w B K x.1 [u] ∧ CsRel w B r x.2 us'
def PsRel (w : World) (B : Nat → Prop) : (ps : List Pm) → PsT ps → List Value → Prop
  | [], _, vs => vs = []
  | p :: r, x, vs => ∃ v vs', vs = v :: vs' ∧ (match p.ag with
    | true => ∃ us : Array Value, v = .agg us ∧ CsRel w B p.cs x.1 us.toList
    | false => CsRel w B p.cs x.1 [v]) ∧ PsRel w B r x.2 vs'
def CsOut (w : World) (B : Nat → Prop) : (cs : List (Kd × Bool)) → CsT cs → List Value → List Nat → Prop
  | [], _, us, tk => us = [] ∧ tk = []
  | (.list e, true) :: r, x, us, tk => ∃ u us' t1 t2, us = u :: us' ∧ tk = t1 ++ t2 ∧ OwnAt w B e x.1 u t1 ∧ CsOut w B r x.2 us' t2
  | (K, _) :: r, x, us, tk => ∃ u us', us = u :: us' ∧ CRel w B K x.1 [u] ∧ CsOut w B r x.2 us' tk
def PsOut (w : World) (B : Nat → Prop) : (ps : List Pm) → PsT ps → List Value → List Nat → Prop
  | [], _, vs, tk => vs = [] ∧ tk = []
  | p :: r, x, vs, tk => ∃ v vs' t1 t2, vs = v :: vs' ∧ tk = t1 ++ t2 ∧ (match p.ag with
    | true => ∃ us : Array Value, v = .agg us ∧ CsOut w B p.cs x.1 us.toList t1
    | false => CsOut w B p.cs x.1 [v] t1) ∧ PsOut w B r x.2 vs' t2
def resU (vs : Array Value) : Value := if h : vs.size = 1 then vs[0] else .tuple vs
def FnSpec (P : Program) (f : FuncId) (tf : TF) : Prop :=
  ∀ (w : World) (res : Nat → Prop) (vs : List Value) (x : PsT tf.ps) (y : PsT tf.rs), (∀ b, res b → b < w.heap.size) → PsRel w (fun b => b < w.heap.size ∧ ¬ res b) tf.ps x vs → tf.fn x = some y →
    Calls P f vs.toArray w fun e w' => ∃ us tk, e = .returned (resU us) ∧ w'.os = w.os ∧ w'.tape = w.tape ∧ w'.output = w.output ∧ w.heap.size ≤ w'.heap.size ∧ (∀ b, b < w.heap.size → w'.heap[b]? = w.heap[b]?) ∧
      tk.Nodup ∧ (∀ b ∈ tk, w.heap.size ≤ b ∧ b < w'.heap.size) ∧ PsOut w' (fun b => b < w'.heap.size ∧ ¬ res b ∧ b ∉ tk) tf.rs y us.toList tk
def cellOK : Kd × Bool → Bool
  | (.list e, f) => f && e.noList
  | (K, _) => K.noList
def TF.ok (tf : TF) : Bool := !tf.flat || tf.rs.all fun p => p.cs.all cellOK
section
variable {w : World} {ρ : Map} {H : Heap}
theorem CsRel.of_view {B : Nat → Prop} (hd : ∀ {K : Kd} {s : SV} {x : K.T} {u : Value}, decH true H K [s] = some x → VRel ρ w s u → CRel w B K x [u]) : ∀ {cs : List (Kd × Bool)} {ss : List SV} {x : CsT cs} {us : List Value},
    viewCs H cs ss = some x → VRels ρ w ss us → CsRel w B cs x us
  | [], [], x, us, h, hv => by simp only [VRels] at hv; exact hv
  | [], _ :: _, x, us, h, hv => by simp [viewCs] at h
  | (K, f) :: r, [], x, us, h, hv => by simp [viewCs] at h
  | (K, f) :: r, s :: ss, x, us, h, hv => by
    simp only [viewCs] at h
    split at h
    · rename_i y z h1 h2
      simp only [Option.some.injEq] at h; subst h
      simp only [VRels] at hv
      obtain ⟨u, us', rfl, h3, h4⟩ := hv
      exact ⟨u, us', rfl, hd h1 h3, CsRel.of_view hd h2 h4⟩
    · simp at h
theorem PsRel.of_view {B : Nat → Prop} (hd : ∀ {K : Kd} {s : SV} {x : K.T} {u : Value}, decH true H K [s] = some x → VRel ρ w s u → CRel w B K x [u]) : ∀ {ps : List Pm} {ss : List SV} {x : PsT ps} {vs : List Value},
    viewPs H ps ss = some x → VRels ρ w ss vs → PsRel w B ps x vs
  | [], [], x, vs, h, hv => by simp only [VRels] at hv; exact hv
  | [], _ :: _, x, vs, h, hv => by simp [viewPs] at h
  | p :: r, [], x, vs, h, hv => by simp [viewPs] at h
  | p :: r, s :: ss, x, vs, h, hv => by
    simp only [viewPs] at h
    split at h
    · rename_i cs hc
      split at h
      · rename_i y z h1 h2
        simp only [Option.some.injEq] at h; subst h
        simp only [VRels] at hv
        obtain ⟨v, vs', rfl, h3, h4⟩ := hv
        refine ⟨v, vs', rfl, ?_, PsRel.of_view hd h2 h4⟩
        cases hag : p.ag with
        | true =>
          rw [hag] at hc
          simp only [cellsP] at hc
          split at hc
          · simp only [Option.some.injEq] at hc; subst hc
            simp only [VRel] at h3
            obtain ⟨us, rfl, h5⟩ := h3
            exact ⟨us, rfl, CsRel.of_view hd h1 h5⟩
          · simp at hc
        | false =>
          rw [hag] at hc
          simp only [cellsP, Option.some.injEq] at hc; subst hc
          exact CsRel.of_view hd h1 (VRels.single h3)
      · simp at h
    · simp at h
theorem za4 {B : Nat → Prop} (hB : ∀ b, B b → Free ρ w b) : ∀ {K : Kd} {x : K.T} {u : Value}, CRel w B K x [u] → VRel ρ w (encS K x) u
  | .int k, n, u, h => by simp only [CRel] at h; simp at h; subst h; simp [encS, VRel]
  | .bool, b, u, h => by simp only [CRel] at h; simp at h; subst h; simp [encS, VRel]
  | .unit, _, u, h => by simp only [CRel] at h; simp at h
  | .pair a b, _, u, h => by simp [encS, VRel]
  | .list e, xs, u, h => by simp only [encS, VRel]; exact CRel.mono hB (fun _ _ => rfl) h
theorem zds {B : Nat → Prop} (hB : ∀ b, B b → Free ρ w b) : ∀ {cs : List (Kd × Bool)} {x : CsT cs} {us : List Value}, CsRel w B cs x us → VRels ρ w (svCs cs x) us
  | [], x, us, h => by simp only [CsRel] at h; subst h; simp [svCs, VRels]
  | (K, f) :: r, x, us, h => by
    simp only [CsRel] at h
    obtain ⟨u, us', rfl, h1, h2⟩ := h
    simp only [svCs, VRels]
    exact ⟨u, us', rfl, za4 hB h1, zds hB h2⟩
theorem zl4 {B : Nat → Prop} (hB : ∀ b, B b → Free ρ w b) : ∀ {ps : List Pm} {x : PsT ps} {vs : List Value}, PsRel w B ps x vs → VRels ρ w (svPs ps x) vs
  | [], x, vs, h => by simp only [PsRel] at h; subst h; simp [svPs, VRels]
  | p :: r, x, vs, h => by
    simp only [PsRel] at h
    obtain ⟨v, vs', rfl, h1, h2⟩ := h
    simp only [svPs, VRels]
    refine ⟨v, vs', rfl, ?_, zl4 hB h2⟩
    cases hag : p.ag with
    | true =>
      rw [hag] at h1
      obtain ⟨us, rfl, h3⟩ := h1
      simp only [VRel]
      exact ⟨us, rfl, zds hB h3⟩
    | false =>
      rw [hag] at h1
      have h3 := zds hB h1
      cases hs : svCs p.cs x.1 with
      | nil => rw [hs] at h3; simp [VRels] at h3
      | cons s l =>
        rw [hs] at h3
        simp only [VRels] at h3
        obtain ⟨u, us', e, h4, _⟩ := h3
        simp at e
        simp only [List.headD_cons, e.1]; exact h4
theorem zhS {B B' : Nat → Prop} : ∀ {K : Kd} {x : K.T} {us : List Value}, K.noList = true → CRel w B K x us → CRel w B' K x us
  | .int _, _, _, _, h => h
  | .bool, _, _, _, h => h
  | .unit, _, _, _, h => h
  | .pair a b, x, us, hn, h => by
    simp only [Kd.noList, Bool.and_eq_true] at hn
    simp only [CRel] at h ⊢
    obtain ⟨c1, c2, e, h1, h2⟩ := h
    exact ⟨c1, c2, e, zhS hn.1 h1, zhS hn.2 h2⟩
  | .list _, _, _, hn, _ => by simp [Kd.noList] at hn
theorem OwnAt.mono {B B' : Nat → Prop} (hB : ∀ b, B b → B' b) {e : Kd} {xs : List e.T} {u : Value} {tk : List Nat} (h : OwnAt w B e xs u tk) : OwnAt w B' e xs u tk := by
  rcases h with h | ⟨b, o, c, C, tC, h1, h2, h3, h4, h5, h6⟩
  · exact .inl h
  · exact .inr ⟨b, o, c, C, tC, h1, h2, h3, h4, h5, fun i x hx => by
      obtain ⟨es, h7, h8⟩ := h6 i x hx
      exact ⟨es, CRel.mono hB (fun _ _ => rfl) h7, h8⟩⟩
theorem OwnAt.noList {B B' : Nat → Prop} {e : Kd} {xs : List e.T} {u : Value} {tk : List Nat} (hn : e.noList = true) (h : OwnAt w B e xs u tk) : OwnAt w B' e xs u tk := by
  rcases h with h | ⟨b, o, c, C, tC, h1, h2, h3, h4, h5, h6⟩
  · exact .inl h
  · exact .inr ⟨b, o, c, C, tC, h1, h2, h3, h4, h5, fun i x hx => by
      obtain ⟨es, h7, h8⟩ := h6 i x hx
      exact ⟨es, zhS hn h7, h8⟩⟩
theorem CsOut.mono {B B' : Nat → Prop} : ∀ {cs : List (Kd × Bool)} {x : CsT cs} {us : List Value} {tk : List Nat}, ((∀ b, B b → B' b) ∨ cs.all cellOK = true) → CsOut w B cs x us tk → CsOut w B' cs x us tk
  | [], x, us, tk, hB, h => h
  | (.list e, true) :: r, x, us, tk, hB, h => by
    simp only [CsOut] at h ⊢
    obtain ⟨u, us', t1, t2, h1, h2, h3, h4⟩ := h
    rcases hB with hB | hB
    · exact ⟨u, us', t1, t2, h1, h2, h3.mono hB, CsOut.mono (.inl hB) h4⟩
    · simp only [List.all_cons, Bool.and_eq_true] at hB
      exact ⟨u, us', t1, t2, h1, h2, h3.noList (by simpa [cellOK] using hB.1), CsOut.mono (.inr hB.2) h4⟩
  | (.list e, false) :: r, x, us, tk, hB, h => by
    simp only [CsOut] at h ⊢
    obtain ⟨u, us', h1, h3, h4⟩ := h
    rcases hB with hB | hB
    · exact ⟨u, us', h1, CRel.mono hB (fun _ _ => rfl) h3, CsOut.mono (.inl hB) h4⟩
    · simp [cellOK] at hB
  | (.int k, f) :: r, x, us, tk, hB, h => by
    simp only [CsOut] at h ⊢
    obtain ⟨u, us', h1, h3, h4⟩ := h
    exact ⟨u, us', h1, h3, CsOut.mono (hB.imp id fun h => by simp only [List.all_cons, Bool.and_eq_true] at h; exact h.2) h4⟩
  | (.bool, f) :: r, x, us, tk, hB, h => by
    simp only [CsOut] at h ⊢
    obtain ⟨u, us', h1, h3, h4⟩ := h
    exact ⟨u, us', h1, h3, CsOut.mono (hB.imp id fun h => by simp only [List.all_cons, Bool.and_eq_true] at h; exact h.2) h4⟩
  | (.unit, f) :: r, x, us, tk, hB, h => by
    simp only [CsOut] at h ⊢
    obtain ⟨u, us', h1, h3, h4⟩ := h
    exact ⟨u, us', h1, h3, CsOut.mono (hB.imp id fun h => by simp only [List.all_cons, Bool.and_eq_true] at h; exact h.2) h4⟩
  | (.pair a b, f) :: r, x, us, tk, hB, h => by
    simp only [CsOut] at h ⊢
    obtain ⟨u, us', h1, h3, h4⟩ := h
    refine ⟨u, us', h1, ?_, CsOut.mono (hB.imp id fun h => by simp only [List.all_cons, Bool.and_eq_true] at h; exact h.2) h4⟩
    rcases hB with hB | hB
    · exact CRel.mono hB (fun _ _ => rfl) h3
    · simp only [List.all_cons, Bool.and_eq_true] at hB
      exact zhS (by simpa [cellOK] using hB.1) h3
theorem PsOut.mono {B B' : Nat → Prop} : ∀ {ps : List Pm} {x : PsT ps} {vs : List Value} {tk : List Nat}, ((∀ b, B b → B' b) ∨ ps.all (fun p => p.cs.all cellOK) = true) → PsOut w B ps x vs tk → PsOut w B' ps x vs tk
  | [], x, vs, tk, hB, h => h
  | p :: r, x, vs, tk, hB, h => by
    simp only [PsOut] at h ⊢
    obtain ⟨v, vs', t1, t2, h1, h2, h3, h4⟩ := h
    have hB1 : (∀ b, B b → B' b) ∨ p.cs.all cellOK = true := hB.imp id fun h => by simp only [List.all_cons, Bool.and_eq_true] at h; exact h.1
    have hB2 : (∀ b, B b → B' b) ∨ r.all (fun p => p.cs.all cellOK) = true := hB.imp id fun h => by simp only [List.all_cons, Bool.and_eq_true] at h; exact h.2
    refine ⟨v, vs', t1, t2, h1, h2, ?_, PsOut.mono hB2 h4⟩
    cases hag : p.ag with
    | true =>
      rw [hag] at h3
      obtain ⟨us, h5, h6⟩ := h3
      exact ⟨us, h5, CsOut.mono hB1 h6⟩
    | false =>
      rw [hag] at h3
      exact CsOut.mono hB1 h3
def EntOK (w : World) (B : Nat → Prop) (x : Blk) (m : Img) (t : List Nat) : Prop :=
  (m = .none_ ∧ t = [] ∧ ∃ e, x = .arr e [] 0) ∨
  ∃ b o n sz e xs C tC, m = .at b o n sz ∧ t = [b] ∧ x = .arr e xs 0 ∧ xs.length = n ∧ e.sz = sz ∧ w.heap[b]? = some (.cells C tC (0, 0)) ∧ o + n * sz ≤ C.size ∧ RowRel w B e xs C o
def Ent (w : World) (B : Nat → Prop) : List Blk → List Img → List Nat → Prop
  | [], [], tk => tk = []
  | x :: bs, m :: ms, tk => ∃ t1 t2, tk = t1 ++ t2 ∧ EntOK w B x m t1 ∧ Ent w B bs ms t2
  | _, _, _ => False
theorem Ent.append {B : Nat → Prop} : ∀ {bs bs' : List Blk} {ms ms' : List Img} {tk tk' : List Nat}, Ent w B bs ms tk → Ent w B bs' ms' tk' → Ent w B (bs ++ bs') (ms ++ ms') (tk ++ tk')
  | [], _, [], _, tk, _, h1, h2 => by simp only [Ent] at h1; subst h1; simpa using h2
  | [], _, _ :: _, _, tk, _, h1, h2 => by simp [Ent] at h1
  | _ :: _, _, [], _, tk, _, h1, h2 => by simp [Ent] at h1
  | x :: bs, bs', m :: ms, ms', tk, tk', h1, h2 => by
    simp only [Ent] at h1
    obtain ⟨t1, t2, rfl, h3, h4⟩ := h1
    simp only [List.cons_append, Ent]
    exact ⟨t1, t2 ++ tk', by simp, h3, Ent.append h4 h2⟩
theorem Ent.length {B : Nat → Prop} : ∀ {bs : List Blk} {ms : List Img} {tk : List Nat}, Ent w B bs ms tk → ms.length = bs.length
  | [], [], _, _ => rfl
  | [], _ :: _, _, h => by simp [Ent] at h
  | _ :: _, [], _, h => by simp [Ent] at h
  | x :: bs, m :: ms, tk, h => by
    simp only [Ent] at h
    obtain ⟨t1, t2, _, _, h4⟩ := h
    simp [Ent.length h4]
theorem Ent.get {B : Nat → Prop} : ∀ {bs : List Blk} {ms : List Img} {tk : List Nat}, Ent w B bs ms tk → ∀ (i : Nat) (m : Img), ms[i]? = some m → ∃ x t, bs[i]? = some x ∧ EntOK w B x m t ∧ ∀ b ∈ t, b ∈ tk
  | [], [], _, _, i, m, hm => by simp at hm
  | [], _ :: _, _, h, _, _, _ => by simp [Ent] at h
  | _ :: _, [], _, h, _, _, _ => by simp [Ent] at h
  | x :: bs, m0 :: ms, tk, h, i, m, hm => by
    simp only [Ent] at h
    obtain ⟨t1, t2, rfl, h3, h4⟩ := h
    cases i with
    | zero => simp at hm; subst hm; exact ⟨x, t1, rfl, h3, fun b hb => List.mem_append.2 (.inl hb)⟩
    | succ i =>
      obtain ⟨y, t, h5, h6, h7⟩ := Ent.get h4 i m (by simpa using hm)
      exact ⟨y, t, by simpa using h5, h6, fun b hb => List.mem_append.2 (.inr (h7 b hb))⟩
theorem EntOK.at_ {B : Nat → Prop} {x : Blk} {t : List Nat} {b o n sz : Nat} (h : EntOK w B x (.at b o n sz) t) : b ∈ t := by
  rcases h with ⟨h, _⟩ | ⟨b', _, _, _, _, _, _, _, h, rfl, _⟩
  · cases h
  · cases h; simp
theorem Ent.inj {B : Nat → Prop} : ∀ {bs : List Blk} {ms : List Img} {tk : List Nat}, Ent w B bs ms tk → tk.Nodup → ∀ (i j : Nat) {b o n sz o' n' sz' : Nat}, ms[i]? = some (.at b o n sz) → ms[j]? = some (.at b o' n' sz') → i = j
  | [], [], _, _, _, i, j, _, _, _, _, _, _, _, hm, _ => by simp at hm
  | [], _ :: _, _, h, _, _, _, _, _, _, _, _, _, _, _, _ => by simp [Ent] at h
  | _ :: _, [], _, h, _, _, _, _, _, _, _, _, _, _, _, _ => by simp [Ent] at h
  | x :: bs, m0 :: ms, tk, h, hnd, i, j, b, o, n, sz, o', n', sz', h1, h2 => by
    simp only [Ent] at h
    obtain ⟨t1, t2, rfl, h3, h4⟩ := h
    rw [List.nodup_append] at hnd
    obtain ⟨hd1, hd2, hd3⟩ := hnd
    have tail : ∀ {k b o n sz : Nat}, ms[k]? = some (Img.at b o n sz) → b ∈ t2 := fun hk => by
      obtain ⟨y, t, _, h6, h7⟩ := Ent.get h4 _ _ hk
      exact h7 _ h6.at_
    cases i with
    | zero =>
      simp at h1; subst h1
      cases j with
      | zero => rfl
      | succ j => exact absurd rfl (hd3 b h3.at_ b (tail (by simpa using h2)))
    | succ i =>
      cases j with
      | zero => simp at h2; subst h2; exact absurd rfl (hd3 b h3.at_ b (tail (by simpa using h1)))
      | succ j => rw [Ent.inj h4 hd2 i j (by simpa using h1) (by simpa using h2)]
def Agree (ρ : Map) (k : Nat) (ms : List Img) : Prop := ∀ (i : Nat) (m : Img), ms[i]? = some m → ρ (k + i) = m
theorem Agree.split {ρ : Map} {k : Nat} {ms ms' : List Img} (h : Agree ρ k (ms ++ ms')) : Agree ρ k ms ∧ Agree ρ (k + ms.length) ms' := by
  refine ⟨fun i m hm => h i m (by rw [List.getElem?_append_left (List.getElem?_eq_some_iff.1 hm).1]; exact hm), fun i m hm => ?_⟩
  have := h (ms.length + i) m (by rw [List.getElem?_append_right (by omega)]; simpa using hm)
  rw [← this]; congr 1; omega
theorem OwnAt.ent {B : Nat → Prop} {e : Kd} {xs : List e.T} {u : Value} {t : List Nat} (h : OwnAt w B e xs u t) : ∃ m, EntOK w B (.arr e xs 0) m t ∧ ∀ (ρ : Map) (β : Nat), ρ β = m → VRel ρ w (.own β) u := by
  rcases h with ⟨rfl, rfl, a, rfl⟩ | ⟨b, o, c, C, tC, rfl, rfl, h3, h4, h5, h6⟩
  · exact ⟨.none_, .inl ⟨rfl, rfl, e, rfl⟩, fun ρ β hb => by simp only [VRel, hb]; exact ⟨a, rfl⟩⟩
  · have hle : xs.length * e.sz ≤ c * e.sz := Nat.mul_le_mul_right _ h3
    exact ⟨.at b o xs.length e.sz, .inr ⟨b, o, _, _, e, xs, C, tC, rfl, rfl, rfl, rfl, rfl, h4, by omega, h6⟩, fun ρ β hb => by
      simp only [VRel, hb]; exact ⟨c, h3, rfl, C, tC, h4, h5⟩⟩
theorem za5 {B : Nat → Prop} : ∀ {cs : List (Kd × Bool)} {x : CsT cs} {us : List Value} {tk : List Nat}, CsOut w B cs x us tk →
    ∃ bs ms, Ent w B bs ms tk ∧ ∀ H, (putCs cs x H).2 = H ++ bs ∧ ∀ ρ : Map, Agree ρ H.length ms → (∀ b, B b → Free ρ w b) → VRels ρ w (putCs cs x H).1 us
  | [], x, us, tk, h => by
    simp only [CsOut] at h
    obtain ⟨rfl, rfl⟩ := h
    exact ⟨[], [], rfl, fun H => ⟨by simp [putCs], fun ρ _ _ => by simp [putCs, VRels]⟩⟩
  | (.list e, true) :: r, x, us, tk, h => by
    simp only [CsOut] at h
    obtain ⟨u, us', t1, t2, rfl, rfl, h3, h4⟩ := h
    obtain ⟨m, h5, h6⟩ := h3.ent
    obtain ⟨bs, ms, h7, h8⟩ := za5 h4
    refine ⟨.arr e x.1 0 :: bs, m :: ms, ⟨t1, t2, rfl, h5, h7⟩, fun H => ⟨by simp only [putCs]; rw [(h8 _).1]; simp, fun ρ ha hB => ?_⟩⟩
    simp only [putCs, VRels]
    refine ⟨u, us', rfl, h6 ρ _ (by simpa using ha 0 m rfl), (h8 _).2 ρ (fun i m' hm => ?_) hB⟩
    have := ha (i + 1) m' (by simpa using hm)
    rw [← this]; congr 1; simp; omega
  | (.list e, false) :: r, x, us, tk, h => by
    simp only [CsOut] at h
    obtain ⟨u, us', rfl, h3, h4⟩ := h
    obtain ⟨bs, ms, h7, h8⟩ := za5 h4
    refine ⟨bs, ms, h7, fun H => ⟨by simp only [putCs]; exact (h8 H).1, fun ρ ha hB => ?_⟩⟩
    simp only [putCs, VRels]
    exact ⟨u, us', rfl, za4 hB h3, (h8 H).2 ρ ha hB⟩
  | (.int k, f) :: r, x, us, tk, h => by
    simp only [CsOut] at h
    obtain ⟨u, us', rfl, h3, h4⟩ := h
    obtain ⟨bs, ms, h7, h8⟩ := za5 h4
    refine ⟨bs, ms, h7, fun H => ⟨by simp only [putCs]; exact (h8 H).1, fun ρ ha hB => ?_⟩⟩
    simp only [putCs, VRels]
    exact ⟨u, us', rfl, za4 hB h3, (h8 H).2 ρ ha hB⟩
  | (.bool, f) :: r, x, us, tk, h => by
    simp only [CsOut] at h
    obtain ⟨u, us', rfl, h3, h4⟩ := h
    obtain ⟨bs, ms, h7, h8⟩ := za5 h4
    refine ⟨bs, ms, h7, fun H => ⟨by simp only [putCs]; exact (h8 H).1, fun ρ ha hB => ?_⟩⟩
    simp only [putCs, VRels]
    exact ⟨u, us', rfl, za4 hB h3, (h8 H).2 ρ ha hB⟩
  | (.unit, f) :: r, x, us, tk, h => by
    simp only [CsOut] at h
    obtain ⟨u, us', rfl, h3, h4⟩ := h
    obtain ⟨bs, ms, h7, h8⟩ := za5 h4
    refine ⟨bs, ms, h7, fun H => ⟨by simp only [putCs]; exact (h8 H).1, fun ρ ha hB => ?_⟩⟩
    simp only [putCs, VRels]
    exact ⟨u, us', rfl, za4 hB h3, (h8 H).2 ρ ha hB⟩
  | (.pair a b, f) :: r, x, us, tk, h => by
    simp only [CsOut] at h
    obtain ⟨u, us', rfl, h3, h4⟩ := h
    obtain ⟨bs, ms, h7, h8⟩ := za5 h4
    refine ⟨bs, ms, h7, fun H => ⟨by simp only [putCs]; exact (h8 H).1, fun ρ ha hB => ?_⟩⟩
    simp only [putCs, VRels]
    exact ⟨u, us', rfl, za4 hB h3, (h8 H).2 ρ ha hB⟩
theorem zhT {B : Nat → Prop} : ∀ {ps : List Pm} {x : PsT ps} {vs : List Value} {tk : List Nat}, PsOut w B ps x vs tk →
    ∃ bs ms, Ent w B bs ms tk ∧ ∀ H, (putPs ps x H).2 = H ++ bs ∧ ∀ ρ : Map, Agree ρ H.length ms → (∀ b, B b → Free ρ w b) → VRels ρ w (putPs ps x H).1 vs
  | [], x, vs, tk, h => by
    simp only [PsOut] at h
    obtain ⟨rfl, rfl⟩ := h
    exact ⟨[], [], rfl, fun H => ⟨by simp [putPs], fun ρ _ _ => by simp [putPs, VRels]⟩⟩
  | p :: r, x, vs, tk, h => by
    simp only [PsOut] at h
    obtain ⟨v, vs', t1, t2, rfl, rfl, h3, h4⟩ := h
    have key : ∃ bs ms, Ent w B bs ms t1 ∧ ∀ H, (putCs p.cs x.1 H).2 = H ++ bs ∧ ∀ ρ : Map, Agree ρ H.length ms → (∀ b, B b → Free ρ w b) → VRel ρ w (match p.ag with
        | true => .agg (putCs p.cs x.1 H).1
        | false => (putCs p.cs x.1 H).1.headD .junk) v := by
      cases hag : p.ag with
      | true =>
        rw [hag] at h3
        obtain ⟨us, rfl, h5⟩ := h3
        obtain ⟨bs, ms, h6, h7⟩ := za5 h5
        exact ⟨bs, ms, h6, fun H => ⟨(h7 H).1, fun ρ ha hB => by simp only [VRel]; exact ⟨us, rfl, (h7 H).2 ρ ha hB⟩⟩⟩
      | false =>
        rw [hag] at h3
        obtain ⟨bs, ms, h6, h7⟩ := za5 h3
        refine ⟨bs, ms, h6, fun H => ⟨(h7 H).1, fun ρ ha hB => ?_⟩⟩
        have h8 := (h7 H).2 ρ ha hB
        cases hs : (putCs p.cs x.1 H).1 with
        | nil => rw [hs] at h8; simp [VRels] at h8
        | cons s l =>
          rw [hs] at h8
          simp only [VRels] at h8
          obtain ⟨u, us', e, h9, _⟩ := h8
          simp at e
          simp only [List.headD_cons, e.1]; exact h9
    obtain ⟨bs, ms, h5, h6⟩ := key
    obtain ⟨bs', ms', h7, h8⟩ := zhT h4
    refine ⟨bs ++ bs', ms ++ ms', h5.append h7, fun H => ⟨by simp only [putPs]; rw [(h8 _).1, (h6 H).1]; simp, fun ρ ha hB => ?_⟩⟩
    have h9 := ha.split
    simp only [putPs, VRels]
    refine ⟨v, vs', rfl, (h6 H).2 ρ h9.1 hB, (h8 _).2 ρ ?_ hB⟩
    rw [(h6 H).1]
    have : (H ++ bs).length = H.length + ms.length := by rw [h5.length]; simp
    rw [this]; exact h9.2
def Map.add (ρ : Map) (k : Nat) (ms : List Img) : Map := ⟨fun β => if β < k then ρ β else match ms[β - k]? with | some m => m | none => ρ β, ρ.res0, ρ.vl⟩
theorem zdt {ss : List SV} {us : Array Value} (h : VRels ρ w ss us.toList) : VRel ρ w (resV ss) (resU us) := by
  unfold resU
  have hl := h.length
  unfold resV
  split
  · rename_i s
    simp at hl
    rw [dif_pos hl.symm]
    simp only [VRels] at h
    obtain ⟨u, us', e, h1, h2⟩ := h
    have : us[0]'(by omega) = u := by
      have h3 : us.toList[0]? = some u := by rw [e]; rfl
      rw [Array.getElem?_toList, Array.getElem?_eq_getElem (by omega)] at h3
      exact Option.some.inj h3
    rw [this]; exact h1
  · rename_i hne
    have : ¬ us.size = 1 := fun h1 => by
      simp only [Array.length_toList] at hl
      match ss, hl, hne with
      | [s], _, hne => exact hne s rfl
      | [], hl, _ => simp at hl; omega
      | _ :: _ :: _, hl, _ => simp at hl; omega
    rw [dif_neg this]
    simp only [VRel]
    exact ⟨us, rfl, h⟩
theorem zNS {P : Program} {f : FuncId} {tf : TF} (hok : tf.ok = true) (h : FnSpec P f tf) : TESound P f tf.te := by
  intro ρ H w args vs x y v H' hH hv hun hview hfn hput
  have hput' : v = resV (putPs tf.rs y H).1 ∧ H' = (putPs tf.rs y H).2 := by
    simp only [TF.te, Option.some.injEq, Prod.mk.injEq] at hput
    exact ⟨hput.1.symm, hput.2.symm⟩
  obtain ⟨rfl, rfl⟩ := hput'
  -- what is kept from the callee
  let res : Nat → Prop := fun b => (ρ.res0 b ∧ ρ.vl b = none) ∨ (tf.flat = false ∧ ((∃ β o n sz, ρ β = .at b o n sz) ∨ ρ.vl b ≠ none))
  have hres : ∀ b, res b → b < w.heap.size := by
    rintro b (hb | ⟨_, ⟨β, o, n, sz, hb⟩ | hb⟩)
    · exact hH.resl b (.inl hb.1)
    · exact hH.lt _ _ _ _ _ hb
    · exact hH.resl b (.inr hb)
  have hps : PsRel w (fun b => b < w.heap.size ∧ ¬ res b) tf.ps x vs := by
    simp only [TF.te] at hview
    cases hfl : tf.flat with
    | true =>
      rw [hfl] at hview
      refine PsRel.of_view (ρ := ρ) (fun {K s x u} h1 h2 => ?_) hview hv
      refine zh hH (B := fun b => b < w.heap.size ∧ ¬ res b) (fun b hb => ⟨hb.1, ?_⟩) (fun _ b t hv2 => ⟨hH.vlt hv2, ?_⟩) (fun γ b o n sz _ hg => ⟨hH.lt _ _ _ _ _ hg, ?_⟩) h1 (VRels.single h2)
      · rintro (h3 | ⟨h3, _⟩)
        · exact hb.2.1 (.inl h3.1)
        · rw [hfl] at h3; cases h3
      · rintro (h3 | ⟨h3, _⟩)
        · rw [hv2] at h3; cases h3.2
        · rw [hfl] at h3; cases h3
      · rintro (h3 | ⟨h3, _⟩)
        · exact hH.resf _ _ _ _ _ hg (.inl h3.1)
        · rw [hfl] at h3; cases h3
    | false =>
      rw [hfl] at hview
      refine PsRel.of_view (ρ := ρ) (fun {K s x u} h1 h2 => ?_) hview hv
      exact CRel.mono (fun b hb => ⟨hb.1, fun h3 => by
        rcases h3 with h3 | ⟨_, ⟨β, o, n, sz, h3⟩ | h3⟩
        · exact hb.2.1 (.inl h3.1)
        · exact hb.2.2 _ _ _ _ h3
        · exact hb.2.1 (.inr h3)⟩) (fun _ _ => rfl) (zg h1 (VRels.single h2))
  refine Calls.mono (h w res vs x y hres hps hfn) fun e w' he => ?_
  obtain ⟨us, tk, rfl, hos, htape, hout, hsize, hkept, hnd, htk, hps'⟩ := he
  have hB : PsOut w' (fun b => b < w'.heap.size ∧ ¬ ρ.res b ∧ (∀ β o n sz, ρ β ≠ .at b o n sz) ∧ b ∉ tk) tf.rs y us.toList tk := by
    cases hfl : tf.flat with
    | true =>
      refine PsOut.mono (.inr ?_) hps'
      simpa [TF.ok, hfl] using hok
    | false =>
      exact PsOut.mono (.inl fun b hb => ⟨hb.1, fun h3 => by
        cases hvl : ρ.vl b with
        | none => exact hb.2.1 (.inl ⟨h3.resolve_right (by rw [hvl]; simp), hvl⟩)
        | some t => exact hb.2.1 (.inr ⟨hfl, .inr (by rw [hvl]; simp)⟩), fun β o n sz h3 => hb.2.1 (.inr ⟨hfl, .inl ⟨β, o, n, sz, h3⟩⟩), hb.2.2⟩) hps'
  obtain ⟨bs, ms, hent, hputs⟩ := zhT hB
  obtain ⟨hH', hvr⟩ := hputs H
  have hml := hent.length
  have hlt : ∀ {β}, β < H.length → (ρ.add H.length ms) β = ρ β := fun h => by simp [Map.add, h]
  have hge : ∀ {i}, i < ms.length → ∃ m, ms[i]? = some m ∧ (ρ.add H.length ms) (H.length + i) = m := fun {i} h => by
    refine ⟨ms[i], List.getElem?_eq_getElem h, ?_⟩
    simp only [Map.add]; rw [if_neg (by omega), Nat.add_sub_cancel_left, List.getElem?_eq_getElem h]
  have hgt : ∀ {β}, H.length + ms.length ≤ β → (ρ.add H.length ms) β = ρ β := fun {β} h => by
    simp only [Map.add]; rw [if_neg (by omega), List.getElem?_eq_none (by omega)]
  have cases3 : ∀ β, (β < H.length ∧ (ρ.add H.length ms) β = ρ β) ∨ (H.length + ms.length ≤ β ∧ (ρ.add H.length ms) β = ρ β) ∨ ∃ i m, β = H.length + i ∧ ms[i]? = some m ∧ (ρ.add H.length ms) β = m := by
    intro β
    rcases Nat.lt_or_ge β H.length with h1 | h1
    · exact .inl ⟨h1, hlt h1⟩
    · rcases Nat.lt_or_ge β (H.length + ms.length) with h2 | h2
      · obtain ⟨m, h3, h4⟩ := hge (i := β - H.length) (by omega)
        rw [show H.length + (β - H.length) = β by omega] at h4
        exact .inr (.inr ⟨β - H.length, m, by omega, h3, h4⟩)
      · exact .inr (.inl ⟨h2, hgt h2⟩)
  have htkn : ∀ {i : Nat} {b o n sz : Nat}, ms[i]? = some (.at b o n sz) → b ∈ tk := fun hm => by
    obtain ⟨_, t, _, h6, h7⟩ := hent.get _ _ hm
    exact h7 _ h6.at_
  have hub : ∀ β, H.length ≤ β → β < H.length + ms.length → ρ β = .unborn := fun β h1 h2 => hun β h1 (by rw [hH']; simp; omega)
  have hstep : Step ρ w (ρ.add H.length ms) w' := {
    os := hos, tape := htape, output := hout, size := hsize
    kept := fun b hb _ _ => hkept b hb
    shape := fun b C t fr hb => ⟨C, by rw [hkept b (Array.getElem?_eq_some_iff.1 hb).1]; exact hb, rfl⟩
    img := fun β b o n sz hb => by
      rcases cases3 β with ⟨_, h2⟩ | ⟨_, h2⟩ | ⟨i, m, _, h3, h4⟩
      · rw [h2] at hb; exact .inl ⟨β, o, n, sz, hb⟩
      · rw [h2] at hb; exact .inl ⟨β, o, n, sz, hb⟩
      · rw [h4] at hb; subst hb
        exact .inr (htk b (htkn h3)).1
    ref := fun β hb => by
      rcases cases3 β with ⟨_, h2⟩ | ⟨_, h2⟩ | ⟨i, m, h2, h3, _⟩
      · exact .inl h2
      · exact .inl h2
      · exact absurd (hub β (by omega) (by have := (List.getElem?_eq_some_iff.1 h3).1; omega)) hb
    res := rfl
    vl := fun _ _ => rfl }
  have hfree : ∀ b, (b < w'.heap.size ∧ ¬ ρ.res b ∧ (∀ β o n sz, ρ β ≠ .at b o n sz) ∧ b ∉ tk) → Free (ρ.add H.length ms) w' b := fun b hb => ⟨hb.1, hb.2.1, fun β o n sz h1 => by
    rcases cases3 β with ⟨_, h2⟩ | ⟨_, h2⟩ | ⟨i, m, _, h3, h4⟩
    · rw [h2] at h1; exact hb.2.2.1 _ _ _ _ h1
    · rw [h2] at h1; exact hb.2.2.1 _ _ _ _ h1
    · rw [h4] at h1; subst h1; exact hb.2.2.2 (htkn h3)⟩
  have hlen : (H ++ bs).length = H.length + ms.length := by rw [hml]; simp
  have hsz : ∀ {β b o n sz}, ρ β = .at b o n sz → b < w.heap.size := fun h => hH.lt _ _ _ _ _ h
  refine ⟨resU us, ρ.add H.length ms, rfl, hstep, ?_, ?_, ?_, ?_, ?_⟩
  · rw [hH']
    constructor
    · intro β hl hd
      rcases cases3 β with ⟨h1, h2⟩ | ⟨h1, h2⟩ | ⟨i, m, h2, h3, h4⟩
      · rw [List.getElem?_append_left h1]; exact hH.dead β h1 (by rw [← h2]; exact hd)
      · omega
      · rw [h4] at hd; subst hd
        obtain ⟨_, t, _, h6, _⟩ := hent.get _ _ h3
        rcases h6 with ⟨h6, _⟩ | ⟨_, _, _, _, _, _, _, _, h6, _⟩ <;> cases h6
    · intro β hl hd
      rcases cases3 β with ⟨h1, h2⟩ | ⟨h1, h2⟩ | ⟨i, m, h2, h3, h4⟩
      · rw [List.getElem?_append_left h1]; exact hH.none_ β h1 (by rw [← h2]; exact hd)
      · omega
      · rw [h4] at hd; subst hd; subst h2
        obtain ⟨x, t, h5, h6, _⟩ := hent.get _ _ h3
        rcases h6 with ⟨_, _, e, h6⟩ | ⟨_, _, _, _, _, _, _, _, h6, _⟩
        · subst h6
          exact .inl ⟨e, 0, by rw [List.getElem?_append_right (by omega), Nat.add_sub_cancel_left]; exact h5⟩
        · cases h6
    · intro β hl b o n sz hd
      rcases cases3 β with ⟨h1, h2⟩ | ⟨h1, h2⟩ | ⟨i, m, h2, h3, h4⟩
      · rw [h2] at hd
        obtain ⟨x, h5, h6⟩ := hH.at_ β h1 _ _ _ _ hd
        exact ⟨x, by rw [List.getElem?_append_left h1]; exact h5, h6.keep hstep (hkept b (hsz hd)) fun b' hb' => ⟨hH.vlt hb', hkept b' (hH.vlt hb')⟩⟩
      · omega
      · rw [h4] at hd; subst hd; subst h2
        obtain ⟨x, t, h5, h6, _⟩ := hent.get _ _ h3
        rcases h6 with ⟨h6, _⟩ | ⟨b', o', n', sz', e, xs, C, tC, h6, h7, h8, h9, h10, h11, h12, h13⟩
        · cases h6
        · cases h6; subst h8
          refine ⟨_, by rw [List.getElem?_append_right (by omega), Nat.add_sub_cancel_left]; exact h5, ?_⟩
          simp only [BRel]
          exact ⟨h9, h10, C, tC, h11, h12, fun i x hx => by
            obtain ⟨es, h14, h15⟩ := h13 i x hx
            exact ⟨es, CRel.mono hfree (fun _ _ => rfl) h14, h15⟩⟩
    · intro β γ b o n sz o' n' sz' hb hc
      rcases cases3 β with ⟨h1, h2⟩ | ⟨h1, h2⟩ | ⟨i, m, h2, h3, h4⟩ <;> rcases cases3 γ with ⟨g1, g2⟩ | ⟨g1, g2⟩ | ⟨j, m', g2, g3, g4⟩
      · rw [h2] at hb; rw [g2] at hc; exact hH.inj _ _ _ _ _ _ _ _ _ hb hc
      · rw [h2] at hb; rw [g2] at hc; exact hH.inj _ _ _ _ _ _ _ _ _ hb hc
      · rw [h2] at hb; rw [g4] at hc; subst hc
        have := (htk b (htkn g3)).1; have := hsz hb; omega
      · rw [h2] at hb; rw [g2] at hc; exact hH.inj _ _ _ _ _ _ _ _ _ hb hc
      · rw [h2] at hb; rw [g2] at hc; exact hH.inj _ _ _ _ _ _ _ _ _ hb hc
      · rw [h2] at hb; rw [g4] at hc; subst hc
        have := (htk b (htkn g3)).1; have := hsz hb; omega
      · rw [h4] at hb; subst hb; rw [g2] at hc
        have := (htk b (htkn h3)).1; have := hsz hc; omega
      · rw [h4] at hb; subst hb; rw [g2] at hc
        have := (htk b (htkn h3)).1; have := hsz hc; omega
      · rw [h4] at hb; subst hb; rw [g4] at hc; subst hc
        rw [h2, g2, hent.inj hnd i j h3 g3]
    · intro β b o n sz hb
      rcases cases3 β with ⟨h1, h2⟩ | ⟨h1, h2⟩ | ⟨i, m, h2, h3, h4⟩
      · rw [h2] at hb; have := hsz hb; omega
      · rw [h2] at hb; have := hsz hb; omega
      · rw [h4] at hb; subst hb; exact (htk b (htkn h3)).2
    · intro b hb; have := hH.resl b hb; omega
    · intro β b o n sz hb hr
      rcases cases3 β with ⟨h1, h2⟩ | ⟨h1, h2⟩ | ⟨i, m, h2, h3, h4⟩
      · rw [h2] at hb; exact hH.resf _ _ _ _ _ hb hr
      · rw [h2] at hb; exact hH.resf _ _ _ _ _ hb hr
      · rw [h4] at hb; subst hb
        have := (htk b (htkn h3)).1; have := hH.resl b hr; omega
  · exact zdt (hvr (ρ.add H.length ms) (fun i m hm => by
      obtain ⟨m', h1, h2⟩ := hge (List.getElem?_eq_some_iff.1 hm).1
      rw [hm] at h1; cases h1; exact h2) hfree)
  · rw [hH']; simp
  · intro β hb hc
    rcases cases3 β with ⟨_, h2⟩ | ⟨_, h2⟩ | ⟨i, m, h2, h3, h4⟩
    · rw [h2]; exact hb
    · rw [h2]; exact hb
    · exfalso
      rw [hH'] at hc
      have := (List.getElem?_eq_some_iff.1 h3).1
      simp at hc; omega
  · intro _
    refine ⟨⟨bs, hH'⟩, fun β hc => ?_, fun b hb => hkept b hb⟩
    rcases cases3 β with ⟨_, h2⟩ | ⟨_, h2⟩ | ⟨i, m, h2, h3, h4⟩
    · exact h2
    · exact h2
    · exfalso
      rw [hH'] at hc
      have := (List.getElem?_eq_some_iff.1 h3).1
      simp at hc; omega
end
end Go.Proofs.YtdgdoeknpakmlaaGreat.Den
namespace Go.Proofs.YtdgdoeknpakmlaaGreat.Den
open Go Go.RowKit
def takeCs : List (Kd × Bool) → List SV → Heap → Option (List SV × Heap)
  | [], [], H => some ([], H)
  | (.list e, true) :: r, s :: ss, H => match fixV H e true s with
    | some (.own β, H1) => match H1[β]? with
      | some (.arr e' xs t) => match takeCs r ss (H1.set β .dead) with
        | some (l, H2) => some (.es e' xs :: l, H2)
        | none => none
      | _ => none
    | _ => none
  | _ :: r, s :: ss, H => match takeCs r ss H with
    | some (l, H2) => some (s :: l, H2)
    | none => none
  | _, _, _ => none
def takePs : List Pm → List SV → Heap → Option (List SV × Heap)
  | [], [], H => some ([], H)
  | p :: r, s :: ss, H => match cellsP p.ag s with
    | some cs => match takeCs p.cs cs H with
      | some (l, H1) => match takePs r ss H1 with
        | some (ls, H2) => some ((match p.ag with
          | true => .agg l
          | false => l.headD .junk) :: ls, H2)
        | none => none
      | none => none
    | none => none
  | _, _, _ => none
def lightRes (P : Program) : List ResultVar → Option (List (Nat × Option (Nat × Bool)))
  | [] => some []
  | .tmp t :: r => (lightRes P r).map ((t, none) :: ·)
  | .cell a t :: r => match P.info? t, isAggL P t, lightRes P r with
    | some i, some ag, some l => if ag = false → i.size = 1 then some ((a, some (i.size, ag)) :: l) else none
    | _, _, _ => none
def evalRes (τ : Env) (H : Heap) : List (Nat × Option (Nat × Bool)) → Option (List SV)
  | [] => some []
  | (t, none) :: r => match evalRes τ H r with
    | some l => some (Tm.get τ t :: l)
    | none => none
  | (a, some (n, ag)) :: r => match ldI H n ag (Tm.get τ a) some, evalRes τ H r with
    | some v, some l => some (v :: l)
    | _, _ => none
def outPs (rs : List Pm) (ss : List SV) (H : Heap) : Option (PsT rs) :=
  match takePs rs ss H with
  | some (ls, H2) => viewPs H2 rs ls
  | none => none
def endF (rv : List (Nat × Option (Nat × Bool))) (rs : List Pm) (ex : Ex) (τ : Env) (H : Heap) : Option (PsT rs) :=
  match ex with
  | .exit _ => none
  | _ => match evalRes τ H rv with
    | some ss => outPs rs ss H
    | none => none
def env0 : List SV → Nat → Env
  | [], _ => []
  | s :: ss, k => (k, s) :: env0 ss (k + 1)
section
variable {P : Program} {w : World} {ρ ρ' : Map} {H H' : Heap}
theorem ld_spec {t : TypeId} {s v : SV} {val : Value} {i : TypeInfo} {ag : Bool} (hi : P.info? t = some i) (ha : isAggL P t = some ag) (hH : HRel ρ H w) (hx : VRel ρ w s val)
    (he : ldI H i.size ag s some = some v) : ∃ ad, val = .pointer (some ad) ∧ ∃ u, (loadVar t ad).run P w = .ok u w ∧ VRel ρ w v u := by
  unfold ldI at he
  split at he
  · rename_i β off
    split at he
    · rename_i cs t' z hb
      obtain ⟨v', hk, h1, h2⟩ := zaA he
      simp at hk; subst hk
      obtain ⟨b, o', n, sz, hr, hu⟩ := ptr_rel hH hb (by simp) hx
      obtain ⟨C, tC, hC, _, _, _, hcs, hm⟩ := zB hH hb hr
      refine ⟨_, hu, ?_⟩
      rw [← zc]
      exact ld_core hi ha hcs hm h1 h2
    · rename_i K xs t' hb
      split at he
      · obtain ⟨hl, hk⟩ := za he
        simp at hk; subst hk
        obtain ⟨b, o', n, sz, hr, hu⟩ := ptr_rel hH hb (by simp) hx
        have hlt : β < H.length := (List.getElem?_eq_some_iff.1 hb).1
        obtain ⟨y, h1, h2⟩ := hH.at_ β hlt _ _ _ _ hr
        rw [hb] at h1; simp at h1; subst h1
        simp only [BRel] at h2
        obtain ⟨rfl, rfl, C, tC, hC, hle, hrow⟩ := h2
        have hl' : xs.length * K.sz = i.size := by simpa using hl
        refine ⟨_, hu, .agg ((C.toList.drop o').take i.size).toArray, ?_, ?_⟩
        · refine zqH ha hi (by simp; omega) fun j u hj => ?_
          rw [List.getElem?_take] at hj
          split at hj
          · rw [List.getElem?_drop, Array.getElem?_toList] at hj
            rw [zc, zq hC]; exact hj
          · simp at hj
        · simp only [VRel]
          refine ⟨_, rfl, by simp; omega, fun k x hx => ?_⟩
          obtain ⟨es, h3, h4⟩ := hrow k x hx
          refine ⟨es, h3, fun j u hj => ?_⟩
          have hk : k < xs.length := (List.getElem?_eq_some_iff.1 hx).1
          have hj' : j < K.sz := by rw [← h3.length]; exact (List.getElem?_eq_some_iff.1 hj).1
          have : (k + 1) * K.sz ≤ xs.length * K.sz := Nat.mul_le_mul_right _ hk
          rw [Nat.add_mul, Nat.one_mul] at this
          rw [List.getElem?_toArray, List.getElem?_take, if_pos (by omega), List.getElem?_drop, Array.getElem?_toList, ← Nat.add_assoc]
          exact h4 j u hj
      · simp at he
    · simp at he
  · rename_i β k j
    split at he
    · rename_i K xs t' hb
      obtain ⟨hk, he⟩ := za he
      obtain ⟨v', hk', h1, h2⟩ := zaA he
      simp at hk'; subst hk'
      obtain ⟨b, o', n, sz, hr, hu⟩ := zqI hH hb (by simp) hx
      obtain ⟨_, _, C, tC, hC, _, hrow⟩ := row_of hH hb hr
      obtain ⟨es, h3, h4⟩ := hrow k (by simpa using hk)
      refine ⟨_, hu, ?_⟩
      rw [← zc]
      exact ld_core hi ha (enc_rel h3) h4 h1 h2
    · simp at he
  · rename_i K y j
    obtain ⟨v', hk', h1, h2⟩ := zaA he
    simp at hk'; subst hk'
    simp only [VRel] at hx
    obtain ⟨ad, es, hu, h3, h5, h4⟩ := hx
    exact ⟨_, hu, ld_core hi ha (enc_rel h3) h4 h1 h2⟩
  · simp at he
def resStep (tmps : Array Value) : ResultVar → Sem Value
  | .tmp t => pure (tmps.getD t undef)
  | .cell a t => do loadVar t (← asAddr (tmps.getD a undef))
theorem zNT (fn : Func) (tmps : Array Value) : results fn tmps = (do let vs ← fn.results.mapM (resStep tmps); pure (resU vs)) := by
  have : (fun r : ResultVar => (match r with
      | .tmp t => pure (tmps.getD t undef)
      | .cell a t => do loadVar t (← asAddr (tmps.getD a undef)) : Sem Value)) = resStep tmps := by
    funext r; cases r <;> rfl
  rw [← this]
  rfl
theorem zq3 {τ : Env} {a : Act} {N : Nat} (ht : TRel ρ w τ a N) (hH : HRel ρ H w) : ∀ {l : List ResultVar} {rv : List (Nat × Option (Nat × Bool))} {ss : List SV}, lightRes P l = some rv → evalRes τ H rv = some ss →
    ∃ vs, (l.mapM (resStep a.tmps)).run P w = .ok vs w ∧ VRels ρ w ss vs
  | [], rv, ss, h1, h2 => by
    simp [lightRes] at h1; subst h1
    simp [evalRes] at h2; subst h2
    exact ⟨[], rfl, by simp [VRels]⟩
  | .tmp t :: r, rv, ss, h1, h2 => by
    simp only [lightRes] at h1
    obtain ⟨l, h3, rfl⟩ := Option.map_eq_some_iff.1 h1
    simp only [evalRes] at h2
    split at h2
    · rename_i l' h4
      simp only [Option.some.injEq] at h2; subst h2
      obtain ⟨vs, h5, h6⟩ := zq3 ht hH h3 h4
      refine ⟨a.tmps.getD t undef :: vs, ?_, ?_⟩
      · simp only [List.mapM_cons, Sem.run_bind, resStep, Sem.run_pure, Result.andThen_ok, h5]
      · simp only [VRels]; exact ⟨_, _, rfl, ht.2.2 t, h6⟩
    · simp at h2
  | .cell x t :: r, rv, ss, h1, h2 => by
    simp only [lightRes] at h1
    split at h1
    · rename_i i ag l hi ha h3
      split at h1
      · simp only [Option.some.injEq] at h1; subst h1
        simp only [evalRes] at h2
        split at h2
        · rename_i v l' hv h4
          simp only [Option.some.injEq] at h2; subst h2
          obtain ⟨vs, h5, h6⟩ := zq3 ht hH h3 h4
          obtain ⟨ad, h7, u, h8, h9⟩ := ld_spec hi ha hH (ht.2.2 x) hv
          refine ⟨u :: vs, ?_, ?_⟩
          · have h10 : (resStep a.tmps (.cell x t)).run P w = .ok u w := by
              simp [resStep, h7, asAddr, h8]
            simp only [List.mapM_cons, Sem.run_bind, h10, Sem.run_pure, Result.andThen_ok, h5]
          · simp only [VRels]; exact ⟨_, _, rfl, h9, h6⟩
        · simp at h2
      · simp at h1
    · simp at h1
theorem zaE {fn : Func} {τ : Env} {a : Act} {N : Nat} {rv : List (Nat × Option (Nat × Bool))} {ss : List SV} (ht : TRel ρ w τ a N) (hH : HRel ρ H w) (h1 : lightRes P fn.results.toList = some rv) (h2 : evalRes τ H rv = some ss) :
    ∃ vs : Array Value, (results fn a.tmps).run P w = .ok (resU vs) w ∧ VRels ρ w ss vs.toList := by
  obtain ⟨vs, h3, h4⟩ := zq3 ht hH h1 h2
  refine ⟨vs.toArray, ?_, by simpa using h4⟩
  rw [zNT, Sem.run_bind, Array.mapM_eq_mapM_toList, Sem.run_map, h3]
  rfl
def Map.take (ρ : Map) (β b : Nat) : Map := ⟨fun γ => if γ = β then .dead else ρ γ, fun x => ρ.res0 x ∨ x = b, ρ.vl⟩
theorem zn {β b x : Nat} : (ρ.take β b).res x ↔ ρ.res x ∨ x = b := by
  simp only [Map.res, Map.take]
  constructor
  · rintro ((h | h) | h)
    · exact .inl (.inl h)
    · exact .inr h
    · exact .inl (.inr h)
  · rintro ((h | h) | h)
    · exact .inl (.inl h)
    · exact .inr h
    · exact .inl (.inr h)
theorem zq4 {β b o n sz : Nat} (hr : ρ β = .at b o n sz) (x : Nat) (h : Free ρ w x) : Free (ρ.take β b) w x := by
  refine ⟨h.1, ?_, fun γ o' n' sz' hg => ?_⟩
  · intro h0
    rcases zn.1 h0 with h1 | rfl
    · exact h.2.1 h1
    · exact h.2.2 _ _ _ _ hr
  · simp only [Map.take] at hg
    split at hg
    · cases hg
    · exact h.2.2 _ _ _ _ hg
theorem zCf {β b o n sz : Nat} (hr : ρ β = .at b o n sz) : StepF ρ w (ρ.take β b) w where
  free := zq4 hr
  kept _ _ := rfl
  shape _ C _ _ h := ⟨C, h, rfl⟩
  ref γ _ := by
    simp only [Map.take]
    split
    · exact .inr rfl
    · exact .inl rfl
theorem zq5 {β : Nat} : StepF ρ w (ρ.kill [β]) w := (Step.kill [β]).toF
theorem HRel.take (h : HRel ρ H w) {β b o n sz : Nat} (hr : ρ β = .at b o n sz) : HRel (ρ.take β b) (H.set β .dead) w where
  dead γ hl hd := by
    by_cases e : β = γ
    · subst e; simp at hl; simp [hl]
    · rw [List.getElem?_set_ne e]
      simp only [Map.take, if_neg (Ne.symm e)] at hd
      exact h.dead γ (by simpa using hl) hd
  none_ γ hl hd := by
    have e : β ≠ γ := by rintro rfl; simp [Map.take] at hd
    rw [List.getElem?_set_ne e]
    simp only [Map.take, if_neg (Ne.symm e)] at hd
    exact h.none_ γ (by simpa using hl) hd
  at_ γ hl b' o' n' sz' hd := by
    have e : β ≠ γ := by rintro rfl; simp [Map.take] at hd
    rw [List.getElem?_set_ne e]
    simp only [Map.take, if_neg (Ne.symm e)] at hd
    obtain ⟨x, h1, h2⟩ := h.at_ γ (by simpa using hl) _ _ _ _ hd
    exact ⟨x, h1, h2.keepF (zCf hr) rfl fun _ hb' => ⟨rfl, hb'⟩⟩
  inj γ δ b' o1 n1 s1 o2 n2 s2 h1 h2 := by
    simp only [Map.take] at h1 h2
    split at h1
    · cases h1
    · split at h2
      · cases h2
      · exact h.inj _ _ _ _ _ _ _ _ _ h1 h2
  lt γ b' o1 n1 s1 h1 := by
    simp only [Map.take] at h1
    split at h1
    · cases h1
    · exact h.lt _ _ _ _ _ h1
  resl x hx := by
    rcases zn.1 hx with hx | rfl
    · exact h.resl x hx
    · exact h.lt _ _ _ _ _ hr
  resf γ b' o1 n1 s1 h1 hx := by
    simp only [Map.take] at h1
    split at h1
    · cases h1
    · rename_i hne
      rcases zn.1 hx with hx | rfl
      · exact h.resf _ _ _ _ _ h1 hx
      · exact hne (h.inj _ _ _ _ _ _ _ _ _ h1 hr)
theorem StepF.trans {ρ1 : Map} (h : StepF ρ w ρ1 w) (k : StepF ρ1 w ρ' w) : StepF ρ w ρ' w where
  free b hb := k.free b (h.free b hb)
  kept _ _ := rfl
  shape _ C _ _ h := ⟨C, h, rfl⟩
  ref β hu := by
    rcases h.ref β hu with e | e
    · rcases k.ref β (by rw [e]; exact hu) with e2 | e2
      · exact .inl (e2.trans e)
      · exact .inr e2
    · rcases k.ref β (by rw [e]; simp) with e2 | e2
      · exact .inr (e2.trans e)
      · exact .inr e2
def TkRel (ρ : Map) (w : World) : List (Kd × Bool) → List SV → List Value → List Nat → Prop
  | [], l, us, tk => l = [] ∧ us = [] ∧ tk = []
  | (.list e, true) :: r, l, us, tk => ∃ (e' : Kd) (xs : List e'.T) (l' : List SV) (u : Value) (us' : List Value) (t1 t2 : List Nat), l = .es e' xs :: l' ∧ us = u :: us' ∧ tk = t1 ++ t2 ∧ OwnAt w (Free ρ w) e' xs u t1 ∧ TkRel ρ w r l' us' t2
  | _ :: r, l, us, tk => ∃ s l' u us', l = s :: l' ∧ us = u :: us' ∧ VRel ρ w s u ∧ TkRel ρ w r l' us' tk
structure Gave (ρ : Map) (H : Heap) (w : World) (ρ' : Map) (H' : Heap) (tk : List Nat) : Prop where
  h : HRel ρ' H' w
  u : ∀ β, H'.length ≤ β → ρ' β = .unborn
  st : StepF ρ w ρ' w
  nd : tk.Nodup
  tks : ∀ b ∈ tk, ρ'.res b ∧ ∃ β o n sz, ρ β = .at b o n sz
  res : ∀ b, ρ.res b → ρ'.res b
  res' : ∀ b, ρ'.res b → ρ.res b ∨ b ∈ tk
  img : ∀ β b o n sz, ρ' β = .at b o n sz → ∃ γ o' n' sz', ρ γ = .at b o' n' sz'
  vl : ρ'.vl = ρ.vl
theorem Gave.refl (h : HRel ρ H w) (u : ∀ β, H.length ≤ β → ρ β = .unborn) : Gave ρ H w ρ H [] :=
  ⟨h, u, (Step.refl ρ w).toF, by simp, by simp, fun _ h => h, fun _ h => .inl h, fun β b o n sz h => ⟨β, o, n, sz, h⟩, rfl⟩
theorem Gave.trans {ρ1 : Map} {H1 : Heap} {t1 t2 : List Nat} (h : Gave ρ H w ρ1 H1 t1) (k : Gave ρ1 H1 w ρ' H' t2) : Gave ρ H w ρ' H' (t1 ++ t2) where
  h := k.h
  u := k.u
  st := h.st.trans k.st
  nd := by
    rw [List.nodup_append]
    refine ⟨h.nd, k.nd, fun a ha b hb e => ?_⟩
    subst e
    obtain ⟨_, β, o, n, sz, h1⟩ := k.tks a hb
    exact h.h.resf _ _ _ _ _ h1 (h.tks a ha).1
  tks b hb := by
    rcases List.mem_append.1 hb with h1 | h1
    · exact ⟨k.res b (h.tks b h1).1, (h.tks b h1).2⟩
    · obtain ⟨h2, β, o, n, sz, h3⟩ := k.tks b h1
      exact ⟨h2, h.img _ _ _ _ _ h3⟩
  res b hb := k.res b (h.res b hb)
  res' b hb := by
    rcases k.res' b hb with h1 | h1
    · rcases h.res' b h1 with h2 | h2
      · exact .inl h2
      · exact .inr (List.mem_append.2 (.inl h2))
    · exact .inr (List.mem_append.2 (.inr h1))
  img β b o n sz hb := by
    obtain ⟨γ, o', n', sz', h1⟩ := k.img β b o n sz hb
    exact h.img _ _ _ _ _ h1
  vl := k.vl.trans h.vl
theorem Gave.of_good {v : SV} {u : Value} (hg : Good false ρ H w v H' u w ρ') (hH : HRel ρ H w) (hu : ∀ β, H.length ≤ β → ρ β = .unborn) : Gave ρ H w ρ' H' [] where
  h := hg.hrel
  u β hβ := hg.unb β (hu β (Nat.le_trans hg.len hβ)) hβ
  st := hg.step.toF
  nd := by simp
  tks := by simp
  res b hb := (hg.step.res_old (hH.resl b hb)).2 hb
  res' b hb := .inl ((hg.step.res_old (hg.hrel.resl b hb)).1 hb)
  img β b o n sz hb := by
    rcases hg.step.img β b o n sz hb with h | h
    · exact h
    · have := hg.hrel.lt _ _ _ _ _ hb; omega
  vl := by
    funext b
    by_cases hb : b < w.heap.size
    · exact hg.step.vl b hb
    · have h1 : ρ'.vl b = none := by
        cases h : ρ'.vl b with
        | none => rfl
        | some t => exact absurd (hg.hrel.vlt h) hb
      have h2 : ρ.vl b = none := by
        cases h : ρ.vl b with
        | none => rfl
        | some t => exact absurd (hH.vlt h) hb
      rw [h1, h2]
theorem Gave.of_take (hH : HRel ρ H w) (hu : ∀ β, H.length ≤ β → ρ β = .unborn) {β b o n sz : Nat} (hl : β < H.length) (hr : ρ β = .at b o n sz) : Gave ρ H w (ρ.take β b) (H.set β .dead) [b] where
  h := hH.take hr
  u γ hγ := by
    simp only [List.length_set] at hγ
    simp only [Map.take]; rw [if_neg (by omega)]; exact hu γ hγ
  st := zCf hr
  nd := by simp
  tks x hx := by simp at hx; subst hx; exact ⟨zn.2 (.inr rfl), β, o, n, sz, hr⟩
  res x hx := zn.2 (.inl hx)
  res' x hx := (zn.1 hx).imp id fun h => by simp [h]
  img γ x o' n' sz' h := by
    simp only [Map.take] at h
    split at h
    · cases h
    · exact ⟨_, _, _, _, h⟩
  vl := rfl
theorem Gave.of_none (hH : HRel ρ H w) (hu : ∀ β, H.length ≤ β → ρ β = .unborn) {β : Nat} (hl : β < H.length) : Gave ρ H w (ρ.kill [β]) (H.set β .dead) [] where
  h := hH.kill [β]
  u γ hγ := by simp only [List.length_set] at hγ; exact zR (hu γ hγ)
  st := zq5
  nd := by simp
  tks := by simp
  res _ h := h
  res' _ h := .inl h
  img γ x o' n' sz' h := by
    simp only [Map.kill] at h
    split at h
    · cases h
    · exact ⟨_, _, _, _, h⟩
  vl := rfl
theorem TkRel.step (h : StepF ρ w ρ' w) : ∀ {cs : List (Kd × Bool)} {l : List SV} {us : List Value} {tk : List Nat}, TkRel ρ w cs l us tk → TkRel ρ' w cs l us tk
  | [], _, _, _, hr => hr
  | (.list e, true) :: r, _, _, _, hr => by
    simp only [TkRel] at hr ⊢
    obtain ⟨e', xs, l', u, us', t1, t2, h1, h2, h3, h4, h5⟩ := hr
    exact ⟨e', xs, l', u, us', t1, t2, h1, h2, h3, h4.mono h.free, TkRel.step h h5⟩
  | (.list e, false) :: r, _, _, _, hr | (.int _, _) :: r, _, _, _, hr | (.bool, _) :: r, _, _, _, hr | (.unit, _) :: r, _, _, _, hr | (.pair _ _, _) :: r, _, _, _, hr => by
    simp only [TkRel] at hr ⊢
    obtain ⟨s, l', u, us', h1, h2, h3, h4⟩ := hr
    exact ⟨s, l', u, us', h1, h2, h3.stepF h, TkRel.step h h4⟩
theorem zl5 : ∀ {cs : List (Kd × Bool)} {ss l : List SV} {us : List Value} {ρ : Map} {H H' : Heap}, HRel ρ H w → (∀ β, H.length ≤ β → ρ β = .unborn) → VRels ρ w ss us → takeCs cs ss H = some (l, H') →
    ∃ ρ' tk, Gave ρ H w ρ' H' tk ∧ TkRel ρ' w cs l us tk
  | [], [], l, us, ρ, H, H', hH, hu, hv, he => by
    simp only [takeCs, Option.some.injEq, Prod.mk.injEq] at he
    obtain ⟨rfl, rfl⟩ := he
    simp only [VRels] at hv; subst hv
    exact ⟨ρ, [], Gave.refl hH hu, rfl, rfl, rfl⟩
  | [], _ :: _, l, us, ρ, H, H', hH, hu, hv, he => by simp [takeCs] at he
  | (.list e, true) :: r, [], l, us, ρ, H, H', hH, hu, hv, he => by simp [takeCs] at he
  | (.list e, true) :: r, s :: ss, l, us, ρ, H, H', hH, hu, hv, he => by
    simp only [takeCs] at he
    simp only [VRels] at hv
    obtain ⟨u, us', rfl, hv1, hv2⟩ := hv
    split at he
    · rename_i β H1 hf
      obtain ⟨ρ1, hg⟩ := zl2 hH hv1 (hu _ (Nat.le_refl _)) hf
      have g1 := Gave.of_good hg hH hu
      split at he
      · rename_i e' xs t hb
        have hlt : β < H1.length := (List.getElem?_eq_some_iff.1 hb).1
        split at he
        · rename_i l2 H2 h2
          simp only [Option.some.injEq, Prod.mk.injEq] at he
          obtain ⟨rfl, rfl⟩ := he
          rcases own_rel hg.hrel hb (by simp) hg.vrel with ⟨hr, ad, rfl⟩ | ⟨b, o, n, sz, c, hr, hc, rfl, hroom⟩
          · have := za2 hg.hrel hb hr; subst this
            have g2 := Gave.of_none g1.h g1.u hlt
            obtain ⟨ρ3, tk3, g3, h3⟩ := zl5 g2.h g2.u ((hv2.stepF g1.st).stepF g2.st) h2
            refine ⟨ρ3, tk3, by simpa using (g1.trans g2).trans g3, ?_⟩
            simp only [TkRel]
            exact ⟨e', [], l2, _, us', [], tk3, rfl, rfl, rfl, .inl ⟨rfl, rfl, ad, rfl⟩, h3⟩
          · have g2 := Gave.of_take g1.h g1.u hlt hr
            obtain ⟨ρ3, tk3, g3, h3⟩ := zl5 g2.h g2.u ((hv2.stepF g1.st).stepF g2.st) h2
            refine ⟨ρ3, b :: tk3, by simpa using (g1.trans g2).trans g3, ?_⟩
            obtain ⟨rfl, rfl, C, tC, hC, hle, hrow⟩ := row_raw hg.hrel hb hr
            obtain ⟨C2, t2, hC2, hroom⟩ := hroom
            rw [hC] at hC2
            simp only [Option.some.injEq, Obj.cells.injEq] at hC2
            obtain ⟨rfl, _⟩ := hC2
            simp only [TkRel]
            refine ⟨e', xs, l2, _, us', [b], tk3, rfl, rfl, rfl, .inr ⟨b, o, c, C, tC, rfl, rfl, hc, hC, hroom, fun i x hx => ?_⟩, h3⟩
            obtain ⟨es, h4, h5⟩ := hrow i x hx
            exact ⟨es, CRel.mono (fun b hb => g3.st.free b (g2.st.free b hb)) (fun _ _ => rfl) h4, h5⟩
        · simp at he
      · simp at he
    · simp at he
  | (.list e, false) :: r, [], l, us, ρ, H, H', hH, hu, hv, he | (.int _, _) :: r, [], l, us, ρ, H, H', hH, hu, hv, he | (.bool, _) :: r, [], l, us, ρ, H, H', hH, hu, hv, he | (.unit, _) :: r, [], l, us, ρ, H, H', hH, hu, hv, he | (.pair _ _, _) :: r, [], l, us, ρ, H, H', hH, hu, hv, he => by
    simp [takeCs] at he
  | (.list e, false) :: r, s :: ss, l, us, ρ, H, H', hH, hu, hv, he | (.int _, _) :: r, s :: ss, l, us, ρ, H, H', hH, hu, hv, he | (.bool, _) :: r, s :: ss, l, us, ρ, H, H', hH, hu, hv, he | (.unit, _) :: r, s :: ss, l, us, ρ, H, H', hH, hu, hv, he | (.pair _ _, _) :: r, s :: ss, l, us, ρ, H, H', hH, hu, hv, he => by
    simp only [takeCs] at he
    simp only [VRels] at hv
    obtain ⟨u, us', rfl, hv1, hv2⟩ := hv
    split at he
    · rename_i l2 H2 h2
      simp only [Option.some.injEq, Prod.mk.injEq] at he
      obtain ⟨rfl, rfl⟩ := he
      obtain ⟨ρ3, tk3, g3, h3⟩ := zl5 hH hu hv2 h2
      refine ⟨ρ3, tk3, g3, ?_⟩
      simp only [TkRel]
      exact ⟨s, l2, u, us', rfl, rfl, hv1.stepF g3.st, h3⟩
    · simp at he
def TkPs (ρ : Map) (w : World) : List Pm → List SV → List Value → List Nat → Prop
  | [], l, vs, tk => l = [] ∧ vs = [] ∧ tk = []
  | p :: r, ls, vs, tk => ∃ l ls' v vs' t1 t2, ls = (match p.ag with
      | true => .agg l
      | false => l.headD .junk) :: ls' ∧ vs = v :: vs' ∧ tk = t1 ++ t2 ∧ (match p.ag with
      | true => ∃ us : Array Value, v = .agg us ∧ TkRel ρ w p.cs l us.toList t1
      | false => TkRel ρ w p.cs l [v] t1) ∧ TkPs ρ w r ls' vs' t2
theorem zhU : ∀ {ps : List Pm} {ss ls : List SV} {vs : List Value} {ρ : Map} {H H' : Heap}, HRel ρ H w → (∀ β, H.length ≤ β → ρ β = .unborn) → VRels ρ w ss vs → takePs ps ss H = some (ls, H') →
    ∃ ρ' tk, Gave ρ H w ρ' H' tk ∧ TkPs ρ' w ps ls vs tk
  | [], [], ls, vs, ρ, H, H', hH, hu, hv, he => by
    simp only [takePs, Option.some.injEq, Prod.mk.injEq] at he
    obtain ⟨rfl, rfl⟩ := he
    simp only [VRels] at hv; subst hv
    exact ⟨ρ, [], Gave.refl hH hu, rfl, rfl, rfl⟩
  | [], _ :: _, ls, vs, ρ, H, H', hH, hu, hv, he => by simp [takePs] at he
  | _ :: _, [], ls, vs, ρ, H, H', hH, hu, hv, he => by simp [takePs] at he
  | p :: r, s :: ss, ls, vs, ρ, H, H', hH, hu, hv, he => by
    simp only [takePs] at he
    simp only [VRels] at hv
    obtain ⟨v, vs', rfl, hv1, hv2⟩ := hv
    split at he
    · rename_i cs hc
      split at he
      · rename_i l H1 h1
        split at he
        · rename_i ls' H2 h2
          simp only [Option.some.injEq, Prod.mk.injEq] at he
          obtain ⟨rfl, rfl⟩ := he
          have key : ∃ us : List Value, VRels ρ w cs us ∧ (p.ag = true → ∃ a : Array Value, v = .agg a ∧ us = a.toList) ∧ (p.ag = false → us = [v]) := by
            cases hag : p.ag with
            | true =>
              rw [hag] at hc
              simp only [cellsP] at hc
              split at hc
              · simp only [Option.some.injEq] at hc; subst hc
                simp only [VRel] at hv1
                obtain ⟨a, rfl, h5⟩ := hv1
                exact ⟨a.toList, h5, fun _ => ⟨a, rfl, rfl⟩, by simp⟩
              · simp at hc
            | false =>
              rw [hag] at hc
              simp only [cellsP, Option.some.injEq] at hc; subst hc
              exact ⟨[v], VRels.single hv1, by simp, fun _ => rfl⟩
          obtain ⟨us, hus, ha, hb⟩ := key
          obtain ⟨ρ1, t1, g1, h3⟩ := zl5 hH hu hus h1
          obtain ⟨ρ2, t2, g2, h4⟩ := zhU g1.h g1.u (hv2.stepF g1.st) h2
          refine ⟨ρ2, t1 ++ t2, g1.trans g2, l, ls', v, vs', t1, t2, rfl, rfl, rfl, ?_, h4⟩
          cases hag : p.ag with
          | true =>
            obtain ⟨a, h5, h6⟩ := ha hag
            subst h6
            exact ⟨a, h5, h3.step g2.st⟩
          | false =>
            have h5 := hb hag
            subst h5
            exact h3.step g2.st
        · simp at he
      · simp at he
    · simp at he
theorem zl6 {B : Nat → Prop} (hB : ∀ b, Free ρ w b → B b) (hd : ∀ {K : Kd} {s : SV} {x : K.T} {u : Value}, decH true H K [s] = some x → VRel ρ w s u → CRel w B K x [u]) :
    ∀ {cs : List (Kd × Bool)} {l : List SV} {x : CsT cs} {us : List Value} {tk : List Nat}, viewCs H cs l = some x → TkRel ρ w cs l us tk → CsOut w B cs x us tk
  | [], l, x, us, tk, h, ht => by
    simp only [TkRel] at ht
    exact ⟨ht.2.1, ht.2.2⟩
  | (.list e, true) :: r, l, x, us, tk, h, ht => by
    simp only [TkRel] at ht
    obtain ⟨e', xs, l', u, us', t1, t2, rfl, rfl, rfl, h4, h5⟩ := ht
    simp only [viewCs] at h
    split at h
    · rename_i y z h1 h2
      simp only [Option.some.injEq] at h; subst h
      unfold decH at h1
      simp only at h1
      split at h1
      · rename_i he
        subst he
        simp only [Option.some.injEq] at h1; subst h1
        simp only [CsOut]
        exact ⟨u, us', t1, t2, rfl, rfl, h4.mono hB, zl6 hB hd h2 h5⟩
      · simp at h1
    · simp at h
  | (.list e, false) :: r, l, x, us, tk, h, ht | (.int _, _) :: r, l, x, us, tk, h, ht | (.bool, _) :: r, l, x, us, tk, h, ht | (.unit, _) :: r, l, x, us, tk, h, ht | (.pair _ _, _) :: r, l, x, us, tk, h, ht => by
    simp only [TkRel] at ht
    obtain ⟨s, l', u, us', rfl, rfl, h4, h5⟩ := ht
    simp only [viewCs] at h
    split at h
    · rename_i y z h1 h2
      simp only [Option.some.injEq] at h; subst h
      simp only [CsOut]
      exact ⟨u, us', rfl, hd h1 h4, zl6 hB hd h2 h5⟩
    · simp at h
theorem zhV {B : Nat → Prop} (hB : ∀ b, Free ρ w b → B b) (hd : ∀ {K : Kd} {s : SV} {x : K.T} {u : Value}, decH true H K [s] = some x → VRel ρ w s u → CRel w B K x [u]) :
    ∀ {ps : List Pm} {ls : List SV} {x : PsT ps} {vs : List Value} {tk : List Nat}, viewPs H ps ls = some x → TkPs ρ w ps ls vs tk → PsOut w B ps x vs tk
  | [], l, x, us, tk, h, ht => by
    simp only [TkPs] at ht
    exact ⟨ht.2.1, ht.2.2⟩
  | p :: r, ls, x, vs, tk, h, ht => by
    simp only [TkPs] at ht
    obtain ⟨l, ls', v, vs', t1, t2, rfl, rfl, rfl, h4, h5⟩ := ht
    simp only [viewPs] at h
    split at h
    · rename_i cs hc
      split at h
      · rename_i y z h1 h2
        simp only [Option.some.injEq] at h; subst h
        simp only [PsOut]
        refine ⟨v, vs', t1, t2, rfl, rfl, ?_, zhV hB hd h2 h5⟩
        cases hag : p.ag with
        | true =>
          rw [hag] at hc h4
          simp only [cellsP, Option.some.injEq] at hc; subst hc
          obtain ⟨us, h6, h7⟩ := h4
          exact ⟨us, h6, zl6 hB hd h1 h7⟩
        | false =>
          rw [hag] at hc h4
          simp only [cellsP, Option.some.injEq] at hc; subst hc
          have : l = [l.headD .junk] := by
            match l, h4 with
            | [], h4 =>
              exfalso
              match hcs : p.cs, h4 with
              | [], h4 => simp [TkRel] at h4
              | (.list e, true) :: r, h4 => simp [TkRel] at h4
              | (.list e, false) :: r, h4 | (.int _, _) :: r, h4 | (.bool, _) :: r, h4 | (.unit, _) :: r, h4 | (.pair _ _, _) :: r, h4 => simp [TkRel] at h4
            | [s], _ => rfl
            | s1 :: s2 :: l, h4 =>
              exfalso
              have len2 : ∀ {cs : List (Kd × Bool)} {l : List SV} {us : List Value} {tk : List Nat}, TkRel ρ w cs l us tk → l.length = us.length := by
                intro cs
                induction cs with
                | nil => intro l us tk h; simp only [TkRel] at h; rw [h.1, h.2.1]; rfl
                | cons c cs ih =>
                  intro l us tk h
                  match c, h with
                  | (.list e, true), h =>
                    simp only [TkRel] at h
                    obtain ⟨e', xs, l', u, us', t1, t2, rfl, rfl, rfl, _, h5⟩ := h
                    simp [ih h5]
                  | (.list e, false), h | (.int _, _), h | (.bool, _), h | (.unit, _), h | (.pair _ _, _), h =>
                    simp only [TkRel] at h
                    obtain ⟨s, l', u, us', rfl, rfl, _, h5⟩ := h
                    simp [ih h5]
              have := len2 h4
              simp at this
          rw [this] at h4
          exact zl6 hB hd h1 h4
      · simp at h
    · simp at h
theorem zaF : ∀ {ss : List SV} {k n : Nat}, Tm.get (env0 ss k) n = if k ≤ n then (match ss[n - k]? with | some s => s | none => .junk) else .junk
  | [], k, n => by simp [env0, Tm.get]
  | s :: ss, k, n => by
    simp only [env0]
    rw [Tm.get_cons, zaF]
    by_cases h : k = n
    · subst h; simp
    · rw [if_neg h]
      by_cases h2 : k ≤ n
      · rw [if_pos (by omega), if_pos h2]
        have : n - k = (n - (k + 1)) + 1 := by omega
        rw [this]; rfl
      · rw [if_neg (by omega), if_neg h2]
theorem fn_spec {T : Tab} {f : FuncId} {fn : Func} {c : Code} {tf : TF} {frz : List Nat} {ann : List Norm} {cuts : List (Nat × Norm)} {ci : C} {j fuel : Nat} {rv : List (Nat × Option (Nat × Bool))} (hT : TabOK P T) (hmix : P.follows .mixedOrders = true)
    (hf : P.funcs[f]? = some fn) (hb : fn.body = some c) (hl : lightC P frz fn.ntmps ann cuts 0 c = some (ci, j)) (ho : okC T c ci = true) (hn : tf.ps.length ≤ fn.ntmps) (hrv : lightRes P fn.results.toList = some rv)
    (hrun : ∀ x, run T 0 fuel ci (env0 (svPs tf.ps x) 0) [] (endF rv tf.rs) = tf.fn x) : FnSpec P f tf := by
  intro w res vs x y hres hps hy
  refine calls_of_wp hf hb ?_
  let ρ0 : Map := ⟨fun _ => .unborn, res, fun _ => none⟩
  have hv : VRels ρ0 w (svPs tf.ps x) vs := zl4 (fun b hb => ⟨hb.1, fun h => hb.2 (res_new.1 h), fun _ _ _ _ h => by cases h⟩) hps
  have hpl : ∀ {ps : List Pm} {x : PsT ps}, (svPs ps x).length = ps.length := by
    intro ps
    induction ps with
    | nil => intro x; rfl
    | cons p r ih => intro x; simp [svPs, ih]
  have hvl := hv.length
  rw [hpl] at hvl
  have hat : At P fn.ntmps ρ0 [] w (env0 (svPs tf.ps x) 0) { tmps := vs.toArray ++ Array.replicate (fn.ntmps - vs.toArray.size) undef, defers := [] } := by
    refine ⟨⟨by simp; omega, rfl, fun n => ?_⟩, ?_, fun _ _ => rfl⟩
    · rw [zaF]
      simp only [Nat.zero_le, if_true, Nat.sub_zero]
      split
      · rename_i s hs
        obtain ⟨u, h1, h2⟩ := hv.get n s hs
        have : (vs.toArray ++ Array.replicate (fn.ntmps - vs.toArray.size) undef).getD n undef = u := by
          rw [Array.getD_eq_getD_getElem?, Array.getElem?_append_left (by have := (List.getElem?_eq_some_iff.1 h1).1; simpa using this)]
          simp [h1]
        rw [this]; exact h2
      · simp [VRel]
    · exact ⟨fun β h => by simp at h, fun β h => by simp at h, fun β h => by simp at h, fun _ _ _ _ _ _ _ _ _ h => by (cases h), fun _ _ _ _ _ h => by (cases h), fun b hb => hres b (res_new.1 hb), fun _ _ _ _ _ h => by (cases h)⟩
  have hrun' := hrun x
  rw [hy] at hrun'
  refine zaD hT hmix c hl ho hat hrun' fun ex τ' H' ρ' a' w' h1 h2 h3 => ?_
  have key : (evalRes τ' H' rv).bind (fun ss => outPs tf.rs ss H') = some y → a'.defers = [] ∧ ∃ v, (results fn a'.tmps).run P w' = .ok v w' ∧ (fun e w' => ∃ us tk, e = Ending.returned (resU us) ∧ w'.os = w.os ∧ w'.tape = w.tape ∧ w'.output = w.output ∧ w.heap.size ≤ w'.heap.size ∧ (∀ b, b < w.heap.size → w'.heap[b]? = w.heap[b]?) ∧
      tk.Nodup ∧ (∀ b ∈ tk, w.heap.size ≤ b ∧ b < w'.heap.size) ∧ PsOut w' (fun b => b < w'.heap.size ∧ ¬ res b ∧ b ∉ tk) tf.rs y us.toList tk) (Ending.returned v) w' := by
    intro h4
    rw [Option.bind_eq_some_iff] at h4
    obtain ⟨ss, h5, h6⟩ := h4
    unfold outPs at h6
    split at h6
    · rename_i ls H2 h7
      obtain ⟨us, h8, h9⟩ := zaE h1.t h1.h hrv h5
      obtain ⟨ρ2, tk, g, h10⟩ := zhU h1.h h1.u h9 h7
      have hout := zhV (B := fun b => Free ρ2 w' b ∨ (∃ β o n sz, ρ2 β = .at b o n sz) ∨ ρ2.vl b ≠ none) (fun b hb => .inl hb) (fun {K s x u} h11 h12 =>
        zh g.h (fun b hb => .inl hb) (fun _ b t hv => .inr (.inr (by rw [hv]; simp))) (fun γ b o n sz _ hg => .inr (.inl ⟨γ, o, n, sz, hg⟩)) h11 (VRels.single h12)) h6 h10
      have hr0 : ∀ b, res b → ρ'.res b := fun b hb => .inl (by rw [h2.res]; exact hb)
      have hvn : ∀ b, ρ2.vl b ≠ none → ρ'.res b ∧ ¬ res b := fun b hb => by
        rw [g.vl] at hb
        exact ⟨.inr hb, fun hr => hb (h2.vl b (hres b hr))⟩
      refine ⟨h1.t.2.1, resU us, h8, us, tk, rfl, h2.os, h2.tape, h2.output, h2.size, fun b hb => h2.kept b hb (fun _ _ _ _ h => by (cases h)) rfl, g.nd, fun b hb => ?_, ?_⟩
      · obtain ⟨_, β, o, n, sz, hg⟩ := g.tks b hb
        refine ⟨?_, h1.h.lt _ _ _ _ _ hg⟩
        rcases h2.img β b o n sz hg with ⟨_, _, _, _, h⟩ | h
        · cases h
        · exact h
      · refine PsOut.mono (.inl fun b hb => ?_) hout
        have old : b < w'.heap.size → ¬ ρ2.res b → b < w'.heap.size ∧ ¬ res b ∧ b ∉ tk := fun h h' => ⟨h, fun h => h' (g.res b (hr0 b h)), fun h => h' (g.tks b h).1⟩
        rcases hb with hb | ⟨β, o, n, sz, hb⟩ | hb
        · exact old hb.1 hb.2.1
        · exact old (g.h.lt _ _ _ _ _ hb) (g.h.resf _ _ _ _ _ hb)
        · refine ⟨g.h.resl b (.inr hb), (hvn b hb).2, fun h => ?_⟩
          obtain ⟨_, β, o, n, sz, h12⟩ := g.tks b h
          exact h1.h.resf _ _ _ _ _ h12 (hvn b hb).1
    · simp at h6
  cases ex with
  | exit id => simp [endF] at h3
  | normal =>
    refine key ?_
    simp only [endF] at h3
    split at h3
    · rename_i ss h4; rw [h4]; exact h3
    · simp at h3
  | ret =>
    refine key ?_
    simp only [endF] at h3
    split at h3
    · rename_i ss h4; rw [h4]; exact h3
    · simp at h3
end
end Go.Proofs.YtdgdoeknpakmlaaGreat.Den
namespace Go.Proofs.YtdgdoeknpakmlaaGreat.Den
open Go Go.RowKit
inductive Rf where
  | cells (cs : List (Kd × Bool)) (t : TypeId)
  | arr (K : Kd) (t : TypeId)
@[reducible] def Rf.T : Rf → Type
  | .cells cs _ => CsT cs
  | .arr K _ => List K.T
def Rf.blk : (rf : Rf) → rf.T → Blk
  | .cells cs t, c => .cells (svCs cs c) t cs.length
  | .arr K t, c => .arr K c t
def Rf.view (H : Heap) : (rf : Rf) → Option Blk → Option rf.T
  | .cells cs _, x => match x with
    | some (.cells ds _ z) => if z = cs.length then viewCs H cs ds else none
    | _ => none
  | .arr K _, x => match x with
    | some (.arr K' xs _) => if h : K' = K then some (h ▸ xs) else none
    | _ => none
structure TFU where
  rf : Rf
  ps : List Pm
  rs : List Pm
  fn : rf.T × PsT ps → Option (rf.T × PsT rs)
def TFU.te (tf : TFU) : TE where
  X := tf.rf.T × PsT tf.ps
  Y := tf.rf.T × PsT tf.rs
  mono := false
  view args H := match args with
    | .ptr β 0 :: r => match Rf.view [] tf.rf H[β]?, viewPs [] tf.ps r with
      | some c, some x => some (c, x)
      | _, _ => none
    | _ => none
  fn := tf.fn
  put _ y args H := match args with
    | .ptr β 0 :: _ => some (resV (putPs tf.rs y.2 (H.set β (tf.rf.blk y.1))).1, (putPs tf.rs y.2 (H.set β (tf.rf.blk y.1))).2)
    | _ => none
def RefAt (w : World) (B : Nat → Prop) : (rf : Rf) → rf.T → Nat → Nat → Prop
  | .cells cs _, c, b, o => ∃ C tC, w.heap[b]? = some (.cells C tC (0, 0)) ∧ o + cs.length ≤ C.size ∧ CsRel w B cs c ((C.toList.drop o).take cs.length)
  | .arr K _, c, b, o => ∃ C tC, w.heap[b]? = some (.cells C tC (0, 0)) ∧ o + c.length * K.sz ≤ C.size ∧ RowRel w B K c C o
def Rf.len : (rf : Rf) → rf.T → Nat
  | .cells _ _, _ => 1
  | .arr _ _, c => c.length
def Rf.sz : Rf → Nat
  | .cells cs _ => cs.length
  | .arr K _ => K.sz
def FnSpecU (P : Program) (f : FuncId) (tf : TFU) : Prop :=
  ∀ (w : World) (res : Nat → Prop) (vs : List Value) (c c' : tf.rf.T) (x : PsT tf.ps) (y : PsT tf.rs) (b o : Nat), (∀ b, res b → b < w.heap.size) → ¬ res b → RefAt w (fun b' => b' < w.heap.size ∧ ¬ res b' ∧ b' ≠ b) tf.rf c b o →
    PsRel w (fun b' => b' < w.heap.size ∧ ¬ res b' ∧ b' ≠ b) tf.ps x vs → tf.fn (c, x) = some (c', y) →
    Calls P f (Value.pointer (some ⟨b, o, none⟩) :: vs).toArray w fun e w' => ∃ us tk, e = .returned (resU us) ∧ w'.os = w.os ∧ w'.tape = w.tape ∧ w'.output = w.output ∧ w.heap.size ≤ w'.heap.size ∧ (∀ b', b' < w.heap.size → b' ≠ b → w'.heap[b']? = w.heap[b']?) ∧
      (∀ (b : Nat) C t fr, w.heap[b]? = some (.cells C t fr) → ∃ C', w'.heap[b]? = some (.cells C' t fr) ∧ C'.size = C.size) ∧
      tk.Nodup ∧ (∀ b ∈ tk, w.heap.size ≤ b ∧ b < w'.heap.size) ∧ PsOut w' (fun b' => b' < w'.heap.size ∧ ¬ res b' ∧ b' ≠ b ∧ b' ∉ tk) tf.rs y us.toList tk ∧
      RefAt w' (fun b' => b' < w'.heap.size ∧ ¬ res b' ∧ b' ≠ b ∧ b' ∉ tk) tf.rf c' b o ∧ tf.rf.len c' = tf.rf.len c
def endU (rv : List (Nat × Option (Nat × Bool))) (rf : Rf) (rs : List Pm) (ex : Ex) (τ : Env) (H : Heap) : Option (rf.T × PsT rs) :=
  match ex with
  | .exit _ => none
  | _ => match evalRes τ H rv with
    | some ss => match takePs rs ss H with
      | some (ls, H2) => match Rf.view (H2.set 0 .dead) rf H2[0]?, viewPs (H2.set 0 .dead) rs ls with
        | some c, some y => some (c, y)
        | _, _ => none
      | none => none
    | none => none
section
variable {P : Program} {w : World} {ρ ρ' : Map} {H H' : Heap}
theorem CsRel.length {B : Nat → Prop} : ∀ {cs : List (Kd × Bool)} {x : CsT cs} {us : List Value}, CsRel w B cs x us → us.length = cs.length
  | [], _, _, h => by simp only [CsRel] at h; subst h; rfl
  | (K, f) :: r, x, us, h => by
    simp only [CsRel] at h
    obtain ⟨u, us', rfl, _, h2⟩ := h
    simp [h2.length]
theorem CsRel.mono {B B' : Nat → Prop} (hB : ∀ b, B b → B' b) : ∀ {cs : List (Kd × Bool)} {x : CsT cs} {us : List Value}, CsRel w B cs x us → CsRel w B' cs x us
  | [], _, _, h => h
  | (K, f) :: r, x, us, h => by
    simp only [CsRel] at h ⊢
    obtain ⟨u, us', h1, h2, h3⟩ := h
    exact ⟨u, us', h1, CRel.mono hB (fun _ _ => rfl) h2, CsRel.mono hB h3⟩
theorem zCg : ∀ {cs : List (Kd × Bool)} {x : CsT cs}, (svCs cs x).length = cs.length
  | [], _ => rfl
  | (K, f) :: r, x => by simp [svCs, zCg (cs := r)]
theorem RefAt.brel {B : Nat → Prop} (hB : ∀ b, B b → Free ρ w b) {rf : Rf} {c : rf.T} {b o n sz : Nat} (h : RefAt w B rf c b o) (hsz : rf.sz = sz) (hn : rf.len c * sz = n * sz) (ha : ∀ K t, rf = .arr K t → rf.len c = n) : BRel ρ w b o n sz (rf.blk c) := by
  subst hsz
  cases rf with
  | cells cs t =>
    simp only [RefAt] at h
    obtain ⟨C, tC, h1, h2, h3⟩ := h
    have hv := zds hB h3
    simp only [Rf.len, Rf.sz] at hn
    simp only [Rf.blk, BRel, Rf.sz]
    refine ⟨by first | rfl | trivial, by rw [zCg]; omega, C, tC, h1, by omega, fun j s hs => ?_⟩
    obtain ⟨u, h4, h5⟩ := hv.get j s hs
    rw [List.getElem?_take] at h4
    split at h4
    · rw [List.getElem?_drop, Array.getElem?_toList] at h4
      exact ⟨u, h4, h5⟩
    · simp at h4
  | arr K t =>
    simp only [RefAt] at h
    obtain ⟨C, tC, h1, h2, h3⟩ := h
    have ha := ha K t rfl
    simp only [Rf.len] at ha
    simp only [Rf.blk, BRel, Rf.sz]
    exact ⟨ha, by first | rfl | trivial, C, tC, h1, by rw [← ha]; exact h2, fun i x hx => by
      obtain ⟨es, h4, h5⟩ := h3 i x hx
      exact ⟨es, CRel.mono hB (fun _ _ => rfl) h4, h5⟩⟩
theorem RefAt.mono {B B' : Nat → Prop} (hB : ∀ b, B b → B' b) {rf : Rf} {c : rf.T} {b o : Nat} (h : RefAt w B rf c b o) : RefAt w B' rf c b o := by
  cases rf with
  | cells cs t =>
    simp only [RefAt] at h ⊢
    obtain ⟨C, tC, h1, h2, h3⟩ := h
    exact ⟨C, tC, h1, h2, CsRel.mono hB h3⟩
  | arr K t =>
    simp only [RefAt] at h ⊢
    obtain ⟨C, tC, h1, h2, h3⟩ := h
    exact ⟨C, tC, h1, h2, fun i x hx => by
      obtain ⟨es, h4, h5⟩ := h3 i x hx
      exact ⟨es, CRel.mono hB (fun _ _ => rfl) h4, h5⟩⟩
theorem RefAt.lt {B : Nat → Prop} {rf : Rf} {c : rf.T} {b o : Nat} (h : RefAt w B rf c b o) : b < w.heap.size := by
  cases rf with
  | cells cs t =>
    simp only [RefAt] at h
    obtain ⟨C, tC, h1, _⟩ := h
    exact (Array.getElem?_eq_some_iff.1 h1).1
  | arr K t =>
    simp only [RefAt] at h
    obtain ⟨C, tC, h1, _⟩ := h
    exact (Array.getElem?_eq_some_iff.1 h1).1
theorem Rf.len_eq {rf : Rf} {c c' : rf.T} (h : ∀ K t, rf = .arr K t → rf.len c' = rf.len c) : rf.len c' = rf.len c := by
  cases rf with
  | cells cs t => rfl
  | arr K t => exact h K t rfl
theorem Rf.view_some {H2 : Heap} {rf : Rf} {x : Option Blk} {c : rf.T} (h : Rf.view H2 rf x = some c) : ∃ y, x = some y ∧ y ≠ .dead := by
  cases rf with
  | cells cs t =>
    simp only [Rf.view] at h
    split at h
    · exact ⟨_, rfl, by simp⟩
    · simp at h
  | arr K t =>
    simp only [Rf.view] at h
    split at h
    · exact ⟨_, rfl, by simp⟩
    · simp at h
theorem RefAt.of_view {B : Nat → Prop} {H2 : Heap} (hd : ∀ {K : Kd} {s : SV} {x : K.T} {u : Value}, decH true H2 K [s] = some x → VRel ρ w s u → CRel w B K x [u]) (hB : ∀ b, Free ρ w b → B b) {rf : Rf} {c : rf.T} {β b o n sz : Nat}
    (hH : HRel ρ H w) (hr : ρ β = .at b o n sz) (h : Rf.view H2 rf H[β]? = some c) : RefAt w B rf c b o ∧ rf.sz = sz ∧ rf.len c * sz = n * sz ∧ (∀ K t, rf = .arr K t → rf.len c = n) ∧ β < H.length := by
  cases rf with
  | cells cs t =>
    simp only [Rf.view] at h
    split at h
    · rename_i ds t' z e
      split at h
      · rename_i hz
        subst hz
        obtain ⟨C, tC, hC, h1, h2, h3, h4, h5⟩ := zB hH e hr
        have hrel := CsRel.of_view hd h h4
        have hl := hrel.length
        have hdl : ds.length = cs.length := by
          simp only [List.length_take, List.length_drop, Array.length_toList] at hl; omega
        refine ⟨?_, h1, by simp only [Rf.len]; omega, fun _ _ h => (by cases h), (List.getElem?_eq_some_iff.1 e).1⟩
        simp only [RefAt]
        exact ⟨C, tC, hC, by omega, by rw [hdl] at hrel; exact hrel⟩
      · simp at h
    · simp at h
  | arr K t =>
    simp only [Rf.view] at h
    split at h
    · rename_i K' xs t' e
      split at h
      · rename_i hk
        subst hk
        simp only [Option.some.injEq] at h; subst h
        obtain ⟨h1, h2, C, tC, hC, h3, h4⟩ := row_raw hH e hr
        refine ⟨?_, h2, by simp only [Rf.len]; rw [h1], fun _ _ _ => h1, (List.getElem?_eq_some_iff.1 e).1⟩
        simp only [RefAt]
        exact ⟨C, tC, hC, by rw [h1, h2]; exact h3, fun i x hx => by
          obtain ⟨es, h5, h6⟩ := h4 i x hx
          exact ⟨es, CRel.mono hB (fun _ _ => rfl) h5, h6⟩⟩
      · simp at h
    · simp at h
theorem zCh {T : Tab} {f : FuncId} {fn : Func} {c : Code} {tf : TFU} {frz : List Nat} {ann : List Norm} {cuts : List (Nat × Norm)} {ci : C} {j fuel : Nat} {rv : List (Nat × Option (Nat × Bool))} (hT : TabOK P T) (hmix : P.follows .mixedOrders = true)
    (hf : P.funcs[f]? = some fn) (hb : fn.body = some c) (hl : lightC P frz fn.ntmps ann cuts 0 c = some (ci, j)) (ho : okC T c ci = true) (hn : tf.ps.length + 1 ≤ fn.ntmps) (hrv : lightRes P fn.results.toList = some rv)
    (hrun : ∀ c x, run T 1 fuel ci ((0, .ptr 0 0) :: env0 (svPs tf.ps x) 1) [tf.rf.blk c] (endU rv tf.rf tf.rs) = tf.fn (c, x)) : FnSpecU P f tf := by
  intro w res vs cc cc' x y b o hres hrb href hps hy
  refine calls_of_wp hf hb ?_
  let ρ0 : Map := ⟨fun β => if β = 0 then .at b o (tf.rf.len cc) tf.rf.sz else .unborn, res, fun _ => none⟩
  have hi0 : ∀ {β b' o' n' sz'}, ρ0 β = .at b' o' n' sz' → β = 0 ∧ b' = b := by
    intro β b' o' n' sz' h
    simp only [ρ0] at h
    split at h
    · rename_i e; injection h with h1; exact ⟨e, h1.symm⟩
    · cases h
  have hfree0 : ∀ b', (b' < w.heap.size ∧ ¬ res b' ∧ b' ≠ b) → Free ρ0 w b' := fun b' hb => ⟨hb.1, fun h => hb.2.1 (res_new.1 h), fun β o' n' sz' h => hb.2.2 (hi0 h).2⟩
  have hv : VRels ρ0 w (.ptr 0 0 :: svPs tf.ps x) (.pointer (some ⟨b, o, none⟩) :: vs) := by
    simp only [VRels]
    exact ⟨_, vs, rfl, by simp [VRel, ρ0], zl4 hfree0 hps⟩
  have hpl : ∀ {ps : List Pm} {x : PsT ps}, (svPs ps x).length = ps.length := by
    intro ps
    induction ps with
    | nil => intro x; rfl
    | cons p r ih => intro x; simp [svPs, ih]
  have hvl := hv.length
  rw [List.length_cons, hpl] at hvl
  have hbs : b < w.heap.size := href.lt
  have hat : At P fn.ntmps ρ0 [tf.rf.blk cc] w ((0, .ptr 0 0) :: env0 (svPs tf.ps x) 1) { tmps := (Value.pointer (some ⟨b, o, none⟩) :: vs).toArray ++ Array.replicate (fn.ntmps - (Value.pointer (some ⟨b, o, none⟩) :: vs).toArray.size) undef, defers := [] } := by
    refine ⟨⟨by simp at hvl ⊢; omega, rfl, fun n => ?_⟩, ?_, fun β hβ => ?_⟩
    · have e : ((0, SV.ptr 0 0) :: env0 (svPs tf.ps x) 1) = env0 (.ptr 0 0 :: svPs tf.ps x) 0 := rfl
      rw [e, zaF]
      simp only [Nat.zero_le, if_true, Nat.sub_zero]
      split
      · rename_i s hs
        obtain ⟨u, h1, h2⟩ := hv.get n s hs
        have : ((Value.pointer (some ⟨b, o, none⟩) :: vs).toArray ++ Array.replicate (fn.ntmps - (Value.pointer (some ⟨b, o, none⟩) :: vs).toArray.size) undef).getD n undef = u := by
          rw [Array.getD_eq_getD_getElem?, Array.getElem?_append_left (by have := (List.getElem?_eq_some_iff.1 h1).1; simpa using this), List.getElem?_toArray, h1]
          rfl
        rw [this]; exact h2
      · simp [VRel]
    · refine ⟨fun β hl h => ?_, fun β hl h => ?_, fun β hl b' o' n' sz' h => ?_, fun β γ b' o1 n1 s1 o2 n2 s2 h1 h2 => by rw [(hi0 h1).1, (hi0 h2).1], fun β b' o' n' sz' h => by rw [(hi0 h).2]; exact hbs, fun b hb => hres b (res_new.1 hb), fun β b' o' n' sz' h hr => by rw [(hi0 h).2] at hr; exact hrb (res_new.1 hr)⟩
      · simp at hl; subst hl; simp [ρ0] at h
      · simp at hl; subst hl; simp [ρ0] at h
      · obtain ⟨rfl, rfl⟩ := hi0 h
        simp only [ρ0, if_true] at h
        injection h with h1 h2 h3 h4
        subst h2; subst h3; subst h4
        exact ⟨_, rfl, href.brel hfree0 rfl rfl fun _ _ _ => rfl⟩
    · simp at hβ
      simp only [ρ0]; rw [if_neg (by omega)]
  have hrun' := hrun cc x
  rw [hy] at hrun'
  refine zaD hT hmix c hl ho hat hrun' fun ex τ' H' ρ' a' w' h1 h2 h3 => ?_
  have hend : ∃ ss ls H2, evalRes τ' H' rv = some ss ∧ takePs tf.rs ss H' = some (ls, H2) ∧ Rf.view (H2.set 0 .dead) tf.rf H2[0]? = some cc' ∧ viewPs (H2.set 0 .dead) tf.rs ls = some y ∧ (ex = .normal ∨ ex = .ret) := by
    unfold endU at h3
    split at h3
    · simp at h3
    · rename_i hex
      split at h3
      · rename_i ss h4
        split at h3
        · rename_i ls H2 h5
          split at h3
          · rename_i c1 y1 h6 h7
            simp only [Option.some.injEq, Prod.mk.injEq] at h3
            obtain ⟨rfl, rfl⟩ := h3
            refine ⟨ss, ls, H2, h4, h5, h6, h7, ?_⟩
            cases ex with
            | normal => exact .inl rfl
            | ret => exact .inr rfl
            | exit id => exact absurd rfl (hex id)
          · simp at h3
        · simp at h3
      · simp at h3
  obtain ⟨ss, ls, H2, h4, h5, h6, h7, hex⟩ := hend
  obtain ⟨us, h8, h9⟩ := zaE h1.t h1.h hrv h4
  obtain ⟨ρ2, tk, g, h10⟩ := zhU h1.h h1.u h9 h5
  obtain ⟨y0, hy0, hnd⟩ := Rf.view_some h6
  have hl0 : 0 < H2.length := (List.getElem?_eq_some_iff.1 hy0).1
  have hr2 : ρ2 0 = .at b o (tf.rf.len cc) tf.rf.sz := by
    have e0 : ρ0 0 = .at b o (tf.rf.len cc) tf.rf.sz := by simp [ρ0]
    have nd : ρ2 0 ≠ .dead := fun h => by
      have := g.h.dead 0 hl0 h
      rw [hy0] at this; cases this; exact hnd rfl
    rcases h2.ref 0 (by omega) (by rw [e0]; simp) with e | e
    · rcases g.st.ref 0 (by rw [e, e0]; simp) with e2 | e2
      · rw [e2, e, e0]
      · exact absurd e2 nd
    · rcases g.st.ref 0 (by rw [e]; simp) with e2 | e2
      · rw [e] at e2; exact absurd e2 nd
      · exact absurd e2 nd
  have g3 := Gave.of_take g.h g.u hl0 hr2
  have hd : ∀ {K : Kd} {s : SV} {x : K.T} {u : Value}, decH true (H2.set 0 .dead) K [s] = some x → VRel ρ2 w' s u → CRel w' (fun b' => Free (ρ2.take 0 b) w' b' ∨ (∃ β o n sz, (ρ2.take 0 b) β = .at b' o n sz) ∨ ρ2.vl b' ≠ none) K x [u] := fun h11 h12 =>
    zh g3.h (fun b hb => .inl hb) (fun _ b t hv => .inr (.inr (by rw [show ρ2.vl b = some t from hv]; simp))) (fun γ b o n sz _ hg => .inr (.inl ⟨γ, o, n, sz, hg⟩)) h11 (VRels.single (h12.stepF g3.st))
  have hB3 : ∀ b', (Free (ρ2.take 0 b) w' b' ∨ (∃ β o n sz, (ρ2.take 0 b) β = .at b' o n sz) ∨ ρ2.vl b' ≠ none) → b' < w'.heap.size ∧ ¬ res b' ∧ b' ≠ b ∧ b' ∉ tk := by
    intro b' hb
    have hr0 : ∀ b, res b → ρ'.res b := fun b hb => .inl (by rw [h2.res]; exact hb)
    have old : b' < w'.heap.size → ¬ (ρ2.take 0 b).res b' → b' < w'.heap.size ∧ ¬ res b' ∧ b' ≠ b ∧ b' ∉ tk := fun h3 h4 =>
      ⟨h3, fun h => h4 (zn.2 (.inl (g.res b' (hr0 b' h)))), fun h => h4 (zn.2 (.inr h)), fun h => h4 (zn.2 (.inl (g.tks b' h).1))⟩
    rcases hb with hb | ⟨β, o, n, sz, hb⟩ | hb
    · exact old hb.1 hb.2.1
    · exact old (g3.h.lt _ _ _ _ _ hb) (g3.h.resf _ _ _ _ _ hb)
    · have hv2 : ρ'.vl b' ≠ none := by rw [← g.vl]; exact hb
      refine ⟨g.h.resl b' (.inr hb), fun h => hv2 (h2.vl b' (hres b' h)), ?_, fun h => ?_⟩
      · rintro rfl; exact g.h.resf _ _ _ _ _ hr2 (.inr hb)
      · obtain ⟨_, β, o, n, sz, h12⟩ := g.tks b' h
        exact h1.h.resf _ _ _ _ _ h12 (.inr hv2)
  have hout := zhV (ρ := ρ2) (fun b hb => .inl (zq4 hr2 b hb)) hd h7 h10
  obtain ⟨k1, _, _, k4, _⟩ := RefAt.of_view (ρ := ρ2) hd (fun b hb => .inl (zq4 hr2 b hb)) g.h hr2 h6
  have hpost : a'.defers = [] ∧ ∃ v, (results fn a'.tmps).run P w' = .ok v w' ∧ (fun e w' => ∃ us tk, e = Ending.returned (resU us) ∧ w'.os = w.os ∧ w'.tape = w.tape ∧ w'.output = w.output ∧ w.heap.size ≤ w'.heap.size ∧ (∀ b', b' < w.heap.size → b' ≠ b → w'.heap[b']? = w.heap[b']?) ∧
      (∀ (b : Nat) C t fr, w.heap[b]? = some (.cells C t fr) → ∃ C', w'.heap[b]? = some (.cells C' t fr) ∧ C'.size = C.size) ∧
      tk.Nodup ∧ (∀ b ∈ tk, w.heap.size ≤ b ∧ b < w'.heap.size) ∧ PsOut w' (fun b' => b' < w'.heap.size ∧ ¬ res b' ∧ b' ≠ b ∧ b' ∉ tk) tf.rs y us.toList tk ∧
      RefAt w' (fun b' => b' < w'.heap.size ∧ ¬ res b' ∧ b' ≠ b ∧ b' ∉ tk) tf.rf cc' b o ∧ tf.rf.len cc' = tf.rf.len cc) (Ending.returned v) w' := by
    refine ⟨h1.t.2.1, resU us, h8, us, tk, rfl, h2.os, h2.tape, h2.output, h2.size, fun b' hb hne => h2.kept b' hb (fun β o n sz h => hne (hi0 h).2) rfl, h2.shape, g.nd, fun b' hb => ?_, PsOut.mono (.inl hB3) hout, k1.mono hB3, ?_⟩
    · obtain ⟨hrs, β, o', n', sz', hg⟩ := g.tks b' hb
      refine ⟨?_, h1.h.lt _ _ _ _ _ hg⟩
      rcases h2.img β b' o' n' sz' hg with ⟨γ, _, _, _, h⟩ | h
      · exfalso
        obtain ⟨_, rfl⟩ := hi0 h
        exact g.h.resf _ _ _ _ _ hr2 hrs
      · exact h
    · exact Rf.len_eq k4
  rcases hex with rfl | rfl
  · exact hpost
  · exact hpost
end
end Go.Proofs.YtdgdoeknpakmlaaGreat.Den
namespace Go.Proofs.YtdgdoeknpakmlaaGreat.Den
open Go Go.RowKit
section
variable {w : World} {ρ : Map} {H : Heap}
theorem zNU {P : Program} {f : FuncId} {tf : TFU} (h : FnSpecU P f tf) : TESound P f tf.te := by
  intro ρ H w args vs x y v H' hH hv hun hview hfn hput
  change tf.rf.T × PsT tf.ps at x
  change tf.rf.T × PsT tf.rs at y
  obtain ⟨β, r, c, xx, rfl, hc, hxx, rfl⟩ : ∃ β r c xx, args = .ptr β 0 :: r ∧ Rf.view [] tf.rf H[β]? = some c ∧ viewPs [] tf.ps r = some xx ∧ x = (c, xx) := by
    change (match (generalizing := false) args with
      | .ptr β 0 :: r => (match Rf.view [] tf.rf H[β]?, viewPs [] tf.ps r with
        | some c, some x => some (c, x)
        | _, _ => none)
      | _ => none) = some x at hview
    split at hview
    · rename_i β r
      split at hview
      · rename_i c xx h1 h2
        simp only [Option.some.injEq] at hview
        exact ⟨β, r, c, xx, rfl, h1, h2, hview.symm⟩
      · simp at hview
    · simp at hview
  obtain ⟨c', yy⟩ := y
  have hput' : v = resV (putPs tf.rs yy (H.set β (tf.rf.blk c'))).1 ∧ H' = (putPs tf.rs yy (H.set β (tf.rf.blk c'))).2 := by
    simp only [TFU.te, Option.some.injEq, Prod.mk.injEq] at hput
    exact ⟨hput.1.symm, hput.2.symm⟩
  obtain ⟨rfl, rfl⟩ := hput'
  simp only [VRels] at hv
  obtain ⟨v0, vs', rfl, hv0, hv'⟩ := hv
  obtain ⟨y0, hy0, hnd0⟩ := Rf.view_some hc
  obtain ⟨b, o, n, sz, hr, hv0⟩ := ptr_rel hH hy0 hnd0 hv0
  rw [Nat.add_zero] at hv0
  subst hv0
  let res : Nat → Prop := fun b' => ρ.res b' ∨ (b' ≠ b ∧ ∃ β o n sz, ρ β = .at b' o n sz)
  have hres : ∀ b, res b → b < w.heap.size := by
    rintro b (hb | ⟨_, β, o, n, sz, hb⟩)
    · exact hH.resl b hb
    · exact hH.lt _ _ _ _ _ hb
  have hrb : ¬ res b := by
    rintro (hb | ⟨hb, _⟩)
    · exact hH.resf _ _ _ _ _ hr hb
    · exact hb rfl
  have hfB : ∀ b', Free ρ w b' → b' < w.heap.size ∧ ¬ res b' ∧ b' ≠ b := fun b' hb => ⟨hb.1, fun h3 => by
    rcases h3 with h3 | ⟨_, β, o, n, sz, h3⟩
    · exact hb.2.1 h3
    · exact hb.2.2 _ _ _ _ h3, fun e => by subst e; exact hb.2.2 _ _ _ _ hr⟩
  have hd : ∀ {K : Kd} {s : SV} {x : K.T} {u : Value}, decH true [] K [s] = some x → VRel ρ w s u → CRel w (fun b' => b' < w.heap.size ∧ ¬ res b' ∧ b' ≠ b) K x [u] := fun h1 h2 =>
    CRel.mono hfB (fun _ _ => rfl) (zg h1 (VRels.single h2))
  obtain ⟨href, hsz, hnn, harr, hlt⟩ := RefAt.of_view hd hfB hH hr hc
  refine Calls.mono (h w res vs' c c' xx yy b o hres hrb href (PsRel.of_view hd hxx hv') hfn) fun e w' he => ?_
  obtain ⟨us, tk, rfl, hos, htape, hout, hsize, hkept, hshape, hnd, htk, hps', href', hlen'⟩ := he
  obtain ⟨bs, ms, hent, hputs⟩ := zhT hps'
  obtain ⟨hH', hvr⟩ := hputs (H.set β (tf.rf.blk c'))
  have hl1 : (H.set β (tf.rf.blk c')).length = H.length := by simp
  have hml := hent.length
  have hlt' : ∀ {β}, β < H.length → (ρ.add H.length ms) β = ρ β := fun h => by simp [Map.add, h]
  have hge : ∀ {i}, i < ms.length → ∃ m, ms[i]? = some m ∧ (ρ.add H.length ms) (H.length + i) = m := fun {i} h => by
    refine ⟨ms[i], List.getElem?_eq_getElem h, ?_⟩
    simp only [Map.add]; rw [if_neg (by omega), Nat.add_sub_cancel_left, List.getElem?_eq_getElem h]
  have hgt : ∀ {β}, H.length + ms.length ≤ β → (ρ.add H.length ms) β = ρ β := fun {β} h => by
    simp only [Map.add]; rw [if_neg (by omega), List.getElem?_eq_none (by omega)]
  have cases3 : ∀ β, (β < H.length ∧ (ρ.add H.length ms) β = ρ β) ∨ (H.length + ms.length ≤ β ∧ (ρ.add H.length ms) β = ρ β) ∨ ∃ i m, β = H.length + i ∧ ms[i]? = some m ∧ (ρ.add H.length ms) β = m := by
    intro β
    rcases Nat.lt_or_ge β H.length with h1 | h1
    · exact .inl ⟨h1, hlt' h1⟩
    · rcases Nat.lt_or_ge β (H.length + ms.length) with h2 | h2
      · obtain ⟨m, h3, h4⟩ := hge (i := β - H.length) (by omega)
        rw [show H.length + (β - H.length) = β by omega] at h4
        exact .inr (.inr ⟨β - H.length, m, by omega, h3, h4⟩)
      · exact .inr (.inl ⟨h2, hgt h2⟩)
  have htkn : ∀ {i : Nat} {b o n sz : Nat}, ms[i]? = some (.at b o n sz) → b ∈ tk := fun hm => by
    obtain ⟨_, t, _, h6, h7⟩ := hent.get _ _ hm
    exact h7 _ h6.at_
  have hub : ∀ β, H.length ≤ β → β < H.length + ms.length → ρ β = .unborn := fun β h1 h2 => hun β h1 (by rw [hH']; simp; omega)
  have hsb : ∀ {β b o n sz}, ρ β = .at b o n sz → b < w.heap.size := fun h => hH.lt _ _ _ _ _ h
  have hstep : Step ρ w (ρ.add H.length ms) w' := {
    os := hos, tape := htape, output := hout, size := hsize
    kept := fun b' hb hn _ => hkept b' hb (fun e => by subst e; exact hn _ _ _ _ hr)
    shape := hshape
    img := fun β b o n sz hb => by
      rcases cases3 β with ⟨_, h2⟩ | ⟨_, h2⟩ | ⟨i, m, _, h3, h4⟩
      · rw [h2] at hb; exact .inl ⟨β, o, n, sz, hb⟩
      · rw [h2] at hb; exact .inl ⟨β, o, n, sz, hb⟩
      · rw [h4] at hb; subst hb
        exact .inr (htk b (htkn h3)).1
    ref := fun β hb => by
      rcases cases3 β with ⟨_, h2⟩ | ⟨_, h2⟩ | ⟨i, m, h2, h3, _⟩
      · exact .inl h2
      · exact .inl h2
      · exact absurd (hub β (by omega) (by have := (List.getElem?_eq_some_iff.1 h3).1; omega)) hb
    res := rfl
    vl := fun _ _ => rfl }
  have hfree : ∀ b', (b' < w'.heap.size ∧ ¬ res b' ∧ b' ≠ b ∧ b' ∉ tk) → Free (ρ.add H.length ms) w' b' := fun b' hb => ⟨hb.1, fun h3 => hb.2.1 (.inl h3), fun β o n sz h1 => by
    rcases cases3 β with ⟨_, h2⟩ | ⟨_, h2⟩ | ⟨i, m, _, h3, h4⟩
    · rw [h2] at h1; exact hb.2.1 (.inr ⟨hb.2.2.1, _, _, _, _, h1⟩)
    · rw [h2] at h1; exact hb.2.1 (.inr ⟨hb.2.2.1, _, _, _, _, h1⟩)
    · rw [h4] at h1; subst h1; exact hb.2.2.2 (htkn h3)⟩
  have hget : ∀ {γ}, γ < H.length → γ ≠ β → (H.set β (tf.rf.blk c') ++ bs)[γ]? = H[γ]? := fun {γ} h1 h2 => by
    rw [List.getElem?_append_left (by rw [hl1]; exact h1), List.getElem?_set_ne (Ne.symm h2)]
  have hbr : BRel (ρ.add H.length ms) w' b o n sz (tf.rf.blk c') := href'.brel hfree hsz (by rw [hlen']; exact hnn) fun K t e => by rw [hlen']; exact harr K t e
  refine ⟨resU us, ρ.add H.length ms, rfl, hstep, ?_, ?_, ?_, ?_, by simp [TFU.te]⟩
  · rw [hH']
    constructor
    · intro γ hl hd
      rcases cases3 γ with ⟨h1, h2⟩ | ⟨h1, h2⟩ | ⟨i, m, h2, h3, h4⟩
      · rw [h2] at hd
        rw [hget h1 (fun e => by subst e; rw [hr] at hd; cases hd)]
        exact hH.dead γ h1 hd
      · simp at hl; omega
      · rw [h4] at hd; subst hd
        obtain ⟨_, t, _, h6, _⟩ := hent.get _ _ h3
        rcases h6 with ⟨h6, _⟩ | ⟨_, _, _, _, _, _, _, _, h6, _⟩ <;> cases h6
    · intro γ hl hd
      rcases cases3 γ with ⟨h1, h2⟩ | ⟨h1, h2⟩ | ⟨i, m, h2, h3, h4⟩
      · rw [h2] at hd
        rw [hget h1 (fun e => by subst e; rw [hr] at hd; cases hd)]
        exact hH.none_ γ h1 hd
      · simp at hl; omega
      · rw [h4] at hd; subst hd; subst h2
        obtain ⟨x, t, h5, h6, _⟩ := hent.get _ _ h3
        rcases h6 with ⟨_, _, e, h6⟩ | ⟨_, _, _, _, _, _, _, _, h6, _⟩
        · subst h6
          exact .inl ⟨e, 0, by rw [List.getElem?_append_right (by omega), hl1, Nat.add_sub_cancel_left]; exact h5⟩
        · cases h6
    · intro γ hl b1 o1 n1 sz1 hq
      rcases cases3 γ with ⟨h1, h2⟩ | ⟨h1, h2⟩ | ⟨i, m, h2, h3, h4⟩
      · rw [h2] at hq
        by_cases e : γ = β
        · subst e
          rw [hr] at hq; injection hq with e1 e2 e3 e4
          subst e1; subst e2; subst e3; subst e4
          refine ⟨_, ?_, hbr⟩
          rw [List.getElem?_append_left (by rw [hl1]; exact h1)]
          simp [h1]
        · obtain ⟨x, h5, h6⟩ := hH.at_ γ h1 _ _ _ _ hq
          refine ⟨x, by rw [hget h1 e]; exact h5, h6.keep hstep (hkept b1 (hsb hq) fun e2 => ?_) fun b2 hb2 => ⟨hH.vlt hb2, hkept b2 (hH.vlt hb2) fun e2 => ?_⟩⟩
          · subst e2
            exact e (hH.inj _ _ _ _ _ _ _ _ _ hq hr)
          · subst e2
            exact hH.resf _ _ _ _ _ hr (.inr (by rw [hb2]; simp))
      · simp at hl; omega
      · rw [h4] at hq; subst hq; subst h2
        obtain ⟨x, t, h5, h6, _⟩ := hent.get _ _ h3
        rcases h6 with ⟨h6, _⟩ | ⟨b', o', n', sz', e, xs, C, tC, h6, h7, h8, h9, h10, h11, h12, h13⟩
        · cases h6
        · cases h6; subst h8
          refine ⟨_, by rw [List.getElem?_append_right (by omega), hl1, Nat.add_sub_cancel_left]; exact h5, ?_⟩
          simp only [BRel]
          exact ⟨h9, h10, C, tC, h11, h12, fun i x hx => by
            obtain ⟨es, h14, h15⟩ := h13 i x hx
            exact ⟨es, CRel.mono hfree (fun _ _ => rfl) h14, h15⟩⟩
    · intro β1 γ b1 o1 n1 sz1 o' n' sz' hb hc
      rcases cases3 β1 with ⟨h1, h2⟩ | ⟨h1, h2⟩ | ⟨i, m, h2, h3, h4⟩ <;> rcases cases3 γ with ⟨g1, g2⟩ | ⟨g1, g2⟩ | ⟨j, m', g2, g3, g4⟩
      · rw [h2] at hb; rw [g2] at hc; exact hH.inj _ _ _ _ _ _ _ _ _ hb hc
      · rw [h2] at hb; rw [g2] at hc; exact hH.inj _ _ _ _ _ _ _ _ _ hb hc
      · rw [h2] at hb; rw [g4] at hc; subst hc
        have := (htk b1 (htkn g3)).1; have := hsb hb; omega
      · rw [h2] at hb; rw [g2] at hc; exact hH.inj _ _ _ _ _ _ _ _ _ hb hc
      · rw [h2] at hb; rw [g2] at hc; exact hH.inj _ _ _ _ _ _ _ _ _ hb hc
      · rw [h2] at hb; rw [g4] at hc; subst hc
        have := (htk b1 (htkn g3)).1; have := hsb hb; omega
      · rw [h4] at hb; subst hb; rw [g2] at hc
        have := (htk b1 (htkn h3)).1; have := hsb hc; omega
      · rw [h4] at hb; subst hb; rw [g2] at hc
        have := (htk b1 (htkn h3)).1; have := hsb hc; omega
      · rw [h4] at hb; subst hb; rw [g4] at hc; subst hc
        rw [h2, g2, hent.inj hnd i j h3 g3]
    · intro β b o n sz hb
      rcases cases3 β with ⟨h1, h2⟩ | ⟨h1, h2⟩ | ⟨i, m, h2, h3, h4⟩
      · rw [h2] at hb; have := hsb hb; omega
      · rw [h2] at hb; have := hsb hb; omega
      · rw [h4] at hb; subst hb; exact (htk b (htkn h3)).2
    · intro b hb; have := hH.resl b hb; omega
    · intro β b o n sz hb hr
      rcases cases3 β with ⟨h1, h2⟩ | ⟨h1, h2⟩ | ⟨i, m, h2, h3, h4⟩
      · rw [h2] at hb; exact hH.resf _ _ _ _ _ hb hr
      · rw [h2] at hb; exact hH.resf _ _ _ _ _ hb hr
      · rw [h4] at hb; subst hb
        have := (htk b (htkn h3)).1; have := hH.resl b hr; omega
  · exact zdt (hvr (ρ.add H.length ms) (fun i m hm => by
      obtain ⟨m', h1, h2⟩ := hge (List.getElem?_eq_some_iff.1 hm).1
      rw [hm] at h1; cases h1
      rw [hl1]; exact h2) hfree)
  · rw [hH']; simp
  · intro γ hb hc
    rcases cases3 γ with ⟨_, h2⟩ | ⟨_, h2⟩ | ⟨i, m, h2, h3, h4⟩
    · rw [h2]; exact hb
    · rw [h2]; exact hb
    · exfalso
      rw [hH'] at hc
      have := (List.getElem?_eq_some_iff.1 h3).1
      simp at hc; omega
end
end Go.Proofs.YtdgdoeknpakmlaaGreat.Den
namespace Go.Proofs.YtdgdoeknpakmlaaGreat.Den
open Go Go.RowKit
structure TFP where
  ps : List Pm
  cs : List (Kd × Bool)
  t : TypeId
  fn : PsT ps → Option (CsT cs)
def TFP.rf (tf : TFP) : Rf := .cells tf.cs tf.t
def TFP.te (tf : TFP) : TE where
  X := PsT tf.ps
  Y := CsT tf.cs
  mono := true
  view args H := viewPs [] tf.ps args
  fn := tf.fn
  put _ y _ H := some (.ptr H.length 0, H ++ [.cells (svCs tf.cs y) tf.t tf.cs.length])
section
variable {P : Program}
end
end Go.Proofs.YtdgdoeknpakmlaaGreat.Den
namespace Go.Proofs.YtdgdoeknpakmlaaGreat.Den
open Go Go.RowKit
def iter {V R : Type} (step : (V → Option R) → V → Option R) : Nat → V → Option R
  | 0, _ => none
  | n + 1, v => step (iter step n) v
theorem zNV {V R : Type} {T : Tab} {n0 fuel : Nat} {nm : Norm} {c : C} {k : Ex → Env → Heap → Option R} {enc : V → Env × Heap} {step : (V → Option R) → V → Option R}
    (h : ∀ (G : Env → Heap → Option R) (v : V), run T n0 fuel c (enc v).1 (enc v).2 (loopK n0 nm G k) = step (fun v => G (enc v).1 (enc v).2) v) :
    ∀ n, (fun v => loopN (run T n0 fuel c) n0 nm n (enc v).1 (enc v).2 k) = iter step n := by
  intro n
  induction n with
  | zero => rfl
  | succ n ih =>
    funext v
    show run T n0 fuel c (enc v).1 (enc v).2 (loopK n0 nm (fun τ H => loopN (run T n0 fuel c) n0 nm n τ H k) k) = step (iter step n) v
    rw [h, ih]
end Go.Proofs.YtdgdoeknpakmlaaGreat.Den
namespace Go.Proofs.YtdgdoeknpakmlaaGreat.Den
open Go Go.RowKit
def teIn : List (Nat × TE) → Nat → List TE
  | [], _ => []
  | (g, te) :: r, f => cond (Nat.beq g f) (te :: teIn r f) (teIn r f)
def methIn : List (Nat × String × Nat) → Nat → String → Option Nat
  | [], _, _ => none
  | (t, m, f) :: r, t', m' => cond (Nat.beq t t' && decide (m = m')) (some f) (methIn r t' m')
def Tab.of (l : List (Nat × TE)) (ms : List (Nat × String × Nat)) : Tab := ⟨teIn l, methIn ms, fun _ => none⟩
structure EntryOK (P : Program) (f : Nat) (te : TE) : Prop where
  snd : TESound P f te
  fn : ∃ fn, P.funcs[f]? = some fn ∧ fn.name ≠ "runtime.NumGoroutine" ∧ fn.body.isSome = true
  ext : te.mono = true → ∀ x y args H v H', te.put x y args H = some (v, H') → ∃ Δ, H' = H ++ Δ
  tch : ∀ x y args H v H', te.view args H = some x → te.put x y args H = some (v, H') → H.length ≤ H'.length ∧ ∀ γ, γ < H.length → γ ∉ (args.headD .junk).refs → H'[γ]? = H[γ]?
def MethOK (P : Program) (t : Nat) (m : String) (f : Nat) : Prop := ∀ v args w, (callMethod (.iface t v) m args).run P w = .ok (.enter f (#[v] ++ args)) w
theorem za6 {l : List (Nat × TE)} {f : Nat} {te : TE} (h : te ∈ teIn l f) : (f, te) ∈ l := by
  induction l with
  | nil => simp [teIn] at h
  | cons p r ih =>
    obtain ⟨g, te'⟩ := p
    simp only [teIn] at h
    cases hb : Nat.beq g f with
    | true =>
      rw [hb] at h
      rcases List.mem_cons.1 h with h | h
      · rw [Nat.eq_of_beq_eq_true hb, h]; simp
      · exact List.mem_cons_of_mem _ (ih h)
    | false =>
      rw [hb] at h
      exact List.mem_cons_of_mem _ (ih h)
theorem zCi {l : List (Nat × String × Nat)} {t : Nat} {m : String} {f : Nat} (h : methIn l t m = some f) : (t, m, f) ∈ l := by
  induction l with
  | nil => simp [methIn] at h
  | cons p r ih =>
    obtain ⟨t', m', f'⟩ := p
    simp only [methIn] at h
    rcases zd h with ⟨h1, h2⟩ | ⟨_, h2⟩
    · simp only [Bool.and_eq_true, decide_eq_true_eq] at h1
      simp at h2; subst h2
      rw [Nat.eq_of_beq_eq_true h1.1, h1.2]; simp
    · exact List.mem_cons_of_mem _ (ih h2)
theorem TabOK.of {P : Program} {l : List (Nat × TE)} {ms : List (Nat × String × Nat)} (h : ∀ p ∈ l, EntryOK P p.1 p.2) (hm : ∀ p ∈ ms, MethOK P p.1 p.2.1 p.2.2) : TabOK P (Tab.of l ms) where
  te f te hte := (h _ (za6 hte)).snd
  fn f te hte := (h _ (za6 hte)).fn
  ext f te hte := (h _ (za6 hte)).ext
  tch f te hte := (h _ (za6 hte)).tch
  meth t m f hf := hm _ (zCi hf)
  inl f ie h := by cases h
def inlIn : List (Nat × IE) → Nat → Option IE
  | [], _ => none
  | (g, ie) :: r, f => cond (Nat.beq g f) (some ie) (inlIn r f)
def Tab.ofI (l : List (Nat × TE)) (ms : List (Nat × String × Nat)) (is : List (Nat × IE)) : Tab := ⟨teIn l, methIn ms, inlIn is⟩
theorem zNW {l : List (Nat × IE)} {f : Nat} {ie : IE} (h : inlIn l f = some ie) : (f, ie) ∈ l := by
  induction l with
  | nil => simp [inlIn] at h
  | cons p r ih =>
    obtain ⟨g, ie'⟩ := p
    simp only [inlIn] at h
    cases hb : Nat.beq g f with
    | true =>
      rw [hb] at h
      have h2 : ie' = ie := by simpa using h
      rw [Nat.eq_of_beq_eq_true hb, h2]; simp
    | false =>
      rw [hb] at h
      exact List.mem_cons_of_mem _ (ih h)
theorem TabOK.ofI {P : Program} {l : List (Nat × TE)} {ms : List (Nat × String × Nat)} {is : List (Nat × IE)} (h : ∀ p ∈ l, EntryOK P p.1 p.2) (hm : ∀ p ∈ ms, MethOK P p.1 p.2.1 p.2.2) (hi : ∀ p ∈ is, ISound P p.1 p.2) : TabOK P (Tab.ofI l ms is) where
  te f te hte := (h _ (za6 hte)).snd
  fn f te hte := (h _ (za6 hte)).fn
  ext f te hte := (h _ (za6 hte)).ext
  tch f te hte := (h _ (za6 hte)).tch
  meth t m f hf := hm _ (zCi hf)
  inl f ie h := hi _ (zNW h)
theorem ext_tch {te : TE} {x : te.X} {y : te.Y} {args : List SV} {H : Heap} {v : SV} {H' : Heap} (h : ∃ Δ, H' = H ++ Δ) : H.length ≤ H'.length ∧ ∀ γ, γ < H.length → γ ∉ (args.headD .junk).refs → H'[γ]? = H[γ]? := by
  obtain ⟨Δ, rfl⟩ := h
  exact ⟨by simp, fun γ h _ => List.getElem?_append_left h⟩
theorem zNX : ∀ {cs : List (Kd × Bool)} {x : CsT cs} {H : Heap}, ∃ Δ, (putCs cs x H).2 = H ++ Δ := by
  intro cs
  induction cs with
  | nil => intro x H; exact ⟨[], by simp [putCs]⟩
  | cons c cs ih =>
    intro x H
    match c, x with
    | (.list e, true), x =>
      obtain ⟨Δ, h⟩ := ih (x := x.2) (H := H ++ [.arr e x.1 0])
      exact ⟨_, by simp only [putCs]; rw [h, List.append_assoc]⟩
    | (.list e, false), x => exact ih (x := x.2) (H := H)
    | (.int _, _), x => exact ih (x := x.2) (H := H)
    | (.bool, _), x => exact ih (x := x.2) (H := H)
    | (.unit, _), x => exact ih (x := x.2) (H := H)
    | (.pair _ _, _), x => exact ih (x := x.2) (H := H)
theorem zhW : ∀ {ps : List Pm} {y : PsT ps} {H : Heap}, ∃ Δ, (putPs ps y H).2 = H ++ Δ := by
  intro ps
  induction ps with
  | nil => intro y H; exact ⟨[], by simp [putPs]⟩
  | cons p ps ih =>
    intro y H
    obtain ⟨Δ1, h1⟩ := zNX (cs := p.cs) (x := y.1) (H := H)
    obtain ⟨Δ2, h2⟩ := ih (y := y.2) (H := (putCs p.cs y.1 H).2)
    exact ⟨Δ1 ++ Δ2, by simp only [putPs]; rw [h2, h1, List.append_assoc]⟩
theorem zdu {H Δ : Heap} {β : Nat} {x : Blk} {l : List Nat} (hβ : β ∈ l) : H.length ≤ (H.set β x ++ Δ).length ∧ ∀ γ, γ < H.length → γ ∉ l → (H.set β x ++ Δ)[γ]? = H[γ]? :=
  ⟨by simp, fun γ h1 h2 => by rw [List.getElem?_append_left (by simpa using h1), List.getElem?_set_ne (fun e : β = γ => h2 (by rw [← e]; exact hβ))]⟩
theorem EntryOK.tf {P : Program} {f : Nat} {tf : TF} (hok : tf.ok = true) (h : FnSpec P f tf) (hf : ∃ fn, P.funcs[f]? = some fn ∧ fn.name ≠ "runtime.NumGoroutine" ∧ fn.body.isSome = true) : EntryOK P f tf.te where
  snd := zNS hok h
  fn := hf
  ext _ x y args H v H' hp := by
    have h2 : (putPs tf.rs y H).2 = H' := congrArg Prod.snd (Option.some.inj hp)
    rw [← h2]; exact zhW
  tch x y args H v H' _ hp := by
    have h2 : (putPs tf.rs y H).2 = H' := congrArg Prod.snd (Option.some.inj hp)
    rw [← h2]; exact ext_tch (te := tf.te) (x := x) (y := y) (v := v) zhW
theorem EntryOK.tfu {P : Program} {f : Nat} {tf : TFU} (h : FnSpecU P f tf) (hf : ∃ fn, P.funcs[f]? = some fn ∧ fn.name ≠ "runtime.NumGoroutine" ∧ fn.body.isSome = true) : EntryOK P f tf.te where
  snd := zNU h
  fn := hf
  ext hm := by simp [TFU.te] at hm
  tch x y args H v H' hv hp := by
    change tf.rf.T × PsT tf.rs at y
    simp only [TFU.te] at hp
    split at hp
    · rename_i β r
      have h2 : (putPs tf.rs y.2 (H.set β (tf.rf.blk y.1))).2 = H' := congrArg Prod.snd (Option.some.inj hp)
      obtain ⟨Δ, h3⟩ := zhW (ps := tf.rs) (y := y.2) (H := H.set β (tf.rf.blk y.1))
      rw [← h2, h3]
      exact zdu (by simp [SV.refs])
    · simp at hp
def C.loops : C → Nat
  | .seq a b => a.loops + b.loops
  | .cnd _ a b => a.loops + b.loops
  | .blk _ a => a.loops
  | .loop _ a => a.loops + 1
  | _ => 0
def C.loopAt : C → Nat → Option (Norm × C)
  | .seq a b, i => cond (Nat.blt i a.loops) (a.loopAt i) (b.loopAt (i - a.loops))
  | .cnd _ a b, i => cond (Nat.blt i a.loops) (a.loopAt i) (b.loopAt (i - a.loops))
  | .blk _ a, i => a.loopAt i
  | .loop nm a, i => match i with
    | 0 => some (nm, a)
    | i + 1 => a.loopAt i
  | _, _ => none
def C.nmAt (c : C) (i : Nat) : Norm := match c.loopAt i with | some p => p.1 | none => ⟨[], []⟩
def C.bdAt (c : C) (i : Nat) : C := match c.loopAt i with | some p => p.2 | none => .skip
def C.contAt {R : Type} (T : Tab) (n0 fuel : Nat) (G : Nat → Env → Heap → Option R) : C → Nat → Nat → (Ex → Env → Heap → Option R) → (Ex → Env → Heap → Option R)
  | .seq a b, j, i, k => cond (Nat.blt i a.loops) (a.contAt T n0 fuel G j i (seqK (run T n0 fuel b) k)) (b.contAt T n0 fuel G (j + a.loops) (i - a.loops) k)
  | .cnd _ a b, j, i, k => cond (Nat.blt i a.loops) (a.contAt T n0 fuel G j i k) (b.contAt T n0 fuel G (j + a.loops) (i - a.loops) k)
  | .blk id a, j, i, k => a.contAt T n0 fuel G j i (blkK id k)
  | .loop nm a, j, i, k => match i with
    | 0 => k
    | i + 1 => a.contAt T n0 fuel G (j + 1) i (loopK n0 nm (G j) k)
  | _, _, _, k => k
def C.lp {R V : Type} (T : Tab) (n0 fuel : Nat) (G : Nat → Env → Heap → Option R) (c : C) (k : Ex → Env → Heap → Option R) (i : Nat) (enc : V → Env × Heap) (v : V) : Option R :=
  loopN (run T n0 fuel (c.bdAt i)) n0 (c.nmAt i) fuel (enc v).1 (enc v).2 (c.contAt T n0 fuel G 0 i k)
theorem C.lp_iter {R V : Type} {T : Tab} {n0 fuel : Nat} {G : Nat → Env → Heap → Option R} {c : C} {k : Ex → Env → Heap → Option R} {i : Nat} {enc : V → Env × Heap} {step : (V → Option R) → V → Option R}
    (h : ∀ (g : Env → Heap → Option R) (v : V), run T n0 fuel (c.bdAt i) (enc v).1 (enc v).2 (loopK n0 (c.nmAt i) g (c.contAt T n0 fuel G 0 i k)) = step (fun v => g (enc v).1 (enc v).2) v) :
    c.lp T n0 fuel G k i enc = iter step fuel := zNV h fuel
end Go.Proofs.YtdgdoeknpakmlaaGreat.Den
namespace Go.Proofs.YtdgdoeknpakmlaaGreat.Den
open Go Go.RowKit
structure TFS where
  e : Kd
  ag : Bool
  cs : List (Kd × Bool)
  ps : List Pm
  rs : List Pm
  al : Bool
  fn : List e.T × CsT cs × PsT ps → Option (List e.T × PsT rs)
def firstV (ag : Bool) (β : Nat) (ss : List SV) : SV := match ag with
  | true => .agg (.own β :: ss)
  | false => .own β
def firstU (ag : Bool) (u : Value) (us : List Value) : Value := match ag with
  | true => .agg (u :: us).toArray
  | false => u
def firstOf (ag : Bool) (s : SV) : Option (Nat × List SV) := match ag with
  | true => match s with
    | .agg (.own β :: ss) => some (β, ss)
    | _ => none
  | false => match s with
    | .own β => some (β, [])
    | _ => none
def Img.has (m : Img) (b : Nat) : Prop := ∃ o n sz, m = .at b o n sz
def SlIn (w : World) (B : Nat → Prop) (res : Nat → Prop) (e : Kd) (c : List e.T) (u : Value) (m : Img) : Prop :=
  (m = .none_ ∧ c = [] ∧ ∃ a, u = .slice a 0 0) ∨
  ∃ b o cp, m = .at b o c.length e.sz ∧ c.length ≤ cp ∧ u = .slice (some ⟨b, o, none⟩) c.length cp ∧ Room w b (o + cp * e.sz) ∧ ¬ res b ∧ RefAt w B (.arr e 0) c b o
def SlOut (w : World) (B : Nat → Prop) (e : Kd) (c' c : List e.T) (m : Img) : Prop :=
  (m = .none_ ∧ c' = []) ∨ ∃ b o n sz, m = .at b o n sz ∧ RefAt w B (.arr e 0) c' b o ∧ c'.length = c.length
def OwnV (w : World) (m : Img) (u : Value) : Prop := match m with
  | .none_ => ∃ a, u = .slice a 0 0
  | .at b o n sz => ∃ c, n ≤ c ∧ u = .slice (some ⟨b, o, none⟩) n c ∧ Room w b (o + c * sz)
  | _ => False
def TFS.te (tf : TFS) : TE where
  X := List tf.e.T × CsT tf.cs × PsT tf.ps
  Y := List tf.e.T × PsT tf.rs
  mono := false
  view args H := match args with
    | a :: r => match firstOf tf.ag a with
      | some (β, ss) => match Rf.view [] (.arr tf.e 0) H[β]?, viewCs [] tf.cs ss, viewPs [] tf.ps r with
        | some c, some d, some x => some (c, d, x)
        | _, _, _ => none
      | none => none
    | _ => none
  fn := tf.fn
  put _ y args H := match args with
    | a :: _ => match firstOf tf.ag a with
      | some (β, _) => match tf.al with
        | true => some (.own β, H.set β (.arr tf.e y.1 0))
        | false => some (resV (putPs tf.rs y.2 (H.set β (.arr tf.e y.1 0))).1, (putPs tf.rs y.2 (H.set β (.arr tf.e y.1 0))).2)
      | none => none
    | _ => none
def FnSpecS (P : Program) (f : FuncId) (tf : TFS) : Prop :=
  ∀ (w : World) (res : Nat → Prop) (u0 : Value) (us2 vs : List Value) (m : Img) (c c' : List tf.e.T) (d : CsT tf.cs) (x : PsT tf.ps) (y : PsT tf.rs), (∀ b, res b → b < w.heap.size) →
    SlIn w (fun b' => b' < w.heap.size ∧ ¬ res b' ∧ ¬ m.has b') res tf.e c u0 m →
    CsRel w (fun b' => b' < w.heap.size ∧ ¬ res b' ∧ ¬ m.has b') tf.cs d us2 →
    PsRel w (fun b' => b' < w.heap.size ∧ ¬ res b' ∧ ¬ m.has b') tf.ps x vs → tf.fn (c, d, x) = some (c', y) →
    Calls P f (firstU tf.ag u0 us2 :: vs).toArray w fun e w' => ∃ us tk, e = .returned (resU us) ∧ w'.os = w.os ∧ w'.tape = w.tape ∧ w'.output = w.output ∧ w.heap.size ≤ w'.heap.size ∧ (∀ b', b' < w.heap.size → ¬ m.has b' → w'.heap[b']? = w.heap[b']?) ∧
      (∀ (b : Nat) C t fr, w.heap[b]? = some (.cells C t fr) → ∃ C', w'.heap[b]? = some (.cells C' t fr) ∧ C'.size = C.size) ∧
      tk.Nodup ∧ (∀ b ∈ tk, w.heap.size ≤ b ∧ b < w'.heap.size) ∧ (match tf.al with
        | true => tk = [] ∧ ∃ u, us = #[u] ∧ OwnV w' m u
        | false => PsOut w' (fun b' => b' < w'.heap.size ∧ ¬ res b' ∧ ¬ m.has b' ∧ b' ∉ tk) tf.rs y us.toList tk) ∧
      SlOut w' (fun b' => b' < w'.heap.size ∧ ¬ res b' ∧ ¬ m.has b' ∧ b' ∉ tk) tf.e c' c m
def endS (rv : List (Nat × Option (Nat × Bool))) (e : Kd) (al : Bool) (rs : List Pm) (ex : Ex) (τ : Env) (H : Heap) : Option (List e.T × PsT rs) :=
  match ex with
  | .exit _ => none
  | _ => match evalRes τ H rv with
    | some ss => match al with
      | true => match ss with
        | [.own 0] => match Rf.view (H.set 0 .dead) (.arr e 0) H[0]?, viewPs (H.set 0 .dead) rs [] with
          | some c, some y => some (c, y)
          | _, _ => none
        | _ => none
      | false => match takePs rs ss H with
        | some (ls, H2) => match Rf.view (H2.set 0 .dead) (.arr e 0) H2[0]?, viewPs (H2.set 0 .dead) rs ls with
          | some c, some y => some (c, y)
          | _, _ => none
        | none => none
    | none => none
section
variable {P : Program} {w : World} {ρ ρ' : Map} {H H' : Heap}
theorem SlIn.ownV {B res : Nat → Prop} {e : Kd} {c : List e.T} {u : Value} {m : Img} (h : SlIn w B res e c u m) : OwnV w m u := by
  rcases h with ⟨rfl, _, h⟩ | ⟨b, o, cp, rfl, h1, h2, h3, _⟩
  · exact h
  · exact ⟨cp, h1, h2, h3⟩
theorem OwnV.vrel {m : Img} {u : Value} {β : Nat} (h : OwnV w m u) (e : ρ β = m) : VRel ρ w (.own β) u := by
  simp only [VRel, e]
  cases m with
  | none_ => exact h
  | «at» b o n sz => exact h
  | unborn => exact h
  | dead => exact absurd h (by simp [OwnV])
theorem zCj {m : Img} {u : Value} {β : Nat} (h : VRel ρ w (.own β) u) (e : ρ β = m) (hd : m ≠ .dead) : OwnV w m u := by
  simp only [VRel, e] at h
  cases m with
  | none_ => exact h
  | «at» b o n sz => exact h
  | unborn => exact h
  | dead => exact absurd rfl hd
theorem zq6 {H2 : Heap} {e : Kd} {c : List e.T} {β : Nat} (hH : HRel ρ H w) (hr : ρ β = .none_) (h : Rf.view H2 (.arr e 0) H[β]? = some c) : c = [] := by
  obtain ⟨y, hy, hd⟩ := Rf.view_some h
  simp only [Rf.view] at h
  split at h
  · rename_i K' xs t' e'
    split at h
    · rename_i hk
      subst hk
      simp only [Option.some.injEq] at h; subst h
      exact za2 hH e' hr
    · simp at h
  · simp at h
theorem zl7 {T : Tab} {f : FuncId} {fn : Func} {c : Code} {tf : TFS} {frz : List Nat} {ann : List Norm} {cuts : List (Nat × Norm)} {ci : C} {j fuel : Nat} {rv : List (Nat × Option (Nat × Bool))} (hT : TabOK P T) (hmix : P.follows .mixedOrders = true)
    (hf : P.funcs[f]? = some fn) (hb : fn.body = some c) (hl : lightC P frz fn.ntmps ann cuts 0 c = some (ci, j)) (ho : okC T c ci = true) (hn : tf.ps.length + 1 ≤ fn.ntmps) (hrv : lightRes P fn.results.toList = some rv)
    (hrun : ∀ c d x, run T 1 fuel ci ((0, firstV tf.ag 0 (svCs tf.cs d)) :: env0 (svPs tf.ps x) 1) [.arr tf.e c 0] (endS rv tf.e tf.al tf.rs) = tf.fn (c, d, x)) : FnSpecS P f tf := by
  intro w res u0 us2 vs m cc cc' d x y hres hsl hcd hps hy
  refine calls_of_wp hf hb ?_
  let ρ0 : Map := ⟨fun β => if β = 0 then m else .unborn, res, fun _ => none⟩
  have hm0 : ρ0 0 = m := by simp [ρ0]
  have hi0 : ∀ {β b' o' n' sz'}, ρ0 β = .at b' o' n' sz' → β = 0 ∧ m = .at b' o' n' sz' := by
    intro β b' o' n' sz' h
    simp only [ρ0] at h
    split at h
    · rename_i e; exact ⟨e, h⟩
    · cases h
  have hmb : ∀ {b o n sz}, m = .at b o n sz → b < w.heap.size ∧ ¬ res b ∧ n = cc.length ∧ sz = tf.e.sz ∧ RefAt w (fun b' => b' < w.heap.size ∧ ¬ res b' ∧ ¬ m.has b') (.arr tf.e 0) cc b o := by
    intro b o n sz e
    rcases hsl with ⟨h1, _⟩ | ⟨b1, o1, cp, h1, _, _, _, h2, h3⟩
    · rw [e] at h1; cases h1
    · have h1' := h1
      rw [e] at h1; injection h1 with e1 e2 e3 e4
      subst e1; subst e2
      exact ⟨h3.lt, h2, e3, e4, h3⟩
  have hmd : m ≠ .dead ∧ m ≠ .unborn := by
    rcases hsl with ⟨h1, _⟩ | ⟨b1, o1, cp, h1, _⟩ <;> rw [h1] <;> simp
  have hfree0 : ∀ b', (b' < w.heap.size ∧ ¬ res b' ∧ ¬ m.has b') → Free ρ0 w b' := fun b' hb => ⟨hb.1, fun h => hb.2.1 (res_new.1 h), fun β o' n' sz' h => hb.2.2 ⟨_, _, _, (hi0 h).2⟩⟩
  have hv : VRels ρ0 w (firstV tf.ag 0 (svCs tf.cs d) :: svPs tf.ps x) (firstU tf.ag u0 us2 :: vs) := by
    simp only [VRels]
    refine ⟨_, vs, rfl, ?_, zl4 hfree0 hps⟩
    have ho := hsl.ownV.vrel hm0
    cases hag : tf.ag with
    | true =>
      simp only [firstV, firstU, VRel, VRels]
      exact ⟨_, rfl, u0, us2, by simp, ho, zds hfree0 hcd⟩
    | false =>
      simp only [firstV, firstU]
      exact ho
  have hpl : ∀ {ps : List Pm} {x : PsT ps}, (svPs ps x).length = ps.length := by
    intro ps
    induction ps with
    | nil => intro x; rfl
    | cons p r ih => intro x; simp [svPs, ih]
  have hvl := hv.length
  rw [List.length_cons, hpl] at hvl
  have hat : At P fn.ntmps ρ0 [.arr tf.e cc 0] w ((0, firstV tf.ag 0 (svCs tf.cs d)) :: env0 (svPs tf.ps x) 1) { tmps := (firstU tf.ag u0 us2 :: vs).toArray ++ Array.replicate (fn.ntmps - (firstU tf.ag u0 us2 :: vs).toArray.size) undef, defers := [] } := by
    refine ⟨⟨by simp at hvl ⊢; omega, rfl, fun n => ?_⟩, ?_, fun β hβ => ?_⟩
    · have e : ((0, firstV tf.ag 0 (svCs tf.cs d)) :: env0 (svPs tf.ps x) 1) = env0 (firstV tf.ag 0 (svCs tf.cs d) :: svPs tf.ps x) 0 := rfl
      rw [e, zaF]
      simp only [Nat.zero_le, if_true, Nat.sub_zero]
      split
      · rename_i s hs
        obtain ⟨u, h1, h2⟩ := hv.get n s hs
        have : ((firstU tf.ag u0 us2 :: vs).toArray ++ Array.replicate (fn.ntmps - (firstU tf.ag u0 us2 :: vs).toArray.size) undef).getD n undef = u := by
          rw [Array.getD_eq_getD_getElem?, Array.getElem?_append_left (by have := (List.getElem?_eq_some_iff.1 h1).1; simpa using this), List.getElem?_toArray, h1]
          rfl
        rw [this]; exact h2
      · simp [VRel]
    · refine ⟨fun β hl h => ?_, fun β hl h => ?_, fun β hl b' o' n' sz' h => ?_, fun β γ b' o1 n1 s1 o2 n2 s2 h1 h2 => by rw [(hi0 h1).1, (hi0 h2).1], fun β b' o' n' sz' h => (hmb (hi0 h).2).1, fun b hb => hres b (res_new.1 hb), fun β b' o' n' sz' h hr => (hmb (hi0 h).2).2.1 (res_new.1 hr)⟩
      · simp at hl; subst hl; rw [hm0] at h; exact absurd h hmd.1
      · simp at hl; subst hl; rw [hm0] at h
        rcases hsl with ⟨_, h1, _⟩ | ⟨b1, o1, cp, h1, _⟩
        · subst h1; exact .inl ⟨_, _, rfl⟩
        · rw [h1] at h; cases h
      · obtain ⟨rfl, hm⟩ := hi0 h
        obtain ⟨_, _, h3, h4, h5⟩ := hmb hm
        exact ⟨_, rfl, h5.brel (rf := .arr tf.e 0) hfree0 h4.symm (by simp only [Rf.len]; rw [h3]) fun _ _ _ => h3.symm⟩
    · simp at hβ
      simp only [ρ0]; rw [if_neg (by omega)]
  have hrun' := hrun cc d x
  rw [hy] at hrun'
  refine zaD hT hmix c hl ho hat hrun' fun ex τ' H' ρ' a' w' h1 h2 h3 => ?_
  have hend : ∃ ss us ls H2 ρ2 tk, evalRes τ' H' rv = some ss ∧ (results fn a'.tmps).run P w' = .ok (resU us) w' ∧ Gave ρ' H' w' ρ2 H2 tk ∧
      Rf.view (H2.set 0 .dead) (.arr tf.e 0) H2[0]? = some cc' ∧ viewPs (H2.set 0 .dead) tf.rs ls = some y ∧ (ex = .normal ∨ ex = .ret) ∧ (match tf.al with
        | true => tk = [] ∧ ρ2 = ρ' ∧ ∃ u, us = #[u] ∧ VRel ρ' w' (.own 0) u
        | false => TkPs ρ2 w' tf.rs ls us.toList tk) := by
    unfold endS at h3
    split at h3
    · simp at h3
    · rename_i hex
      have hex' : ex = .normal ∨ ex = .ret := by
        cases ex with
        | normal => exact .inl rfl
        | ret => exact .inr rfl
        | exit id => exact absurd rfl (hex id)
      split at h3
      · rename_i ss h4
        obtain ⟨us, h8, h9⟩ := zaE h1.t h1.h hrv h4
        split at h3
        · rename_i hal
          split at h3
          · split at h3
            · rename_i c1 y1 h6 h7
              simp only [Option.some.injEq, Prod.mk.injEq] at h3
              obtain ⟨rfl, rfl⟩ := h3
              refine ⟨_, us, [], H', ρ', [], h4, h8, Gave.refl h1.h h1.u, h6, h7, hex', ?_⟩
              simp only [VRels] at h9
              obtain ⟨u, us', e, h10, h11⟩ := h9
              subst h11
              exact ⟨rfl, rfl, u, Array.toList_inj.1 (by simpa using e), h10⟩
            · simp at h3
          · simp at h3
        · rename_i hal
          split at h3
          · rename_i ls H2 h5
            split at h3
            · rename_i c1 y1 h6 h7
              simp only [Option.some.injEq, Prod.mk.injEq] at h3
              obtain ⟨rfl, rfl⟩ := h3
              obtain ⟨ρ2, tk, g, h10⟩ := zhU h1.h h1.u h9 h5
              exact ⟨ss, us, ls, H2, ρ2, tk, h4, h8, g, h6, h7, hex', h10⟩
            · simp at h3
          · simp at h3
      · simp at h3
  obtain ⟨ss, us, ls, H2, ρ2, tk, h4, h8, g, h6, h7, hex, hal⟩ := hend
  obtain ⟨y0, hy0, hnd⟩ := Rf.view_some h6
  have hl0 : 0 < H2.length := (List.getElem?_eq_some_iff.1 hy0).1
  have hr2 : ρ2 0 = m ∧ ρ' 0 = m := by
    have nd : ρ2 0 ≠ .dead := fun h => by
      have := g.h.dead 0 hl0 h
      rw [hy0] at this; cases this; exact hnd rfl
    rcases h2.ref 0 (by omega) (by rw [hm0]; exact hmd.2) with e | e
    · rcases g.st.ref 0 (by rw [e, hm0]; exact hmd.2) with e2 | e2
      · exact ⟨by rw [e2, e, hm0], by rw [e, hm0]⟩
      · exact absurd e2 nd
    · rcases g.st.ref 0 (by rw [e]; simp) with e2 | e2
      · rw [e] at e2; exact absurd e2 nd
      · exact absurd e2 nd
  have hr0 : ∀ b, res b → ρ'.res b := fun b hb => .inl (by rw [h2.res]; exact hb)
  obtain ⟨ρ3, g3h, g3st, g3v, hB3⟩ : ∃ ρ3 : Map, HRel ρ3 (H2.set 0 .dead) w' ∧ StepF ρ2 w' ρ3 w' ∧ ρ3.vl = ρ2.vl ∧ ∀ b', (Free ρ3 w' b' ∨ (∃ β o n sz, ρ3 β = .at b' o n sz) ∨ ρ2.vl b' ≠ none) → b' < w'.heap.size ∧ ¬ res b' ∧ ¬ m.has b' ∧ b' ∉ tk := by
    rcases hsl with ⟨hm, _⟩ | ⟨b, o, cp, hm, _, _, _, _, _⟩
    · refine ⟨ρ2.kill [0], g.h.kill [0], zq5, rfl, fun b' hb => ?_⟩
      have old : b' < w'.heap.size → ¬ ρ2.res b' → b' < w'.heap.size ∧ ¬ res b' ∧ ¬ m.has b' ∧ b' ∉ tk := fun h3 h4 => ⟨h3, fun h => h4 (g.res b' (hr0 b' h)), fun ⟨_, _, _, h⟩ => by (rw [hm] at h; cases h), fun h => h4 (g.tks b' h).1⟩
      rcases hb with hb | ⟨β, o, n, sz, hb⟩ | hb
      · exact old hb.1 hb.2.1
      · exact old ((g.h.kill [0]).lt _ _ _ _ _ hb) ((g.h.kill [0]).resf _ _ _ _ _ hb)
      · have hv2 : ρ'.vl b' ≠ none := by rw [← g.vl]; exact hb
        refine ⟨g.h.resl b' (.inr hb), fun h => hv2 (h2.vl b' (hres b' h)), fun ⟨_, _, _, h⟩ => by (rw [hm] at h; cases h), fun h => ?_⟩
        obtain ⟨_, β, o, n, sz, h12⟩ := g.tks b' h
        exact h1.h.resf _ _ _ _ _ h12 (.inr hv2)
    · have hr2' := hr2.1
      rw [hm] at hr2'
      have g3 := Gave.of_take g.h g.u hl0 hr2'
      refine ⟨_, g3.h, g3.st, rfl, fun b' hb => ?_⟩
      have old : b' < w'.heap.size → ¬ (ρ2.take 0 b).res b' → b' < w'.heap.size ∧ ¬ res b' ∧ ¬ m.has b' ∧ b' ∉ tk := fun h3 h4 =>
        ⟨h3, fun h => h4 (zn.2 (.inl (g.res b' (hr0 b' h)))), fun ⟨_, _, _, h⟩ => h4 (zn.2 (.inr (by rw [hm] at h; injection h with e; exact e.symm))), fun h => h4 (zn.2 (.inl (g.tks b' h).1))⟩
      rcases hb with hb | ⟨β, o, n, sz, hb⟩ | hb
      · exact old hb.1 hb.2.1
      · exact old (g3.h.lt _ _ _ _ _ hb) (g3.h.resf _ _ _ _ _ hb)
      · have hv2 : ρ'.vl b' ≠ none := by rw [← g.vl]; exact hb
        refine ⟨g.h.resl b' (.inr hb), fun h => hv2 (h2.vl b' (hres b' h)), fun ⟨_, _, _, h⟩ => ?_, fun h => ?_⟩
        · rw [hm] at h; injection h with e; subst e
          exact g.h.resf _ _ _ _ _ hr2' (.inr hb)
        · obtain ⟨_, β, o, n, sz, h12⟩ := g.tks b' h
          exact h1.h.resf _ _ _ _ _ h12 (.inr hv2)
  have hd : ∀ {K : Kd} {s : SV} {x : K.T} {u : Value}, decH true (H2.set 0 .dead) K [s] = some x → VRel ρ2 w' s u → CRel w' (fun b' => Free ρ3 w' b' ∨ (∃ β o n sz, ρ3 β = .at b' o n sz) ∨ ρ2.vl b' ≠ none) K x [u] := fun h11 h12 =>
    zh g3h (fun b hb => .inl hb) (fun _ b t hv => .inr (.inr (by rw [← g3v, hv]; simp))) (fun γ b o n sz _ hg => .inr (.inl ⟨γ, o, n, sz, hg⟩)) h11 (VRels.single (h12.stepF g3st))
  have hfr : ∀ b, Free ρ2 w' b → Free ρ3 w' b := g3st.free
  have hslo : SlOut w' (fun b' => b' < w'.heap.size ∧ ¬ res b' ∧ ¬ m.has b' ∧ b' ∉ tk) tf.e cc' cc m := by
    rcases hsl with ⟨hm, _⟩ | ⟨b, o, cp, hm, _⟩
    · exact .inl ⟨hm, zq6 g.h (by rw [hr2.1, hm]) h6⟩
    · have hr2' := hr2.1
      rw [hm] at hr2'
      obtain ⟨k1, _, _, k4, _⟩ := RefAt.of_view (ρ := ρ2) hd (fun b hb => .inl (hfr b hb)) g.h hr2' h6
      exact .inr ⟨b, o, _, _, hm, k1.mono hB3, k4 _ _ rfl⟩
  have hpost : a'.defers = [] ∧ ∃ v, (results fn a'.tmps).run P w' = .ok v w' ∧ (fun e w' => ∃ us tk, e = Ending.returned (resU us) ∧ w'.os = w.os ∧ w'.tape = w.tape ∧ w'.output = w.output ∧ w.heap.size ≤ w'.heap.size ∧ (∀ b', b' < w.heap.size → ¬ m.has b' → w'.heap[b']? = w.heap[b']?) ∧
      (∀ (b : Nat) C t fr, w.heap[b]? = some (.cells C t fr) → ∃ C', w'.heap[b]? = some (.cells C' t fr) ∧ C'.size = C.size) ∧
      tk.Nodup ∧ (∀ b ∈ tk, w.heap.size ≤ b ∧ b < w'.heap.size) ∧ (match tf.al with
        | true => tk = [] ∧ ∃ u, us = #[u] ∧ OwnV w' m u
        | false => PsOut w' (fun b' => b' < w'.heap.size ∧ ¬ res b' ∧ ¬ m.has b' ∧ b' ∉ tk) tf.rs y us.toList tk) ∧
      SlOut w' (fun b' => b' < w'.heap.size ∧ ¬ res b' ∧ ¬ m.has b' ∧ b' ∉ tk) tf.e cc' cc m) (Ending.returned v) w' := by
    refine ⟨h1.t.2.1, resU us, h8, us, tk, rfl, h2.os, h2.tape, h2.output, h2.size, fun b' hb hne => h2.kept b' hb (fun β o n sz h => hne ⟨_, _, _, (hi0 h).2⟩) rfl, h2.shape, g.nd, fun b' hb => ?_, ?_, hslo⟩
    · obtain ⟨hrs, β, o', n', sz', hg⟩ := g.tks b' hb
      refine ⟨?_, h1.h.lt _ _ _ _ _ hg⟩
      rcases h2.img β b' o' n' sz' hg with ⟨γ, _, _, _, h⟩ | h
      · exfalso
        have hm := (hi0 h).2
        have hr2' := hr2.1
        rw [hm] at hr2'
        exact g.h.resf _ _ _ _ _ hr2' hrs
      · exact h
    · cases hal' : tf.al with
      | true =>
        rw [hal'] at hal
        obtain ⟨e1, _, u, e2, h9⟩ := hal
        exact ⟨e1, u, e2, zCj h9 hr2.2 hmd.1⟩
      | false =>
        rw [hal'] at hal
        exact PsOut.mono (.inl hB3) (zhV (ρ := ρ2) (fun b hb => .inl (hfr b hb)) hd h7 hal)
  rcases hex with rfl | rfl
  · exact hpost
  · exact hpost
end
end Go.Proofs.YtdgdoeknpakmlaaGreat.Den
namespace Go.Proofs.YtdgdoeknpakmlaaGreat.Den
open Go Go.RowKit
section
variable {w : World} {ρ : Map} {H : Heap}
theorem zl8 {ag : Bool} {a : SV} {β : Nat} {ss : List SV} (h : firstOf ag a = some (β, ss)) : a = firstV ag β ss ∧ (ag = false → ss = []) := by
  unfold firstOf at h
  split at h
  · split at h
    · simp only [Option.some.injEq, Prod.mk.injEq] at h
      obtain ⟨rfl, rfl⟩ := h
      exact ⟨rfl, fun h => by cases h⟩
    · simp at h
  · split at h
    · simp only [Option.some.injEq, Prod.mk.injEq] at h
      obtain ⟨rfl, rfl⟩ := h
      exact ⟨rfl, fun _ => rfl⟩
    · simp at h
theorem HRel.sliceIn (hH : HRel ρ H w) {β : Nat} {e : Kd} {c : List e.T} {u : Value} (hc : Rf.view [] (.arr e 0) H[β]? = some c) (hv : VRel ρ w (.own β) u) {res : Nat → Prop} (hres : ∀ b' o n sz, ρ β = .at b' o n sz → ¬ res b')
    (hfB : ∀ b', Free ρ w b' → b' < w.heap.size ∧ ¬ res b' ∧ ¬ (ρ β).has b') : SlIn w (fun b' => b' < w.heap.size ∧ ¬ res b' ∧ ¬ (ρ β).has b') res e c u (ρ β) := by
  obtain ⟨y0, hy0, hnd0⟩ := Rf.view_some hc
  rcases own_rel hH hy0 hnd0 hv with ⟨hr, h1⟩ | ⟨b, o, n, sz, cp, hr, h1, h2, h3⟩
  · exact .inl ⟨hr, zq6 hH hr hc, h1⟩
  · have hd : ∀ {K : Kd} {s : SV} {x : K.T} {u : Value}, decH true [] K [s] = some x → VRel ρ w s u → CRel w (fun b' => b' < w.heap.size ∧ ¬ res b' ∧ ¬ (ρ β).has b') K x [u] := fun h1 h2 =>
      CRel.mono hfB (fun _ _ => rfl) (zg h1 (VRels.single h2))
    obtain ⟨href, hsz, _, harr, _⟩ := RefAt.of_view hd hfB hH hr hc
    have hn : c.length = n := harr _ _ rfl
    have hs : e.sz = sz := hsz
    subst hn; subst hs
    exact .inr ⟨b, o, cp, hr, h1, h2, h3, hres _ _ _ _ hr, href⟩
theorem zNY {P : Program} {f : FuncId} {tf : TFS} (h : FnSpecS P f tf) : TESound P f tf.te := by
  intro ρ H w args vs x y v H' hH hv hun hview hfn hput
  change List tf.e.T × CsT tf.cs × PsT tf.ps at x
  change List tf.e.T × PsT tf.rs at y
  obtain ⟨a, r, β, ss, c, d, xx, rfl, hfo, hc, hdd, hxx, rfl⟩ : ∃ a r β ss c d xx, args = a :: r ∧ firstOf tf.ag a = some (β, ss) ∧ Rf.view [] (.arr tf.e 0) H[β]? = some c ∧ viewCs [] tf.cs ss = some d ∧ viewPs [] tf.ps r = some xx ∧ x = (c, d, xx) := by
    change (match (generalizing := false) args with
      | a :: r => (match firstOf tf.ag a with
        | some (β, ss) => (match Rf.view [] (.arr tf.e 0) H[β]?, viewCs [] tf.cs ss, viewPs [] tf.ps r with
          | some c, some d, some x => some (c, d, x)
          | _, _, _ => none)
        | none => none)
      | _ => none) = some x at hview
    split at hview
    · rename_i a r
      split at hview
      · rename_i β ss hfo
        split at hview
        · rename_i c d xx h1 h2 h3
          simp only [Option.some.injEq] at hview
          exact ⟨a, r, β, ss, c, d, xx, rfl, hfo, h1, h2, h3, hview.symm⟩
        · simp at hview
      · simp at hview
    · simp at hview
  obtain ⟨c', yy⟩ := y
  obtain ⟨hfa, hss⟩ := zl8 hfo
  have hput' : (tf.al = true → v = .own β ∧ H' = H.set β (.arr tf.e c' 0)) ∧ (tf.al = false → v = resV (putPs tf.rs yy (H.set β (.arr tf.e c' 0))).1 ∧ H' = (putPs tf.rs yy (H.set β (.arr tf.e c' 0))).2) := by
    simp only [TFS.te, hfo] at hput
    constructor
    · intro e
      rw [e] at hput
      simp only [Option.some.injEq, Prod.mk.injEq] at hput
      exact ⟨hput.1.symm, hput.2.symm⟩
    · intro e
      rw [e] at hput
      simp only [Option.some.injEq, Prod.mk.injEq] at hput
      exact ⟨hput.1.symm, hput.2.symm⟩
  clear hput
  simp only [VRels] at hv
  obtain ⟨v0, vs', rfl, hv0, hv'⟩ := hv
  obtain ⟨y0, hy0, hnd0⟩ := Rf.view_some hc
  obtain ⟨u0, us2, rfl, hu0, hus2⟩ : ∃ u0 us2, v0 = firstU tf.ag u0 us2 ∧ VRel ρ w (.own β) u0 ∧ VRels ρ w ss us2 := by
    subst hfa
    cases hag : tf.ag with
    | true =>
      rw [hag] at hv0
      simp only [firstV, VRel, VRels] at hv0
      obtain ⟨us, rfl, u0, us2, e, h1, h2⟩ := hv0
      refine ⟨u0, us2, ?_, by simp only [VRel]; exact h1, h2⟩
      simp only [firstU]
      rw [← e]
    | false =>
      rw [hag] at hv0
      simp only [firstV] at hv0
      rw [hss hag]
      exact ⟨v0, [], by simp [firstU], hv0, by simp [VRels]⟩
  let m := ρ β
  have hm : ρ β = m := rfl
  let res : Nat → Prop := fun b' => ρ.res b' ∨ (¬ m.has b' ∧ ∃ β o n sz, ρ β = .at b' o n sz)
  have hres : ∀ b, res b → b < w.heap.size := by
    rintro b (hb | ⟨_, β, o, n, sz, hb⟩)
    · exact hH.resl b hb
    · exact hH.lt _ _ _ _ _ hb
  have hrb : ∀ b o n sz, ρ β = .at b o n sz → ¬ res b := by
    rintro b o n sz hr (hb | ⟨hb, _⟩)
    · exact hH.resf _ _ _ _ _ hr hb
    · exact hb ⟨_, _, _, hr⟩
  have hfB : ∀ b', Free ρ w b' → b' < w.heap.size ∧ ¬ res b' ∧ ¬ m.has b' := fun b' hb => ⟨hb.1, fun h3 => by
    rcases h3 with h3 | ⟨_, β, o, n, sz, h3⟩
    · exact hb.2.1 h3
    · exact hb.2.2 _ _ _ _ h3, fun ⟨_, _, _, e⟩ => hb.2.2 _ _ _ _ (hm.trans e)⟩
  have hd : ∀ {K : Kd} {s : SV} {x : K.T} {u : Value}, decH true [] K [s] = some x → VRel ρ w s u → CRel w (fun b' => b' < w.heap.size ∧ ¬ res b' ∧ ¬ m.has b') K x [u] := fun h1 h2 =>
    CRel.mono hfB (fun _ _ => rfl) (zg h1 (VRels.single h2))
  have hsl := HRel.sliceIn hH hc hu0 hrb hfB
  have hβl : β < H.length := (List.getElem?_eq_some_iff.1 hy0).1
  refine Calls.mono (h w res u0 us2 vs' m c c' d xx yy hres hsl (CsRel.of_view hd hdd hus2) (PsRel.of_view hd hxx hv') hfn) fun e w' he => ?_
  obtain ⟨us, tk, rfl, hos, htape, hout, hsize, hkept, hshape, hnd, htk, hps', hso⟩ := he
  obtain ⟨bs, ms, hent, hH', hvr⟩ : ∃ bs ms, Ent w' (fun b' => b' < w'.heap.size ∧ ¬ res b' ∧ ¬ m.has b' ∧ b' ∉ tk) bs ms tk ∧ H' = H.set β (.arr tf.e c' 0) ++ bs ∧
      ∀ ρ' : Map, Agree ρ' H.length ms → (∀ γ, γ < H.length → ρ' γ = ρ γ) → (∀ b', (b' < w'.heap.size ∧ ¬ res b' ∧ ¬ m.has b' ∧ b' ∉ tk) → Free ρ' w' b') → VRel ρ' w' v (resU us) := by
    cases hal : tf.al with
    | true =>
      rw [hal] at hps'
      obtain ⟨rfl, u, rfl, hou⟩ := hps'
      obtain ⟨rfl, rfl⟩ := hput'.1 hal
      refine ⟨[], [], rfl, by simp, fun ρ' _ h2 _ => ?_⟩
      have e : resU #[u] = u := by simp [resU]
      rw [e]
      exact hou.vrel (h2 β hβl)
    | false =>
      rw [hal] at hps'
      obtain ⟨rfl, rfl⟩ := hput'.2 hal
      obtain ⟨bs, ms, hent, hputs⟩ := zhT hps'
      obtain ⟨h1, h2⟩ := hputs (H.set β (.arr tf.e c' 0))
      exact ⟨bs, ms, hent, h1, fun ρ' h3 _ h5 => zdt (h2 ρ' (by simpa using h3) h5)⟩
  clear hput' hps'
  have hl1 : (H.set β (.arr tf.e c' 0)).length = H.length := by simp
  have hml := hent.length
  have hlt' : ∀ {β}, β < H.length → (ρ.add H.length ms) β = ρ β := fun h => by simp [Map.add, h]
  have hge : ∀ {i}, i < ms.length → ∃ m, ms[i]? = some m ∧ (ρ.add H.length ms) (H.length + i) = m := fun {i} h => by
    refine ⟨ms[i], List.getElem?_eq_getElem h, ?_⟩
    simp only [Map.add]; rw [if_neg (by omega), Nat.add_sub_cancel_left, List.getElem?_eq_getElem h]
  have hgt : ∀ {β}, H.length + ms.length ≤ β → (ρ.add H.length ms) β = ρ β := fun {β} h => by
    simp only [Map.add]; rw [if_neg (by omega), List.getElem?_eq_none (by omega)]
  have cases3 : ∀ β, (β < H.length ∧ (ρ.add H.length ms) β = ρ β) ∨ (H.length + ms.length ≤ β ∧ (ρ.add H.length ms) β = ρ β) ∨ ∃ i m, β = H.length + i ∧ ms[i]? = some m ∧ (ρ.add H.length ms) β = m := by
    intro β
    rcases Nat.lt_or_ge β H.length with h1 | h1
    · exact .inl ⟨h1, hlt' h1⟩
    · rcases Nat.lt_or_ge β (H.length + ms.length) with h2 | h2
      · obtain ⟨m, h3, h4⟩ := hge (i := β - H.length) (by omega)
        rw [show H.length + (β - H.length) = β by omega] at h4
        exact .inr (.inr ⟨β - H.length, m, by omega, h3, h4⟩)
      · exact .inr (.inl ⟨h2, hgt h2⟩)
  have htkn : ∀ {i : Nat} {b o n sz : Nat}, ms[i]? = some (.at b o n sz) → b ∈ tk := fun hm => by
    obtain ⟨_, t, _, h6, h7⟩ := hent.get _ _ hm
    exact h7 _ h6.at_
  have hub : ∀ β, H.length ≤ β → β < H.length + ms.length → ρ β = .unborn := fun β h1 h2 => hun β h1 (by rw [hH']; simp; omega)
  have hsb : ∀ {β b o n sz}, ρ β = .at b o n sz → b < w.heap.size := fun h => hH.lt _ _ _ _ _ h
  have hstep : Step ρ w (ρ.add H.length ms) w' := {
    os := hos, tape := htape, output := hout, size := hsize
    kept := fun b' hb hn _ => hkept b' hb (fun ⟨_, _, _, e⟩ => hn _ _ _ _ (hm.trans e))
    shape := hshape
    img := fun β b o n sz hb => by
      rcases cases3 β with ⟨_, h2⟩ | ⟨_, h2⟩ | ⟨i, m, _, h3, h4⟩
      · rw [h2] at hb; exact .inl ⟨β, o, n, sz, hb⟩
      · rw [h2] at hb; exact .inl ⟨β, o, n, sz, hb⟩
      · rw [h4] at hb; subst hb
        exact .inr (htk b (htkn h3)).1
    ref := fun β hb => by
      rcases cases3 β with ⟨_, h2⟩ | ⟨_, h2⟩ | ⟨i, m, h2, h3, _⟩
      · exact .inl h2
      · exact .inl h2
      · exact absurd (hub β (by omega) (by have := (List.getElem?_eq_some_iff.1 h3).1; omega)) hb
    res := rfl
    vl := fun _ _ => rfl }
  have hfree : ∀ b', (b' < w'.heap.size ∧ ¬ res b' ∧ ¬ m.has b' ∧ b' ∉ tk) → Free (ρ.add H.length ms) w' b' := fun b' hb => ⟨hb.1, fun h3 => hb.2.1 (.inl h3), fun β o n sz h1 => by
    rcases cases3 β with ⟨_, h2⟩ | ⟨_, h2⟩ | ⟨i, m, _, h3, h4⟩
    · rw [h2] at h1; exact hb.2.1 (.inr ⟨hb.2.2.1, _, _, _, _, h1⟩)
    · rw [h2] at h1; exact hb.2.1 (.inr ⟨hb.2.2.1, _, _, _, _, h1⟩)
    · rw [h4] at h1; subst h1; exact hb.2.2.2 (htkn h3)⟩
  have hget : ∀ {γ}, γ < H.length → γ ≠ β → (H.set β (.arr tf.e c' 0) ++ bs)[γ]? = H[γ]? := fun {γ} h1 h2 => by
    rw [List.getElem?_append_left (by rw [hl1]; exact h1), List.getElem?_set_ne (Ne.symm h2)]
  have hbr : ∀ b o n sz, ρ β = .at b o n sz → BRel (ρ.add H.length ms) w' b o n sz (.arr tf.e c' 0) := by
    intro b o n sz hr
    rcases hso with ⟨h1, _⟩ | ⟨b1, o1, n1, sz1, h1, h2, h3⟩
    · rw [hm, h1] at hr; cases hr
    · rw [hm, h1] at hr
      injection hr with e1 e2 e3 e4
      subst e1; subst e2; subst e3; subst e4
      rcases hsl with ⟨h4, _⟩ | ⟨b2, o2, cp, h4, _⟩
      · rw [hm, h1] at h4; cases h4
      · rw [hm, h1] at h4
        injection h4 with e1 e2 e3 e4
        exact h2.brel (rf := .arr tf.e 0) hfree e4.symm (by simp only [Rf.len]; rw [h3, e3]) fun _ _ _ => by simp only [Rf.len]; rw [h3, e3]
  refine ⟨resU us, ρ.add H.length ms, rfl, hstep, ?_, ?_, ?_, ?_, by simp [TFS.te]⟩
  · rw [hH']
    constructor
    · intro γ hl hgd
      rcases cases3 γ with ⟨h1, h2⟩ | ⟨h1, h2⟩ | ⟨i, m, h2, h3, h4⟩
      · rw [h2] at hgd
        rw [hget h1 (fun e => by subst e; exact live_of hH hy0 hnd0 hgd)]
        exact hH.dead γ h1 hgd
      · simp at hl; omega
      · rw [h4] at hgd; subst hgd
        obtain ⟨_, t, _, h6, _⟩ := hent.get _ _ h3
        rcases h6 with ⟨h6, _⟩ | ⟨_, _, _, _, _, _, _, _, h6, _⟩ <;> cases h6
    · intro γ hl hgd
      rcases cases3 γ with ⟨h1, h2⟩ | ⟨h1, h2⟩ | ⟨i, m, h2, h3, h4⟩
      · rw [h2] at hgd
        by_cases e : γ = β
        · subst e
          rcases hso with ⟨_, h5⟩ | ⟨_, _, _, _, h5, _⟩
          · subst h5
            refine .inl ⟨tf.e, 0, ?_⟩
            rw [List.getElem?_append_left (by rw [hl1]; exact h1)]
            exact List.getElem?_set_self h1
          · rw [hm, h5] at hgd; cases hgd
        · rw [hget h1 e]
          exact hH.none_ γ h1 hgd
      · simp at hl; omega
      · rw [h4] at hgd; subst hgd; subst h2
        obtain ⟨x, t, h5, h6, _⟩ := hent.get _ _ h3
        rcases h6 with ⟨_, _, e, h6⟩ | ⟨_, _, _, _, _, _, _, _, h6, _⟩
        · subst h6
          exact .inl ⟨e, 0, by rw [List.getElem?_append_right (by omega), hl1, Nat.add_sub_cancel_left]; exact h5⟩
        · cases h6
    · intro γ hl b1 o1 n1 sz1 hq
      rcases cases3 γ with ⟨h1, h2⟩ | ⟨h1, h2⟩ | ⟨i, m, h2, h3, h4⟩
      · rw [h2] at hq
        by_cases e : γ = β
        · subst e
          refine ⟨_, ?_, hbr _ _ _ _ hq⟩
          rw [List.getElem?_append_left (by rw [hl1]; exact h1)]
          simp [h1]
        · obtain ⟨x, h5, h6⟩ := hH.at_ γ h1 _ _ _ _ hq
          refine ⟨x, by rw [hget h1 e]; exact h5, h6.keep hstep (hkept b1 (hsb hq) fun ⟨_, _, _, e2⟩ => ?_) fun b2 hb2 => ⟨hH.vlt hb2, hkept b2 (hH.vlt hb2) fun ⟨_, _, _, e2⟩ => ?_⟩⟩
          · exact e (hH.inj _ _ _ _ _ _ _ _ _ hq (hm.trans e2))
          · exact hH.resf _ _ _ _ _ (hm.trans e2) (.inr (by rw [hb2]; simp))
      · simp at hl; omega
      · rw [h4] at hq; subst hq; subst h2
        obtain ⟨x, t, h5, h6, _⟩ := hent.get _ _ h3
        rcases h6 with ⟨h6, _⟩ | ⟨b', o', n', sz', e, xs, C, tC, h6, h7, h8, h9, h10, h11, h12, h13⟩
        · cases h6
        · cases h6; subst h8
          refine ⟨_, by rw [List.getElem?_append_right (by omega), hl1, Nat.add_sub_cancel_left]; exact h5, ?_⟩
          simp only [BRel]
          exact ⟨h9, h10, C, tC, h11, h12, fun i x hx => by
            obtain ⟨es, h14, h15⟩ := h13 i x hx
            exact ⟨es, CRel.mono hfree (fun _ _ => rfl) h14, h15⟩⟩
    · intro β1 γ b1 o1 n1 sz1 o' n' sz' hb hc
      rcases cases3 β1 with ⟨h1, h2⟩ | ⟨h1, h2⟩ | ⟨i, m, h2, h3, h4⟩ <;> rcases cases3 γ with ⟨g1, g2⟩ | ⟨g1, g2⟩ | ⟨j, m', g2, g3, g4⟩
      · rw [h2] at hb; rw [g2] at hc; exact hH.inj _ _ _ _ _ _ _ _ _ hb hc
      · rw [h2] at hb; rw [g2] at hc; exact hH.inj _ _ _ _ _ _ _ _ _ hb hc
      · rw [h2] at hb; rw [g4] at hc; subst hc
        have := (htk b1 (htkn g3)).1; have := hsb hb; omega
      · rw [h2] at hb; rw [g2] at hc; exact hH.inj _ _ _ _ _ _ _ _ _ hb hc
      · rw [h2] at hb; rw [g2] at hc; exact hH.inj _ _ _ _ _ _ _ _ _ hb hc
      · rw [h2] at hb; rw [g4] at hc; subst hc
        have := (htk b1 (htkn g3)).1; have := hsb hb; omega
      · rw [h4] at hb; subst hb; rw [g2] at hc
        have := (htk b1 (htkn h3)).1; have := hsb hc; omega
      · rw [h4] at hb; subst hb; rw [g2] at hc
        have := (htk b1 (htkn h3)).1; have := hsb hc; omega
      · rw [h4] at hb; subst hb; rw [g4] at hc; subst hc
        rw [h2, g2, hent.inj hnd i j h3 g3]
    · intro β b o n sz hb
      rcases cases3 β with ⟨h1, h2⟩ | ⟨h1, h2⟩ | ⟨i, m, h2, h3, h4⟩
      · rw [h2] at hb; have := hsb hb; omega
      · rw [h2] at hb; have := hsb hb; omega
      · rw [h4] at hb; subst hb; exact (htk b (htkn h3)).2
    · intro b hb; have := hH.resl b hb; omega
    · intro β b o n sz hb hr
      rcases cases3 β with ⟨h1, h2⟩ | ⟨h1, h2⟩ | ⟨i, m, h2, h3, h4⟩
      · rw [h2] at hb; exact hH.resf _ _ _ _ _ hb hr
      · rw [h2] at hb; exact hH.resf _ _ _ _ _ hb hr
      · rw [h4] at hb; subst hb
        have := (htk b (htkn h3)).1; have := hH.resl b hr; omega
  · exact hvr (ρ.add H.length ms) (fun i m hm => by
      obtain ⟨m', h1, h2⟩ := hge (List.getElem?_eq_some_iff.1 hm).1
      rw [hm] at h1; cases h1; exact h2) (fun γ h => hlt' h) hfree
  · rw [hH']; simp
  · intro γ hb hc
    rcases cases3 γ with ⟨_, h2⟩ | ⟨_, h2⟩ | ⟨i, m, h2, h3, h4⟩
    · rw [h2]; exact hb
    · rw [h2]; exact hb
    · exfalso
      rw [hH'] at hc
      have := (List.getElem?_eq_some_iff.1 h3).1
      simp at hc; omega
theorem EntryOK.tfs {P : Program} {f : Nat} {tf : TFS} (h : FnSpecS P f tf) (hf : ∃ fn, P.funcs[f]? = some fn ∧ fn.name ≠ "runtime.NumGoroutine" ∧ fn.body.isSome = true) : EntryOK P f tf.te where
  snd := zNY h
  fn := hf
  ext hm := by simp [TFS.te] at hm
  tch x y args H v H' hv hp := by
    change List tf.e.T × PsT tf.rs at y
    simp only [TFS.te] at hp
    split at hp
    · rename_i a r
      split at hp
      · rename_i β ss hfo
        have hm : β ∈ (List.headD (a :: r) .junk).refs := by
          rw [(zl8 hfo).1]
          unfold firstV
          split <;> simp [SV.refs, SV.refsL]
        split at hp
        · have h2 : H.set β (.arr tf.e y.1 0) = H' := congrArg Prod.snd (Option.some.inj hp)
          rw [← h2]
          have := zdu (H := H) (Δ := []) (x := .arr tf.e y.1 0) hm
          simpa using this
        · have h2 : (putPs tf.rs y.2 (H.set β (.arr tf.e y.1 0))).2 = H' := congrArg Prod.snd (Option.some.inj hp)
          obtain ⟨Δ, h3⟩ := zhW (ps := tf.rs) (y := y.2) (H := H.set β (.arr tf.e y.1 0))
          rw [← h2, h3]
          exact zdu hm
      · simp at hp
    · simp at hp
end
end Go.Proofs.YtdgdoeknpakmlaaGreat.Den
namespace Go.Proofs.YtdgdoeknpakmlaaGreat.Den
open Go Go.RowKit
inductive Sh where
  | nil
  | cell (K : Kd) (f : Nat) (r : Sh)
  | agg (i r : Sh)
  | ifc (t : TypeId) (i r : Sh)
  | fnc (g : FuncId) (r : Sh)
  | num (k : IntKind) (n : Int) (r : Sh)
  | nls (r : Sh)
@[reducible] def Sh.T : Sh → Type
  | .nil => Unit
  | .cell K _ r => K.T × r.T
  | .agg i r => i.T × r.T
  | .ifc _ i r => i.T × r.T
  | .fnc _ r => r.T
  | .num _ _ r => r.T
  | .nls r => r.T
def viewS (H : Heap) : (s : Sh) → List SV → Option s.T
  | .nil, [] => some ()
  | .cell K _ r, v :: vs => match decH true H K [v], viewS H r vs with
    | some x, some y => some (x, y)
    | _, _ => none
  | .agg i r, v :: vs => match v with
    | .agg cs => match viewS H i cs, viewS H r vs with
      | some x, some y => some (x, y)
      | _, _ => none
    | _ => none
  | .ifc t i r, v :: vs => match v with
    | .iface t' c => if t' = t then (match viewS H i [c], viewS H r vs with
      | some x, some y => some (x, y)
      | _, _ => none) else none
    | _ => none
  | .fnc g r, v :: vs => match v with
    | .fn (.func g') [] [] => if g' = g then viewS H r vs else none
    | _ => none
  | .num k n r, v :: vs => match v with
    | .int k' n' => if k' = k ∧ n' = n then viewS H r vs else none
    | _ => none
  | .nls r, v :: vs => match v with
    | .nils => viewS H r vs
    | _ => none
  | _, _ => none
def svS : (s : Sh) → s.T → List SV
  | .nil, _ => []
  | .cell K _ r, x => encS K x.1 :: svS r x.2
  | .agg i r, x => .agg (svS i x.1) :: svS r x.2
  | .ifc t i r, x => .iface t ((svS i x.1).headD .junk) :: svS r x.2
  | .fnc g r, x => .fn (.func g) [] [] :: svS r x
  | .num k n r, x => .int k n :: svS r x
  | .nls r, x => .nils :: svS r x
def rowsN {α : Type} (n : Nat) (xs : List (List α)) : List (List α) := (List.range n).map fun i => xs.getD i []
def ownRow (k n : Nat) : Blk := .cells ((List.range n).map fun i => .own (k + 1 + i)) 0 1
def innerB (e : Kd) (xs : List (List e.T)) : Heap := xs.map fun x => .arr e x 0
def putS : (s : Sh) → s.T → Heap → List SV × Heap
  | .nil, _, H => ([], H)
  | .cell (.list e) 1 r, x, H => (.own H.length :: (putS r x.2 (H ++ [.arr e x.1 0])).1, (putS r x.2 (H ++ [.arr e x.1 0])).2)
  | .cell (.list (.list e)) (n + 2) r, x, H => (.own H.length :: (putS r x.2 (H ++ (ownRow H.length n :: innerB e (rowsN n x.1)))).1, (putS r x.2 (H ++ (ownRow H.length n :: innerB e (rowsN n x.1)))).2)
  | .cell K _ r, x, H => (encS K x.1 :: (putS r x.2 H).1, (putS r x.2 H).2)
  | .agg i r, x, H => (.agg (putS i x.1 H).1 :: (putS r x.2 (putS i x.1 H).2).1, (putS r x.2 (putS i x.1 H).2).2)
  | .ifc t i r, x, H => (.iface t ((putS i x.1 H).1.headD .junk) :: (putS r x.2 (putS i x.1 H).2).1, (putS r x.2 (putS i x.1 H).2).2)
  | .fnc g r, x, H => (.fn (.func g) [] [] :: (putS r x H).1, (putS r x H).2)
  | .num k n r, x, H => (.int k n :: (putS r x H).1, (putS r x H).2)
  | .nls r, x, H => (.nils :: (putS r x H).1, (putS r x H).2)
structure TG where
  ps : Sh
  rs : Sh
  flat : Bool
  fn : ps.T → Option rs.T
def TG.te (tf : TG) : TE where
  X := tf.ps.T
  Y := tf.rs.T
  mono := true
  view args H := cond tf.flat (viewS H tf.ps args) (viewS [] tf.ps args)
  fn := tf.fn
  put _ y _ H := some (resV (putS tf.rs y H).1, (putS tf.rs y H).2)
def ShRel (w : World) (B : Nat → Prop) : (s : Sh) → s.T → List Value → Prop
  | .nil, _, us => us = []
  | .cell K _ r, x, us => ∃ u us', us = u :: us' ∧ CRel w B K x.1 [u] ∧ ShRel w B r x.2 us'
  | .agg i r, x, us => ∃ (a : Array Value) (us' : List Value), us = .agg a :: us' ∧ ShRel w B i x.1 a.toList ∧ ShRel w B r x.2 us'
  | .ifc t i r, x, us => ∃ u us', us = .iface t u :: us' ∧ ShRel w B i x.1 [u] ∧ ShRel w B r x.2 us'
  | .fnc g r, x, us => ∃ us', us = .func (.func g) #[] #[] :: us' ∧ ShRel w B r x us'
  | .num k n r, x, us => ∃ us', us = .int k n :: us' ∧ ShRel w B r x us'
  | .nls r, x, us => ∃ a us', us = .slice a 0 0 :: us' ∧ ShRel w B r x us'
def OwnRows (w : World) (B : Nat → Prop) (e : Kd) (n : Nat) (xs : List (List e.T)) (u : Value) (tk : List Nat) : Prop :=
  ∃ b o c C tC us t', tk = b :: t' ∧ u = .slice (some ⟨b, o, none⟩) n c ∧ n ≤ c ∧ w.heap[b]? = some (.cells C tC (0, 0)) ∧ o + c * 1 ≤ C.size ∧ us.length = n ∧
    (∀ (i : Nat) (v : Value), us[i]? = some v → C[o + i]? = some v) ∧ OwnL w B e (rowsN n xs) us t'
def ShOut (w : World) (B : Nat → Prop) : (s : Sh) → s.T → List Value → List Nat → Prop
  | .nil, _, us, tk => us = [] ∧ tk = []
  | .cell (.list e) 1 r, x, us, tk => ∃ u us' t1 t2, us = u :: us' ∧ tk = t1 ++ t2 ∧ OwnAt w B e x.1 u t1 ∧ ShOut w B r x.2 us' t2
  | .cell (.list (.list e)) (n + 2) r, x, us, tk => ∃ u us' t1 t2, us = u :: us' ∧ tk = t1 ++ t2 ∧ OwnRows w B e n x.1 u t1 ∧ ShOut w B r x.2 us' t2
  | .cell K _ r, x, us, tk => ∃ u us', us = u :: us' ∧ CRel w B K x.1 [u] ∧ ShOut w B r x.2 us' tk
  | .agg i r, x, us, tk => ∃ (a : Array Value) (us' : List Value) (t1 t2 : List Nat), us = .agg a :: us' ∧ tk = t1 ++ t2 ∧ ShOut w B i x.1 a.toList t1 ∧ ShOut w B r x.2 us' t2
  | .ifc t i r, x, us, tk => ∃ u us' t1 t2, us = .iface t u :: us' ∧ tk = t1 ++ t2 ∧ ShOut w B i x.1 [u] t1 ∧ ShOut w B r x.2 us' t2
  | .fnc g r, x, us, tk => ∃ us', us = .func (.func g) #[] #[] :: us' ∧ ShOut w B r x us' tk
  | .num k n r, x, us, tk => ∃ us', us = .int k n :: us' ∧ ShOut w B r x us' tk
  | .nls r, x, us, tk => ∃ a us', us = .slice a 0 0 :: us' ∧ ShOut w B r x us' tk
def FnSpecG (P : Program) (f : FuncId) (tf : TG) : Prop :=
  ∀ (w : World) (res : Nat → Prop) (vs : List Value) (x : tf.ps.T) (y : tf.rs.T), (∀ b, res b → b < w.heap.size) → ShRel w (fun b => b < w.heap.size ∧ ¬ res b) tf.ps x vs → tf.fn x = some y →
    Calls P f vs.toArray w fun e w' => ∃ us tk, e = .returned (resU us) ∧ w'.os = w.os ∧ w'.tape = w.tape ∧ w'.output = w.output ∧ w.heap.size ≤ w'.heap.size ∧ (∀ b, b < w.heap.size → w'.heap[b]? = w.heap[b]?) ∧
      tk.Nodup ∧ (∀ b ∈ tk, w.heap.size ≤ b ∧ b < w'.heap.size) ∧ ShOut w' (fun b => b < w'.heap.size ∧ ¬ res b ∧ b ∉ tk) tf.rs y us.toList tk
def Sh.flatOK : Sh → Bool
  | .nil => true
  | .cell (.list e) 1 r => e.noList && r.flatOK
  | .cell (.list (.list e)) (n + 2) r => e.noList && r.flatOK
  | .cell K _ r => K.noList && r.flatOK
  | .agg i r => i.flatOK && r.flatOK
  | .ifc _ i r => i.flatOK && r.flatOK
  | .fnc _ r => r.flatOK
  | .num _ _ r => r.flatOK
  | .nls r => r.flatOK
def TG.ok (tf : TG) : Bool := !tf.flat || tf.rs.flatOK
section
variable {w : World} {ρ : Map} {H : Heap}
theorem ShRel.of_view {B : Nat → Prop} (hd : ∀ {K : Kd} {s : SV} {x : K.T} {u : Value}, decH true H K [s] = some x → VRel ρ w s u → CRel w B K x [u]) : ∀ {s : Sh} {ss : List SV} {x : s.T} {us : List Value},
    viewS H s ss = some x → VRels ρ w ss us → ShRel w B s x us
  | .nil, [], x, us, h, hv => by simp only [VRels] at hv; exact hv
  | .nil, _ :: _, x, us, h, hv => by simp [viewS] at h
  | .cell K f r, [], x, us, h, hv | .agg i r, [], x, us, h, hv | .ifc t i r, [], x, us, h, hv | .fnc g r, [], x, us, h, hv | .num k n r, [], x, us, h, hv | .nls r, [], x, us, h, hv => by simp [viewS] at h
  | .cell K f r, s :: ss, x, us, h, hv => by
    simp only [viewS] at h
    split at h
    · rename_i y z h1 h2
      simp only [Option.some.injEq] at h; subst h
      simp only [VRels] at hv
      obtain ⟨u, us', rfl, h3, h4⟩ := hv
      exact ⟨u, us', rfl, hd h1 h3, ShRel.of_view hd h2 h4⟩
    · simp at h
  | .agg i r, s :: ss, x, us, h, hv => by
    simp only [viewS] at h
    split at h
    · rename_i cs
      split at h
      · rename_i y z h1 h2
        simp only [Option.some.injEq] at h; subst h
        simp only [VRels, VRel] at hv
        obtain ⟨u, us', rfl, ⟨a, rfl, h3⟩, h4⟩ := hv
        exact ⟨a, us', rfl, ShRel.of_view hd h1 h3, ShRel.of_view hd h2 h4⟩
      · simp at h
    · simp at h
  | .ifc t i r, s :: ss, x, us, h, hv => by
    simp only [viewS] at h
    split at h
    · rename_i t' c
      split at h
      · rename_i ht
        subst ht
        split at h
        · rename_i y z h1 h2
          simp only [Option.some.injEq] at h; subst h
          simp only [VRels, VRel] at hv
          obtain ⟨u, us', rfl, ⟨v, rfl, h3⟩, h4⟩ := hv
          exact ⟨v, us', rfl, ShRel.of_view hd h1 (VRels.single h3), ShRel.of_view hd h2 h4⟩
        · simp at h
      · simp at h
    · simp at h
  | .fnc g r, s :: ss, x, us, h, hv => by
    simp only [viewS] at h
    split at h
    · rename_i g'
      split at h
      · rename_i hg
        subst hg
        simp only [VRels, VRel] at hv
        obtain ⟨u, us', rfl, ⟨vf, vc, rfl, h1, h2⟩, h4⟩ := hv
        have e1 : vf = #[] := Array.toList_inj.1 (by simpa using h1)
        have e2 : vc = #[] := Array.toList_inj.1 (by simpa using h2)
        subst e1; subst e2
        exact ⟨us', rfl, ShRel.of_view hd h h4⟩
      · simp at h
    · simp at h
  | .num k n r, s :: ss, x, us, h, hv => by
    simp only [viewS] at h
    split at h
    · split at h
      · rename_i hg
        obtain ⟨rfl, rfl⟩ := hg
        simp only [VRels, VRel] at hv
        obtain ⟨u, us', rfl, rfl, h4⟩ := hv
        exact ⟨us', rfl, ShRel.of_view hd h h4⟩
      · simp at h
    · simp at h
  | .nls r, s :: ss, x, us, h, hv => by
    simp only [viewS] at h
    split at h
    · simp only [VRels, VRel] at hv
      obtain ⟨u, us', rfl, ⟨a, rfl⟩, h4⟩ := hv
      exact ⟨a, us', rfl, ShRel.of_view hd h h4⟩
    · simp at h
theorem svS_rel {B : Nat → Prop} (hB : ∀ b, B b → Free ρ w b) : ∀ {s : Sh} {x : s.T} {us : List Value}, ShRel w B s x us → VRels ρ w (svS s x) us
  | .nil, x, us, h => by simp only [ShRel] at h; subst h; simp [svS, VRels]
  | .cell K f r, x, us, h => by
    simp only [ShRel] at h
    obtain ⟨u, us', rfl, h1, h2⟩ := h
    simp only [svS, VRels]
    exact ⟨u, us', rfl, za4 hB h1, svS_rel hB h2⟩
  | .agg i r, x, us, h => by
    simp only [ShRel] at h
    obtain ⟨a, us', rfl, h1, h2⟩ := h
    simp only [svS, VRels, VRel]
    exact ⟨_, us', rfl, ⟨a, rfl, svS_rel hB h1⟩, svS_rel hB h2⟩
  | .ifc t i r, x, us, h => by
    simp only [ShRel] at h
    obtain ⟨u, us', rfl, h1, h2⟩ := h
    have h3 := svS_rel hB h1
    simp only [svS, VRels, VRel]
    refine ⟨_, us', rfl, ⟨u, rfl, ?_⟩, svS_rel hB h2⟩
    cases hs : svS i x.1 with
    | nil => rw [hs] at h3; simp [VRels] at h3
    | cons s l =>
      rw [hs] at h3
      simp only [VRels] at h3
      obtain ⟨u', us2, e, h4, _⟩ := h3
      simp at e
      simp only [List.headD_cons, e.1]; exact h4
  | .fnc g r, x, us, h => by
    simp only [ShRel] at h
    obtain ⟨us', rfl, h2⟩ := h
    simp only [svS, VRels, VRel]
    exact ⟨_, us', rfl, ⟨#[], #[], rfl, rfl, rfl⟩, svS_rel hB h2⟩
  | .num k n r, x, us, h => by
    simp only [ShRel] at h
    obtain ⟨us', rfl, h2⟩ := h
    simp only [svS, VRels, VRel]
    exact ⟨_, us', rfl, rfl, svS_rel hB h2⟩
  | .nls r, x, us, h => by
    simp only [ShRel] at h
    obtain ⟨a, us', rfl, h2⟩ := h
    simp only [svS, VRels, VRel]
    exact ⟨_, us', rfl, ⟨a, rfl⟩, svS_rel hB h2⟩
theorem OwnL.mono {B B' : Nat → Prop} {e : Kd} (hB : (∀ b, B b → B' b) ∨ e.noList = true) : ∀ {xs : List (List e.T)} {us : List Value} {tk : List Nat}, OwnL w B e xs us tk → OwnL w B' e xs us tk
  | [], _, _, h => h
  | x :: xs, us, tk, h => by
    simp only [OwnL] at h ⊢
    obtain ⟨u, us', t1, t2, h1, h2, h3, h4⟩ := h
    exact ⟨u, us', t1, t2, h1, h2, hB.elim (fun hb => h3.mono hb) (fun hn => h3.noList hn), OwnL.mono hB h4⟩
theorem OwnRows.mono {B B' : Nat → Prop} {e : Kd} (hB : (∀ b, B b → B' b) ∨ e.noList = true) {n : Nat} {xs : List (List e.T)} {u : Value} {tk : List Nat} (h : OwnRows w B e n xs u tk) : OwnRows w B' e n xs u tk := by
  obtain ⟨b, o, c, C, tC, us, t', h1, h2, h3, h4, h5, h6, h7, h8⟩ := h
  exact ⟨b, o, c, C, tC, us, t', h1, h2, h3, h4, h5, h6, h7, h8.mono hB⟩
def plainC : Kd → Nat → Bool
  | .list _, 1 => false
  | .list (.list _), _ + 2 => false
  | _, _ => true
theorem ShOut.plain {B : Nat → Prop} {K : Kd} {f : Nat} {r : Sh} (hp : plainC K f = true) {x : (Sh.cell K f r).T} {us : List Value} {tk : List Nat} :
    ShOut w B (.cell K f r) x us tk ↔ ∃ u us', us = u :: us' ∧ CRel w B K x.1 [u] ∧ ShOut w B r x.2 us' tk := by
  unfold plainC at hp
  split at hp
  · cases hp
  · cases hp
  · rename_i h1 h2
    rw [ShOut]
    · exact fun e _ h3 h4 _ => h1 e h3 h4
    · exact fun e n _ h3 h4 _ => h2 e n h3 h4
theorem zq7 {K : Kd} {f : Nat} {r : Sh} (hp : plainC K f = true) {x : (Sh.cell K f r).T} {H : Heap} : putS (.cell K f r) x H = (encS K x.1 :: (putS r x.2 H).1, (putS r x.2 H).2) := by
  unfold plainC at hp
  split at hp
  · cases hp
  · cases hp
  · rename_i h1 h2
    rw [putS]
    · exact fun e _ h3 h4 _ => h1 e h3 h4
    · exact fun e n _ h3 h4 _ => h2 e n h3 h4
theorem zNZ {K : Kd} {f : Nat} {r : Sh} (hp : plainC K f = true) : (Sh.cell K f r).flatOK = (K.noList && r.flatOK) := by
  unfold plainC at hp
  split at hp
  · cases hp
  · cases hp
  · rename_i h1 h2
    rw [Sh.flatOK]
    · exact h1
    · exact h2
theorem cellCases (K : Kd) (f : Nat) : plainC K f = true ∨ (∃ e, K = .list e ∧ f = 1) ∨ ∃ e n, K = .list (.list e) ∧ f = n + 2 := by
  cases h : plainC K f with
  | true => exact .inl rfl
  | false =>
    unfold plainC at h
    split at h
    · exact .inr (.inl ⟨_, rfl, rfl⟩)
    · exact .inr (.inr ⟨_, _, rfl, rfl⟩)
    · cases h
theorem ShOut.mono {B B' : Nat → Prop} : ∀ {s : Sh} {x : s.T} {us : List Value} {tk : List Nat}, ((∀ b, B b → B' b) ∨ s.flatOK = true) → ShOut w B s x us tk → ShOut w B' s x us tk
  | .nil, x, us, tk, hB, h => h
  | .cell K f r, x, us, tk, hB, h => by
    rcases cellCases K f with hp | ⟨e, rfl, rfl⟩ | ⟨e, n, rfl, rfl⟩
    · rw [ShOut.plain hp] at h ⊢
      rw [zNZ hp, Bool.and_eq_true] at hB
      obtain ⟨u, us', h1, h2, h3⟩ := h
      exact ⟨u, us', h1, hB.elim (fun hb => CRel.mono hb (fun _ _ => rfl) h2) (fun hn => zhS hn.1 h2), ShOut.mono (hB.imp id fun hn => hn.2) h3⟩
    · simp only [Sh.flatOK, Bool.and_eq_true] at hB
      simp only [ShOut] at h ⊢
      obtain ⟨u, us', t1, t2, h1, h2, h3, h4⟩ := h
      exact ⟨u, us', t1, t2, h1, h2, hB.elim (fun hb => h3.mono hb) (fun hn => h3.noList hn.1), ShOut.mono (hB.imp id fun hn => hn.2) h4⟩
    · simp only [Sh.flatOK, Bool.and_eq_true] at hB
      simp only [ShOut] at h ⊢
      obtain ⟨u, us', t1, t2, h1, h2, h3, h4⟩ := h
      exact ⟨u, us', t1, t2, h1, h2, h3.mono (hB.imp id fun hn => hn.1), ShOut.mono (hB.imp id fun hn => hn.2) h4⟩
  | .agg i r, x, us, tk, hB, h => by
    simp only [Sh.flatOK, Bool.and_eq_true] at hB
    simp only [ShOut] at h ⊢
    obtain ⟨a, us', t1, t2, h1, h2, h3, h4⟩ := h
    exact ⟨a, us', t1, t2, h1, h2, ShOut.mono (hB.imp id fun hn => hn.1) h3, ShOut.mono (hB.imp id fun hn => hn.2) h4⟩
  | .ifc t i r, x, us, tk, hB, h => by
    simp only [Sh.flatOK, Bool.and_eq_true] at hB
    simp only [ShOut] at h ⊢
    obtain ⟨u, us', t1, t2, h1, h2, h3, h4⟩ := h
    exact ⟨u, us', t1, t2, h1, h2, ShOut.mono (hB.imp id fun hn => hn.1) h3, ShOut.mono (hB.imp id fun hn => hn.2) h4⟩
  | .fnc g r, x, us, tk, hB, h => by
    simp only [Sh.flatOK] at hB
    simp only [ShOut] at h ⊢
    obtain ⟨us', h1, h2⟩ := h
    exact ⟨us', h1, ShOut.mono hB h2⟩
  | .num k n r, x, us, tk, hB, h => by
    simp only [Sh.flatOK] at hB
    simp only [ShOut] at h ⊢
    obtain ⟨us', h1, h2⟩ := h
    exact ⟨us', h1, ShOut.mono hB h2⟩
  | .nls r, x, us, tk, hB, h => by
    simp only [Sh.flatOK] at hB
    simp only [ShOut] at h ⊢
    obtain ⟨a, us', h1, h2⟩ := h
    exact ⟨a, us', h1, ShOut.mono hB h2⟩
structure EntP (w : World) (B : Nat → Prop) (k : Nat) (bs : List Blk) (ms : List Img) (tk : List Nat) : Prop where
  len : ms.length = bs.length
  ok : ∀ (ρ : Map), Agree ρ k ms → (∀ b, B b → Free ρ w b) → ∀ (i : Nat) (x : Blk) (m : Img), bs[i]? = some x → ms[i]? = some m → (m = .none_ ∧ ∃ e, x = .arr e [] 0) ∨ ∃ b o n sz, m = .at b o n sz ∧ BRel ρ w b o n sz x
  mem : ∀ (i : Nat) (b o n sz : Nat), ms[i]? = some (.at b o n sz) → b ∈ tk
  inj : tk.Nodup → ∀ (i j : Nat) (b o n sz o' n' sz' : Nat), ms[i]? = some (.at b o n sz) → ms[j]? = some (.at b o' n' sz') → i = j
theorem EntP.nil {B : Nat → Prop} {k : Nat} : EntP w B k [] [] [] := ⟨rfl, fun _ _ _ i x m h => by simp at h, fun i b o n sz h => by simp at h, fun _ i j b o n sz o' n' sz' h => by simp at h⟩
theorem EntP.append {B : Nat → Prop} {k : Nat} {bs bs' : List Blk} {ms ms' : List Img} {tk tk' : List Nat} (h1 : EntP w B k bs ms tk) (h2 : EntP w B (k + bs.length) bs' ms' tk') : EntP w B k (bs ++ bs') (ms ++ ms') (tk ++ tk') where
  len := by rw [List.length_append, List.length_append, h1.len, h2.len]
  ok ρ ha hf i x m hx hm := by
    have ha2 := ha.split
    rw [h1.len] at ha2
    rcases Nat.lt_or_ge i bs.length with hi | hi
    · rw [List.getElem?_append_left hi] at hx
      rw [List.getElem?_append_left (by rw [h1.len]; exact hi)] at hm
      exact h1.ok ρ ha2.1 hf i x m hx hm
    · rw [List.getElem?_append_right hi] at hx
      rw [List.getElem?_append_right (by rw [h1.len]; exact hi), h1.len] at hm
      exact h2.ok ρ ha2.2 hf _ x m hx hm
  mem i b o n sz hm := by
    rcases Nat.lt_or_ge i ms.length with hi | hi
    · rw [List.getElem?_append_left hi] at hm
      exact List.mem_append.2 (.inl (h1.mem i b o n sz hm))
    · rw [List.getElem?_append_right hi] at hm
      exact List.mem_append.2 (.inr (h2.mem _ b o n sz hm))
  inj hnd i j b o n sz o' n' sz' hi hj := by
    obtain ⟨n1, n2, n3⟩ := List.nodup_append.1 hnd
    rcases Nat.lt_or_ge i ms.length with ci | ci <;> rcases Nat.lt_or_ge j ms.length with cj | cj
    · rw [List.getElem?_append_left ci] at hi
      rw [List.getElem?_append_left cj] at hj
      exact h1.inj n1 i j b o n sz o' n' sz' hi hj
    · rw [List.getElem?_append_left ci] at hi
      rw [List.getElem?_append_right cj] at hj
      exact absurd rfl (n3 b (h1.mem _ _ _ _ _ hi) b (h2.mem _ _ _ _ _ hj))
    · rw [List.getElem?_append_right ci] at hi
      rw [List.getElem?_append_left cj] at hj
      exact absurd rfl (n3 b (h1.mem _ _ _ _ _ hj) b (h2.mem _ _ _ _ _ hi))
    · rw [List.getElem?_append_right ci] at hi
      rw [List.getElem?_append_right cj] at hj
      have := h2.inj n2 _ _ b o n sz o' n' sz' hi hj
      omega
theorem OwnAt.entP {B : Nat → Prop} {e : Kd} {xs : List e.T} {u : Value} {t : List Nat} (h : OwnAt w B e xs u t) (k : Nat) : ∃ m, EntP w B k [.arr e xs 0] [m] t ∧ ∀ (ρ : Map) (β : Nat), ρ β = m → VRel ρ w (.own β) u := by
  rcases h with ⟨rfl, rfl, a, rfl⟩ | ⟨b, o, c, C, tC, rfl, rfl, h3, h4, h5, h6⟩
  · refine ⟨.none_, ⟨rfl, fun ρ _ _ i x m hx hm => ?_, fun i b o n sz hm => ?_, fun _ i j b o n sz o' n' sz' hm _ => ?_⟩, fun ρ β hb => by simp only [VRel, hb]; exact ⟨a, rfl⟩⟩
    · cases i with
      | zero => simp at hx hm; subst hx; subst hm; exact .inl ⟨rfl, e, rfl⟩
      | succ i => simp at hx
    · cases i <;> simp at hm
    · cases i <;> simp at hm
  · have hle : xs.length * e.sz ≤ c * e.sz := Nat.mul_le_mul_right _ h3
    refine ⟨.at b o xs.length e.sz, ⟨rfl, fun ρ _ hf i x m hx hm => ?_, fun i b' o' n sz hm => ?_, fun _ i j b o n sz o' n' sz' hi hj => ?_⟩, fun ρ β hb => by
      simp only [VRel, hb]; exact ⟨c, h3, rfl, C, tC, h4, h5⟩⟩
    · cases i with
      | zero =>
        simp at hx hm; subst hx; subst hm
        refine .inr ⟨_, _, _, _, rfl, ?_⟩
        simp only [BRel]
        exact ⟨by first | rfl | trivial, by first | rfl | trivial, C, tC, h4, by omega, fun i x hx => by
          obtain ⟨es, h7, h8⟩ := h6 i x hx
          exact ⟨es, CRel.mono hf (fun _ _ => rfl) h7, h8⟩⟩
      | succ i => simp at hx
    · cases i with
      | zero => simp at hm; simp [hm.1]
      | succ i => simp at hm
    · cases i with
      | zero =>
        cases j with
        | zero => rfl
        | succ j => simp at hj
      | succ i => simp at hi
theorem OwnL.entP {B : Nat → Prop} {e : Kd} : ∀ {xs : List (List e.T)} {us : List Value} {tk : List Nat}, OwnL w B e xs us tk → ∀ k, ∃ ms, EntP w B k (innerB e xs) ms tk ∧
      ∀ (ρ : Map), Agree ρ k ms → ∀ (i : Nat) (u : Value), us[i]? = some u → VRel ρ w (.own (k + i)) u
  | [], us, tk, h, k => by
    simp only [OwnL] at h
    obtain ⟨rfl, rfl⟩ := h
    exact ⟨[], EntP.nil, fun ρ _ i u hu => by simp at hu⟩
  | x :: xs, us, tk, h, k => by
    simp only [OwnL] at h
    obtain ⟨u, us', t1, t2, rfl, rfl, h3, h4⟩ := h
    obtain ⟨m, h5, h6⟩ := h3.entP k
    obtain ⟨ms, h7, h8⟩ := h4.entP (k + 1)
    refine ⟨m :: ms, EntP.append h5 h7, fun ρ ha i v hv => ?_⟩
    cases i with
    | zero =>
      simp at hv; subst hv
      exact h6 ρ _ (by simpa using ha 0 m rfl)
    | succ i =>
      have := h8 ρ (fun i m' hm => by have := ha (i + 1) m' (by simpa using hm); rw [← this]; congr 1; omega) i v (by simpa using hv)
      rwa [show k + 1 + i = k + (i + 1) from by omega] at this
theorem zN0 {e : Kd} {xs : List (List e.T)} : (innerB e xs).length = xs.length := by simp [innerB]
theorem OwnRows.entP {B : Nat → Prop} {e : Kd} {n : Nat} {xs : List (List e.T)} {u : Value} {tk : List Nat} (h : OwnRows w B e n xs u tk) (k : Nat) :
    ∃ ms, EntP w B k (ownRow k n :: innerB e (rowsN n xs)) ms tk ∧ ∀ (ρ : Map), Agree ρ k ms → VRel ρ w (.own k) u := by
  obtain ⟨b, o, c, C, tC, us, t', rfl, rfl, h3, h4, h5, h6, h7, h8⟩ := h
  obtain ⟨ms, h9, h10⟩ := h8.entP (k + 1)
  have hml := h9.len
  refine ⟨.at b o n 1 :: ms, ⟨by simp [hml], fun ρ ha hf i x m hx hm => ?_, fun i b' o' n' sz' hm => ?_, fun hnd i j b1 o1 n1 s1 o2 n2 s2 hi hj => ?_⟩, fun ρ ha => ?_⟩
  · have ha2 : Agree ρ (k + 1) ms := fun i m' hm => by have := ha (i + 1) m' (by simpa using hm); rw [← this]; congr 1; omega
    cases i with
    | zero =>
      simp at hx hm; subst hx; subst hm
      refine .inr ⟨_, _, _, _, rfl, ?_⟩
      simp only [ownRow, BRel]
      refine ⟨trivial, by simp, C, tC, h4, by omega, fun j s hs => ?_⟩
      rw [List.getElem?_map] at hs
      rcases Nat.lt_or_ge j n with hj | hj
      · rw [List.getElem?_range hj] at hs
        simp at hs; subst hs
        have hu := List.getElem?_eq_getElem (l := us) (i := j) (by omega)
        exact ⟨_, h7 j _ hu, h10 ρ ha2 j _ hu⟩
      · rw [List.getElem?_eq_none (by simpa using hj)] at hs; simp at hs
    | succ i => exact h9.ok ρ ha2 hf i x m (by simpa using hx) (by simpa using hm)
  · cases i with
    | zero => simp at hm; simp [hm.1]
    | succ i => exact List.mem_cons_of_mem _ (h9.mem i b' o' n' sz' (by simpa using hm))
  · obtain ⟨n1', n2'⟩ := List.nodup_cons.1 hnd
    cases i with
    | zero =>
      cases j with
      | zero => rfl
      | succ j =>
        simp at hi
        obtain ⟨rfl, _⟩ := hi
        exact absurd (h9.mem j _ _ _ _ (by simpa using hj)) n1'
    | succ i =>
      cases j with
      | zero =>
        simp at hj
        obtain ⟨rfl, _⟩ := hj
        exact absurd (h9.mem i _ _ _ _ (by simpa using hi)) n1'
      | succ j =>
        have := h9.inj n2' i j b1 o1 n1 s1 o2 n2 s2 (by simpa using hi) (by simpa using hj)
        omega
  · have := ha 0 _ rfl
    simp only [Nat.add_zero] at this
    simp only [VRel, this]
    exact ⟨c, h3, rfl, C, tC, h4, h5⟩
theorem zT {B : Nat → Prop} : ∀ {s : Sh} {x : s.T} {vs : List Value} {tk : List Nat}, ShOut w B s x vs tk → ∀ (H : Heap),
    ∃ bs ms, EntP w B H.length bs ms tk ∧ (putS s x H).2 = H ++ bs ∧ ∀ ρ : Map, Agree ρ H.length ms → (∀ b, B b → Free ρ w b) → VRels ρ w (putS s x H).1 vs
  | .nil, x, vs, tk, h, H => by
    simp only [ShOut] at h
    obtain ⟨rfl, rfl⟩ := h
    exact ⟨[], [], EntP.nil, by simp [putS], fun ρ _ _ => by simp [putS, VRels]⟩
  | .cell K f r, x, vs, tk, h, H => by
    rcases cellCases K f with hp | ⟨e, rfl, rfl⟩ | ⟨e, n, rfl, rfl⟩
    · rw [ShOut.plain hp] at h
      obtain ⟨u, us', rfl, h2, h3⟩ := h
      obtain ⟨bs, ms, h4, h5, h6⟩ := zT h3 H
      refine ⟨bs, ms, h4, by rw [zq7 hp]; exact h5, fun ρ ha hB => ?_⟩
      rw [zq7 hp]
      simp only [VRels]
      exact ⟨u, us', rfl, za4 hB h2, h6 ρ ha hB⟩
    · simp only [ShOut] at h
      obtain ⟨u, us', t1, t2, rfl, rfl, h3, h4⟩ := h
      obtain ⟨m, h5, h6⟩ := h3.entP H.length
      obtain ⟨bs, ms, h7, h8, h9⟩ := zT h4 (H ++ [.arr e x.1 0])
      simp only [List.length_append, List.length_singleton] at h7 h9
      refine ⟨_, _, EntP.append h5 (by simpa using h7), by simp only [putS]; rw [h8, List.append_assoc], fun ρ ha hB => ?_⟩
      have ha2 := ha.split
      simp only [putS, VRels]
      exact ⟨u, us', rfl, h6 ρ _ (by simpa using ha2.1 0 m rfl), h9 ρ (by simpa using ha2.2) hB⟩
    · simp only [ShOut] at h
      obtain ⟨u, us', t1, t2, rfl, rfl, h3, h4⟩ := h
      obtain ⟨ms1, h5, h6⟩ := h3.entP H.length
      obtain ⟨bs, ms, h7, h8, h9⟩ := zT h4 (H ++ (ownRow H.length n :: innerB e (rowsN n x.1)))
      rw [List.length_append] at h7 h9
      have hl := h5.len
      refine ⟨_, _, EntP.append h5 h7, by simp only [putS]; rw [h8, List.append_assoc], fun ρ ha hB => ?_⟩
      have ha2 := ha.split
      simp only [putS, VRels]
      exact ⟨u, us', rfl, h6 ρ ha2.1, h9 ρ (by rw [← hl]; exact ha2.2) hB⟩
  | .agg i r, x, vs, tk, h, H => by
    simp only [ShOut] at h
    obtain ⟨a, us', t1, t2, rfl, rfl, h3, h4⟩ := h
    obtain ⟨bs1, ms1, h5, h6, h7⟩ := zT h3 H
    obtain ⟨bs2, ms2, h8, h9, h10⟩ := zT h4 (putS i x.1 H).2
    rw [h6, List.length_append] at h8 h10
    have hl := h5.len
    refine ⟨_, _, EntP.append h5 h8, by simp only [putS]; rw [h9, h6, List.append_assoc], fun ρ ha hB => ?_⟩
    have ha2 := ha.split
    simp only [putS, VRels, VRel]
    refine ⟨_, us', rfl, ⟨a, rfl, h7 ρ ha2.1 hB⟩, ?_⟩
    have := h10 ρ (by rw [← hl]; exact ha2.2) hB
    rw [h6]
    exact this
  | .ifc t i r, x, vs, tk, h, H => by
    simp only [ShOut] at h
    obtain ⟨u, us', t1, t2, rfl, rfl, h3, h4⟩ := h
    obtain ⟨bs1, ms1, h5, h6, h7⟩ := zT h3 H
    obtain ⟨bs2, ms2, h8, h9, h10⟩ := zT h4 (putS i x.1 H).2
    rw [h6, List.length_append] at h8 h10
    have hl := h5.len
    refine ⟨_, _, EntP.append h5 h8, by simp only [putS]; rw [h9, h6, List.append_assoc], fun ρ ha hB => ?_⟩
    have ha2 := ha.split
    have h11 := h7 ρ ha2.1 hB
    simp only [putS, VRels, VRel]
    refine ⟨_, us', rfl, ⟨u, rfl, ?_⟩, ?_⟩
    · cases hs : (putS i x.1 H).1 with
      | nil => rw [hs] at h11; simp [VRels] at h11
      | cons s l =>
        rw [hs] at h11
        simp only [VRels] at h11
        obtain ⟨u', us2, e, h12, _⟩ := h11
        simp at e
        simp only [List.headD_cons, e.1]; exact h12
    · have := h10 ρ (by rw [← hl]; exact ha2.2) hB
      rw [h6]
      exact this
  | .fnc g r, x, vs, tk, h, H => by
    simp only [ShOut] at h
    obtain ⟨us', rfl, h2⟩ := h
    obtain ⟨bs, ms, h4, h5, h6⟩ := zT h2 H
    refine ⟨bs, ms, h4, by simp only [putS]; exact h5, fun ρ ha hB => ?_⟩
    simp only [putS, VRels, VRel]
    exact ⟨_, us', rfl, ⟨#[], #[], rfl, rfl, rfl⟩, h6 ρ ha hB⟩
  | .num k n r, x, vs, tk, h, H => by
    simp only [ShOut] at h
    obtain ⟨us', rfl, h2⟩ := h
    obtain ⟨bs, ms, h4, h5, h6⟩ := zT h2 H
    refine ⟨bs, ms, h4, by simp only [putS]; exact h5, fun ρ ha hB => ?_⟩
    simp only [putS, VRels, VRel]
    exact ⟨_, us', rfl, rfl, h6 ρ ha hB⟩
  | .nls r, x, vs, tk, h, H => by
    simp only [ShOut] at h
    obtain ⟨a, us', rfl, h2⟩ := h
    obtain ⟨bs, ms, h4, h5, h6⟩ := zT h2 H
    refine ⟨bs, ms, h4, by simp only [putS]; exact h5, fun ρ ha hB => ?_⟩
    simp only [putS, VRels, VRel]
    exact ⟨_, us', rfl, ⟨a, rfl⟩, h6 ρ ha hB⟩
end
end Go.Proofs.YtdgdoeknpakmlaaGreat.Den
namespace Go.Proofs.YtdgdoeknpakmlaaGreat.Den
open Go Go.RowKit
section
variable {w : World} {ρ : Map} {H : Heap}
theorem zN1 {P : Program} {f : FuncId} {tf : TG} (hok : tf.ok = true) (h : FnSpecG P f tf) : TESound P f tf.te := by
  intro ρ H w args vs x y v H' hH hv hun hview hfn hput
  have hput' : v = resV (putS tf.rs y H).1 ∧ H' = (putS tf.rs y H).2 := by
    simp only [TG.te, Option.some.injEq, Prod.mk.injEq] at hput
    exact ⟨hput.1.symm, hput.2.symm⟩
  obtain ⟨rfl, rfl⟩ := hput'
  -- what is kept from the callee
  let res : Nat → Prop := fun b => (ρ.res0 b ∧ ρ.vl b = none) ∨ (tf.flat = false ∧ ((∃ β o n sz, ρ β = .at b o n sz) ∨ ρ.vl b ≠ none))
  have hres : ∀ b, res b → b < w.heap.size := by
    rintro b (hb | ⟨_, ⟨β, o, n, sz, hb⟩ | hb⟩)
    · exact hH.resl b (.inl hb.1)
    · exact hH.lt _ _ _ _ _ hb
    · exact hH.resl b (.inr hb)
  have hps : ShRel w (fun b => b < w.heap.size ∧ ¬ res b) tf.ps x vs := by
    simp only [TG.te] at hview
    cases hfl : tf.flat with
    | true =>
      rw [hfl] at hview
      refine ShRel.of_view (ρ := ρ) (fun {K s x u} h1 h2 => ?_) hview hv
      refine zh hH (B := fun b => b < w.heap.size ∧ ¬ res b) (fun b hb => ⟨hb.1, ?_⟩) (fun _ b t hv2 => ⟨hH.vlt hv2, ?_⟩) (fun γ b o n sz _ hg => ⟨hH.lt _ _ _ _ _ hg, ?_⟩) h1 (VRels.single h2)
      · rintro (h3 | ⟨h3, _⟩)
        · exact hb.2.1 (.inl h3.1)
        · rw [hfl] at h3; cases h3
      · rintro (h3 | ⟨h3, _⟩)
        · rw [hv2] at h3; cases h3.2
        · rw [hfl] at h3; cases h3
      · rintro (h3 | ⟨h3, _⟩)
        · exact hH.resf _ _ _ _ _ hg (.inl h3.1)
        · rw [hfl] at h3; cases h3
    | false =>
      rw [hfl] at hview
      refine ShRel.of_view (ρ := ρ) (fun {K s x u} h1 h2 => ?_) hview hv
      exact CRel.mono (fun b hb => ⟨hb.1, fun h3 => by
        rcases h3 with h3 | ⟨_, ⟨β, o, n, sz, h3⟩ | h3⟩
        · exact hb.2.1 (.inl h3.1)
        · exact hb.2.2 _ _ _ _ h3
        · exact hb.2.1 (.inr h3)⟩) (fun _ _ => rfl) (zg h1 (VRels.single h2))
  refine Calls.mono (h w res vs x y hres hps hfn) fun e w' he => ?_
  obtain ⟨us, tk, rfl, hos, htape, hout, hsize, hkept, hnd, htk, hps'⟩ := he
  have hB : ShOut w' (fun b => b < w'.heap.size ∧ ¬ ρ.res b ∧ (∀ β o n sz, ρ β ≠ .at b o n sz) ∧ b ∉ tk) tf.rs y us.toList tk := by
    cases hfl : tf.flat with
    | true =>
      refine ShOut.mono (.inr ?_) hps'
      simpa [TG.ok, hfl] using hok
    | false =>
      exact ShOut.mono (.inl fun b hb => ⟨hb.1, fun h3 => by
        cases hvl : ρ.vl b with
        | none => exact hb.2.1 (.inl ⟨h3.resolve_right (by rw [hvl]; simp), hvl⟩)
        | some t => exact hb.2.1 (.inr ⟨hfl, .inr (by rw [hvl]; simp)⟩), fun β o n sz h3 => hb.2.1 (.inr ⟨hfl, .inl ⟨β, o, n, sz, h3⟩⟩), hb.2.2⟩) hps'
  obtain ⟨bs, ms, hent, hH', hvr⟩ := zT hB H
  have hml := hent.len
  have hlt : ∀ {β}, β < H.length → (ρ.add H.length ms) β = ρ β := fun h => by simp [Map.add, h]
  have hge : ∀ {i}, i < ms.length → ∃ m, ms[i]? = some m ∧ (ρ.add H.length ms) (H.length + i) = m := fun {i} h => by
    refine ⟨ms[i], List.getElem?_eq_getElem h, ?_⟩
    simp only [Map.add]; rw [if_neg (by omega), Nat.add_sub_cancel_left, List.getElem?_eq_getElem h]
  have hgt : ∀ {β}, H.length + ms.length ≤ β → (ρ.add H.length ms) β = ρ β := fun {β} h => by
    simp only [Map.add]; rw [if_neg (by omega), List.getElem?_eq_none (by omega)]
  have cases3 : ∀ β, (β < H.length ∧ (ρ.add H.length ms) β = ρ β) ∨ (H.length + ms.length ≤ β ∧ (ρ.add H.length ms) β = ρ β) ∨ ∃ i m, β = H.length + i ∧ ms[i]? = some m ∧ (ρ.add H.length ms) β = m := by
    intro β
    rcases Nat.lt_or_ge β H.length with h1 | h1
    · exact .inl ⟨h1, hlt h1⟩
    · rcases Nat.lt_or_ge β (H.length + ms.length) with h2 | h2
      · obtain ⟨m, h3, h4⟩ := hge (i := β - H.length) (by omega)
        rw [show H.length + (β - H.length) = β by omega] at h4
        exact .inr (.inr ⟨β - H.length, m, by omega, h3, h4⟩)
      · exact .inr (.inl ⟨h2, hgt h2⟩)
  have htkn : ∀ {i : Nat} {b o n sz : Nat}, ms[i]? = some (.at b o n sz) → b ∈ tk := fun hm => hent.mem _ _ _ _ _ hm
  have hub : ∀ β, H.length ≤ β → β < H.length + ms.length → ρ β = .unborn := fun β h1 h2 => hun β h1 (by rw [hH']; simp; omega)
  have hstep : Step ρ w (ρ.add H.length ms) w' := {
    os := hos, tape := htape, output := hout, size := hsize
    kept := fun b hb _ _ => hkept b hb
    shape := fun b C t fr hb => ⟨C, by rw [hkept b (Array.getElem?_eq_some_iff.1 hb).1]; exact hb, rfl⟩
    img := fun β b o n sz hb => by
      rcases cases3 β with ⟨_, h2⟩ | ⟨_, h2⟩ | ⟨i, m, _, h3, h4⟩
      · rw [h2] at hb; exact .inl ⟨β, o, n, sz, hb⟩
      · rw [h2] at hb; exact .inl ⟨β, o, n, sz, hb⟩
      · rw [h4] at hb; subst hb
        exact .inr (htk b (htkn h3)).1
    ref := fun β hb => by
      rcases cases3 β with ⟨_, h2⟩ | ⟨_, h2⟩ | ⟨i, m, h2, h3, _⟩
      · exact .inl h2
      · exact .inl h2
      · exact absurd (hub β (by omega) (by have := (List.getElem?_eq_some_iff.1 h3).1; omega)) hb
    res := rfl
    vl := fun _ _ => rfl }
  have hfree : ∀ b, (b < w'.heap.size ∧ ¬ ρ.res b ∧ (∀ β o n sz, ρ β ≠ .at b o n sz) ∧ b ∉ tk) → Free (ρ.add H.length ms) w' b := fun b hb => ⟨hb.1, hb.2.1, fun β o n sz h1 => by
    rcases cases3 β with ⟨_, h2⟩ | ⟨_, h2⟩ | ⟨i, m, _, h3, h4⟩
    · rw [h2] at h1; exact hb.2.2.1 _ _ _ _ h1
    · rw [h2] at h1; exact hb.2.2.1 _ _ _ _ h1
    · rw [h4] at h1; subst h1; exact hb.2.2.2 (htkn h3)⟩
  have hag : Agree (ρ.add H.length ms) H.length ms := fun i m hm => by
    obtain ⟨m', h1, h2⟩ := hge (List.getElem?_eq_some_iff.1 hm).1
    rw [hm] at h1; cases h1; exact h2
  have hok2 : ∀ (i : Nat) (m : Img), ms[i]? = some m → ∃ x, bs[i]? = some x ∧ ((m = .none_ ∧ ∃ e, x = .arr e [] 0) ∨ ∃ b o n sz, m = .at b o n sz ∧ BRel (ρ.add H.length ms) w' b o n sz x) := fun i m hm => by
    have hi := (List.getElem?_eq_some_iff.1 hm).1
    have hx := List.getElem?_eq_getElem (l := bs) (i := i) (by omega)
    exact ⟨_, hx, hent.ok _ hag hfree i _ m hx hm⟩
  have hlen : (H ++ bs).length = H.length + ms.length := by rw [hml]; simp
  have hsz : ∀ {β b o n sz}, ρ β = .at b o n sz → b < w.heap.size := fun h => hH.lt _ _ _ _ _ h
  refine ⟨resU us, ρ.add H.length ms, rfl, hstep, ?_, ?_, ?_, ?_, ?_⟩
  · rw [hH']
    constructor
    · intro β hl hd
      rcases cases3 β with ⟨h1, h2⟩ | ⟨h1, h2⟩ | ⟨i, m, h2, h3, h4⟩
      · rw [List.getElem?_append_left h1]; exact hH.dead β h1 (by rw [← h2]; exact hd)
      · omega
      · rw [h4] at hd; subst hd
        obtain ⟨_, _, h6⟩ := hok2 _ _ h3
        rcases h6 with ⟨h6, _⟩ | ⟨_, _, _, _, h6, _⟩ <;> cases h6
    · intro β hl hd
      rcases cases3 β with ⟨h1, h2⟩ | ⟨h1, h2⟩ | ⟨i, m, h2, h3, h4⟩
      · rw [List.getElem?_append_left h1]; exact hH.none_ β h1 (by rw [← h2]; exact hd)
      · omega
      · rw [h4] at hd; subst hd; subst h2
        obtain ⟨x, h5, h6⟩ := hok2 _ _ h3
        rcases h6 with ⟨_, e, h6⟩ | ⟨_, _, _, _, h6, _⟩
        · subst h6
          exact .inl ⟨e, 0, by rw [List.getElem?_append_right (by omega), Nat.add_sub_cancel_left]; exact h5⟩
        · cases h6
    · intro β hl b o n sz hd
      rcases cases3 β with ⟨h1, h2⟩ | ⟨h1, h2⟩ | ⟨i, m, h2, h3, h4⟩
      · rw [h2] at hd
        obtain ⟨x, h5, h6⟩ := hH.at_ β h1 _ _ _ _ hd
        exact ⟨x, by rw [List.getElem?_append_left h1]; exact h5, h6.keep hstep (hkept b (hsz hd)) fun b' hb' => ⟨hH.vlt hb', hkept b' (hH.vlt hb')⟩⟩
      · omega
      · rw [h4] at hd; subst hd; subst h2
        obtain ⟨x, h5, h6⟩ := hok2 _ _ h3
        rcases h6 with ⟨h6, _⟩ | ⟨b', o', n', sz', h6, h7⟩
        · cases h6
        · cases h6
          exact ⟨_, by rw [List.getElem?_append_right (by omega), Nat.add_sub_cancel_left]; exact h5, h7⟩
    · intro β γ b o n sz o' n' sz' hb hc
      rcases cases3 β with ⟨h1, h2⟩ | ⟨h1, h2⟩ | ⟨i, m, h2, h3, h4⟩ <;> rcases cases3 γ with ⟨g1, g2⟩ | ⟨g1, g2⟩ | ⟨j, m', g2, g3, g4⟩
      · rw [h2] at hb; rw [g2] at hc; exact hH.inj _ _ _ _ _ _ _ _ _ hb hc
      · rw [h2] at hb; rw [g2] at hc; exact hH.inj _ _ _ _ _ _ _ _ _ hb hc
      · rw [h2] at hb; rw [g4] at hc; subst hc
        have := (htk b (htkn g3)).1; have := hsz hb; omega
      · rw [h2] at hb; rw [g2] at hc; exact hH.inj _ _ _ _ _ _ _ _ _ hb hc
      · rw [h2] at hb; rw [g2] at hc; exact hH.inj _ _ _ _ _ _ _ _ _ hb hc
      · rw [h2] at hb; rw [g4] at hc; subst hc
        have := (htk b (htkn g3)).1; have := hsz hb; omega
      · rw [h4] at hb; subst hb; rw [g2] at hc
        have := (htk b (htkn h3)).1; have := hsz hc; omega
      · rw [h4] at hb; subst hb; rw [g2] at hc
        have := (htk b (htkn h3)).1; have := hsz hc; omega
      · rw [h4] at hb; subst hb; rw [g4] at hc; subst hc
        rw [h2, g2, hent.inj hnd i j _ _ _ _ _ _ _ h3 g3]
    · intro β b o n sz hb
      rcases cases3 β with ⟨h1, h2⟩ | ⟨h1, h2⟩ | ⟨i, m, h2, h3, h4⟩
      · rw [h2] at hb; have := hsz hb; omega
      · rw [h2] at hb; have := hsz hb; omega
      · rw [h4] at hb; subst hb; exact (htk b (htkn h3)).2
    · intro b hb; have := hH.resl b hb; omega
    · intro β b o n sz hb hr
      rcases cases3 β with ⟨h1, h2⟩ | ⟨h1, h2⟩ | ⟨i, m, h2, h3, h4⟩
      · rw [h2] at hb; exact hH.resf _ _ _ _ _ hb hr
      · rw [h2] at hb; exact hH.resf _ _ _ _ _ hb hr
      · rw [h4] at hb; subst hb
        have := (htk b (htkn h3)).1; have := hH.resl b hr; omega
  · exact zdt (hvr (ρ.add H.length ms) hag hfree)
  · rw [hH']; simp
  · intro β hb hc
    rcases cases3 β with ⟨_, h2⟩ | ⟨_, h2⟩ | ⟨i, m, h2, h3, h4⟩
    · rw [h2]; exact hb
    · rw [h2]; exact hb
    · exfalso
      rw [hH'] at hc
      have := (List.getElem?_eq_some_iff.1 h3).1
      simp at hc; omega
  · intro _
    refine ⟨⟨bs, hH'⟩, fun β hc => ?_, fun b hb => hkept b hb⟩
    rcases cases3 β with ⟨_, h2⟩ | ⟨_, h2⟩ | ⟨i, m, h2, h3, h4⟩
    · exact h2
    · exact h2
    · exfalso
      rw [hH'] at hc
      have := (List.getElem?_eq_some_iff.1 h3).1
      simp at hc; omega
theorem EntryOK.tg {P : Program} {f : Nat} {tf : TG} (hok : tf.ok = true) (h : FnSpecG P f tf) (hf : ∃ fn, P.funcs[f]? = some fn ∧ fn.name ≠ "runtime.NumGoroutine" ∧ fn.body.isSome = true) : EntryOK P f tf.te :=
  have hput : ∀ {s : Sh} {y : s.T} {H : Heap}, ∃ Δ, (putS s y H).2 = H ++ Δ := by
    intro s
    induction s with
    | nil => intro y H; exact ⟨[], by simp [putS]⟩
    | cell K f r ih =>
      intro y H
      rcases cellCases K f with hp | ⟨e, rfl, rfl⟩ | ⟨e, n, rfl, rfl⟩
      · rw [zq7 hp]; exact ih
      · obtain ⟨Δ, h⟩ := ih (y := y.2) (H := H ++ [.arr e y.1 0])
        exact ⟨_, by simp only [putS]; rw [h, List.append_assoc]⟩
      · obtain ⟨Δ, h⟩ := ih (y := y.2) (H := H ++ (ownRow H.length n :: innerB e (rowsN n y.1)))
        exact ⟨_, by simp only [putS]; rw [h, List.append_assoc]⟩
    | agg i r ih1 ih2 =>
      intro y H
      obtain ⟨Δ1, h1⟩ := ih1 (y := y.1) (H := H)
      obtain ⟨Δ2, h2⟩ := ih2 (y := y.2) (H := (putS i y.1 H).2)
      exact ⟨Δ1 ++ Δ2, by simp only [putS]; rw [h2, h1, List.append_assoc]⟩
    | ifc t i r ih1 ih2 =>
      intro y H
      obtain ⟨Δ1, h1⟩ := ih1 (y := y.1) (H := H)
      obtain ⟨Δ2, h2⟩ := ih2 (y := y.2) (H := (putS i y.1 H).2)
      exact ⟨Δ1 ++ Δ2, by simp only [putS]; rw [h2, h1, List.append_assoc]⟩
    | fnc g r ih =>
      intro y H
      obtain ⟨Δ, h⟩ := ih (y := y) (H := H)
      exact ⟨Δ, by simp only [putS]; exact h⟩
    | num k n r ih =>
      intro y H
      obtain ⟨Δ, h⟩ := ih (y := y) (H := H)
      exact ⟨Δ, by simp only [putS]; exact h⟩
    | nls r ih =>
      intro y H
      obtain ⟨Δ, h⟩ := ih (y := y) (H := H)
      exact ⟨Δ, by simp only [putS]; exact h⟩
  { snd := zN1 hok h
    fn := hf
    ext := fun _ x y args H v H' hp => by
      have h2 : (putS tf.rs y H).2 = H' := congrArg Prod.snd (Option.some.inj hp)
      rw [← h2]; exact hput
    tch := fun x y args H v H' _ hp => by
      have h2 : (putS tf.rs y H).2 = H' := congrArg Prod.snd (Option.some.inj hp)
      rw [← h2]; exact ext_tch (te := tf.te) (x := x) (y := y) (v := v) hput }
end
end Go.Proofs.YtdgdoeknpakmlaaGreat.Den
namespace Go.Proofs.YtdgdoeknpakmlaaGreat.Den
open Go Go.RowKit
def takeL (e : Kd) : List SV → Heap → Option (List (List e.T) × Heap)
  | [], H => some ([], H)
  | v :: vs, H => match v with
    | .own γ => match H[γ]? with
      | some (.arr e' xs _) => if h : e' = e then (match takeL e vs (H.set γ .dead) with
        | some (l, H2) => some ((h ▸ xs) :: l, H2)
        | none => none) else none
      | _ => none
    | _ => none
def takeR (H : Heap) (n : Nat) (e : Kd) (v : SV) : Option (List (List e.T) × Heap) :=
  match v with
  | .own β => match H[β]? with
    | some (.cells cs _ z) => if z = 1 ∧ cs.length = n ∧ n ≠ 0 then takeL e cs (H.set β .dead) else none
    | _ => none
  | _ => none
def takeS : (s : Sh) → List SV → Heap → Option (List SV × Heap)
  | .nil, [], H => some ([], H)
  | .cell (.list e) 1 r, v :: vs, H => match fixV H e true v with
    | some (.own β, H1) => match H1[β]? with
      | some (.arr e' xs t) => match takeS r vs (H1.set β .dead) with
        | some (l, H2) => some (.es e' xs :: l, H2)
        | none => none
      | _ => none
    | _ => none
  | .cell (.list (.list e)) (n + 2) r, v :: vs, H => match takeR H n e v with
    | some (xs, H1) => match takeS r vs H1 with
      | some (l, H2) => some (.es (.list e) xs :: l, H2)
      | none => none
    | none => none
  | .cell _ _ r, v :: vs, H => match takeS r vs H with
    | some (l, H2) => some (v :: l, H2)
    | none => none
  | .agg i r, v :: vs, H => match v with
    | .agg cs => match takeS i cs H with
      | some (l, H1) => match takeS r vs H1 with
        | some (ls, H2) => some (.agg l :: ls, H2)
        | none => none
      | none => none
    | _ => none
  | .ifc t i r, v :: vs, H => match v with
    | .iface t' c => if t' = t then (match takeS i [c] H with
      | some (l, H1) => match takeS r vs H1 with
        | some (ls, H2) => some (.iface t (l.headD .junk) :: ls, H2)
        | none => none
      | none => none) else none
    | _ => none
  | .fnc g r, v :: vs, H => match takeS r vs H with
    | some (l, H2) => some (v :: l, H2)
    | none => none
  | .num k n r, v :: vs, H => match takeS r vs H with
    | some (l, H2) => some (v :: l, H2)
    | none => none
  | .nls r, v :: vs, H => match takeS r vs H with
    | some (l, H2) => some (v :: l, H2)
    | none => none
  | _, _, _ => none
def outS (s : Sh) (ss : List SV) (H : Heap) : Option s.T :=
  match takeS s ss H with
  | some (ls, H2) => viewS H2 s ls
  | none => none
def endG (rv : List (Nat × Option (Nat × Bool))) (rs : Sh) (ex : Ex) (τ : Env) (H : Heap) : Option rs.T :=
  match ex with
  | .exit _ => none
  | _ => match evalRes τ H rv with
    | some ss => outS rs ss H
    | none => none
def Sh.len : Sh → Nat
  | .nil => 0
  | .cell _ _ r | .agg _ r | .ifc _ _ r | .fnc _ r | .num _ _ r | .nls r => r.len + 1
def TkS (ρ : Map) (w : World) : Sh → List SV → List Value → List Nat → Prop
  | .nil, l, us, tk => l = [] ∧ us = [] ∧ tk = []
  | .cell (.list e) 1 r, l, us, tk => ∃ e' xs l' u us' t1 t2, l = .es e' xs :: l' ∧ us = u :: us' ∧ tk = t1 ++ t2 ∧ OwnAt w (Free ρ w) e' xs u t1 ∧ TkS ρ w r l' us' t2
  | .cell (.list (.list e)) (n + 2) r, l, us, tk => ∃ xs l' u us' t1 t2, l = .es (.list e) xs :: l' ∧ us = u :: us' ∧ tk = t1 ++ t2 ∧ OwnRows w (Free ρ w) e n xs u t1 ∧ TkS ρ w r l' us' t2
  | .cell _ _ r, l, us, tk => ∃ s l' u us', l = s :: l' ∧ us = u :: us' ∧ VRel ρ w s u ∧ TkS ρ w r l' us' tk
  | .agg i r, l, us, tk => ∃ (l1 l' : List SV) (a : Array Value) (us' : List Value) (t1 t2 : List Nat), l = .agg l1 :: l' ∧ us = .agg a :: us' ∧ tk = t1 ++ t2 ∧ TkS ρ w i l1 a.toList t1 ∧ TkS ρ w r l' us' t2
  | .ifc t i r, l, us, tk => ∃ (l1 l' : List SV) (u : Value) (us' : List Value) (t1 t2 : List Nat), l = .iface t (l1.headD .junk) :: l' ∧ us = .iface t u :: us' ∧ tk = t1 ++ t2 ∧ TkS ρ w i l1 [u] t1 ∧ TkS ρ w r l' us' t2
  | .fnc g r, l, us, tk => ∃ s l' u us', l = s :: l' ∧ us = u :: us' ∧ VRel ρ w s u ∧ TkS ρ w r l' us' tk
  | .num k n r, l, us, tk => ∃ s l' u us', l = s :: l' ∧ us = u :: us' ∧ VRel ρ w s u ∧ TkS ρ w r l' us' tk
  | .nls r, l, us, tk => ∃ s l' u us', l = s :: l' ∧ us = u :: us' ∧ VRel ρ w s u ∧ TkS ρ w r l' us' tk
section
variable {P : Program} {w : World} {ρ ρ' : Map} {H H' : Heap}
theorem TkS.plain {K : Kd} {f : Nat} {r : Sh} (hp : plainC K f = true) {l : List SV} {us : List Value} {tk : List Nat} :
    TkS ρ w (.cell K f r) l us tk ↔ ∃ s l' u us', l = s :: l' ∧ us = u :: us' ∧ VRel ρ w s u ∧ TkS ρ w r l' us' tk := by
  unfold plainC at hp
  split at hp
  · cases hp
  · cases hp
  · rename_i h1 h2
    rw [TkS]
    · exact h1
    · exact h2
theorem zN2 {K : Kd} {f : Nat} {r : Sh} (hp : plainC K f = true) {v : SV} {vs : List SV} {H : Heap} : takeS (.cell K f r) (v :: vs) H = (match takeS r vs H with
    | some (l, H2) => some (v :: l, H2)
    | none => none) := by
  unfold plainC at hp
  split at hp
  · cases hp
  · cases hp
  · rename_i h1 h2
    rw [takeS]
    · exact h1
    · exact h2
theorem TkS.step (h : StepF ρ w ρ' w) : ∀ {s : Sh} {l : List SV} {us : List Value} {tk : List Nat}, TkS ρ w s l us tk → TkS ρ' w s l us tk
  | .nil, _, _, _, hr => hr
  | .cell K f r, l, us, tk, hr => by
    rcases cellCases K f with hp | ⟨e, rfl, rfl⟩ | ⟨e, n, rfl, rfl⟩
    · rw [TkS.plain hp] at hr ⊢
      obtain ⟨s, l', u, us', h1, h2, h3, h4⟩ := hr
      exact ⟨s, l', u, us', h1, h2, h3.stepF h, TkS.step h h4⟩
    · simp only [TkS] at hr ⊢
      obtain ⟨e', xs, l', u, us', t1, t2, h1, h2, h3, h4, h5⟩ := hr
      exact ⟨e', xs, l', u, us', t1, t2, h1, h2, h3, h4.mono h.free, TkS.step h h5⟩
    · simp only [TkS] at hr ⊢
      obtain ⟨xs, l', u, us', t1, t2, h1, h2, h3, h4, h5⟩ := hr
      exact ⟨xs, l', u, us', t1, t2, h1, h2, h3, h4.mono (.inl h.free), TkS.step h h5⟩
  | .agg i r, l, us, tk, hr => by
    simp only [TkS] at hr ⊢
    obtain ⟨l1, l', a, us', t1, t2, h1, h2, h3, h4, h5⟩ := hr
    exact ⟨l1, l', a, us', t1, t2, h1, h2, h3, TkS.step h h4, TkS.step h h5⟩
  | .ifc t i r, l, us, tk, hr => by
    simp only [TkS] at hr ⊢
    obtain ⟨l1, l', u, us', t1, t2, h1, h2, h3, h4, h5⟩ := hr
    exact ⟨l1, l', u, us', t1, t2, h1, h2, h3, TkS.step h h4, TkS.step h h5⟩
  | .fnc g r, l, us, tk, hr => by
    simp only [TkS] at hr ⊢
    obtain ⟨s, l', u, us', h1, h2, h3, h4⟩ := hr
    exact ⟨s, l', u, us', h1, h2, h3.stepF h, TkS.step h h4⟩
  | .num k n r, l, us, tk, hr => by
    simp only [TkS] at hr ⊢
    obtain ⟨s, l', u, us', h1, h2, h3, h4⟩ := hr
    exact ⟨s, l', u, us', h1, h2, h3.stepF h, TkS.step h h4⟩
  | .nls r, l, us, tk, hr => by
    simp only [TkS] at hr ⊢
    obtain ⟨s, l', u, us', h1, h2, h3, h4⟩ := hr
    exact ⟨s, l', u, us', h1, h2, h3.stepF h, TkS.step h h4⟩
theorem zl9 {e : Kd} : ∀ {cs : List SV} {xs : List (List e.T)} {us : List Value} {ρ : Map} {H H' : Heap}, HRel ρ H w → (∀ β, H.length ≤ β → ρ β = .unborn) → VRels ρ w cs us → takeL e cs H = some (xs, H') →
    ∃ ρ' tk, Gave ρ H w ρ' H' tk ∧ xs.length = cs.length ∧ OwnL w (Free ρ' w) e xs us tk
  | [], xs, us, ρ, H, H', hH, hu, hv, he => by
    simp only [takeL, Option.some.injEq, Prod.mk.injEq] at he
    obtain ⟨rfl, rfl⟩ := he
    simp only [VRels] at hv; subst hv
    exact ⟨ρ, [], Gave.refl hH hu, rfl, rfl, rfl⟩
  | s :: ss, xs, us, ρ, H, H', hH, hu, hv, he => by
    simp only [takeL] at he
    simp only [VRels] at hv
    obtain ⟨u, us', rfl, hv1, hv2⟩ := hv
    split at he
    · rename_i γ
      split at he
      · rename_i e' ys t hb
        have hlt : γ < H.length := (List.getElem?_eq_some_iff.1 hb).1
        split at he
        · rename_i hee
          subst hee
          split at he
          · rename_i l2 H2 h2
            simp only [Option.some.injEq, Prod.mk.injEq] at he
            obtain ⟨rfl, rfl⟩ := he
            rcases own_rel hH hb (by simp) hv1 with ⟨hr, ad, rfl⟩ | ⟨b, o, n, sz, c, hr, hc, rfl, hroom⟩
            · have := za2 hH hb hr; subst this
              have g2 := Gave.of_none hH hu hlt
              obtain ⟨ρ3, tk3, g3, h3, h4⟩ := zl9 g2.h g2.u (hv2.stepF g2.st) h2
              exact ⟨ρ3, tk3, by simpa using g2.trans g3, by simp [h3], _, us', [], tk3, rfl, rfl, .inl ⟨rfl, rfl, ad, rfl⟩, h4⟩
            · have g2 := Gave.of_take hH hu hlt hr
              obtain ⟨ρ3, tk3, g3, h3, h4⟩ := zl9 g2.h g2.u (hv2.stepF g2.st) h2
              obtain ⟨rfl, rfl, C, tC, hC, hle, hrow⟩ := row_raw hH hb hr
              obtain ⟨C2, t2, hC2, hroom⟩ := hroom
              rw [hC] at hC2
              simp only [Option.some.injEq, Obj.cells.injEq] at hC2
              obtain ⟨rfl, _⟩ := hC2
              refine ⟨ρ3, b :: tk3, by simpa using g2.trans g3, by simp [h3], _, us', [b], tk3, rfl, rfl, .inr ⟨b, o, c, C, tC, rfl, rfl, hc, hC, hroom, fun i x hx => ?_⟩, h4⟩
              obtain ⟨es, h5, h6⟩ := hrow i x hx
              exact ⟨es, CRel.mono (fun b hb => g3.st.free b (g2.st.free b hb)) (fun _ _ => rfl) h5, h6⟩
          · simp at he
        · simp at he
      · simp at he
    · simp at he
theorem zdv {α : Type} {xs : List (List α)} : rowsN xs.length xs = xs := by
  unfold rowsN
  refine List.ext_getElem (by simp) fun i h1 h2 => ?_
  simp [List.getD_eq_getElem?_getD, List.getElem?_eq_getElem h2]
theorem zN3 {e : Kd} {n : Nat} {v : SV} {u : Value} {xs : List (List e.T)} (hH : HRel ρ H w) (hu : ∀ β, H.length ≤ β → ρ β = .unborn) (hv : VRel ρ w v u) (he : takeR H n e v = some (xs, H')) :
    ∃ ρ' tk, Gave ρ H w ρ' H' tk ∧ OwnRows w (Free ρ' w) e n xs u tk := by
  unfold takeR at he
  split at he
  · rename_i β
    split at he
    · rename_i cs t z hb
      split at he
      · rename_i hc
        obtain ⟨rfl, hn, hn0⟩ := hc
        have hlt : β < H.length := (List.getElem?_eq_some_iff.1 hb).1
        rcases own_rel hH hb (by simp) hv with ⟨hr, ad, rfl⟩ | ⟨b, o, n', sz, c, hr, hc, rfl, hroom⟩
        · have := zbM hH hb hr; subst this
          exact absurd hn.symm (by simpa using hn0)
        · obtain ⟨C, tC, hC, h1, h2, h3, h4, _⟩ := zB hH hb hr
          subst h1
          have g2 := Gave.of_take hH hu hlt hr
          obtain ⟨ρ3, tk3, g3, h5, h6⟩ := zl9 g2.h g2.u (h4.stepF g2.st) he
          obtain ⟨C2, t2, hC2, hroom⟩ := hroom
          rw [hC] at hC2
          simp only [Option.some.injEq, Obj.cells.injEq] at hC2
          obtain ⟨rfl, _⟩ := hC2
          have hnn : n' = n := by omega
          subst hnn
          have hxl : xs.length = n' := by omega
          refine ⟨ρ3, b :: tk3, by simpa using g2.trans g3, b, o, c, C, tC, (C.toList.drop o).take cs.length, tk3, rfl, rfl, hc, hC, hroom, ?_, fun i v hv => ?_, ?_⟩
          · have := h4.length; omega
          · rw [List.getElem?_take] at hv
            split at hv
            · rw [List.getElem?_drop, Array.getElem?_toList] at hv; exact hv
            · simp at hv
          · rw [← hxl, zdv]; exact h6
      · simp at he
    · simp at he
  · simp at he
theorem zI : ∀ {s : Sh} {ss l : List SV} {us : List Value} {ρ : Map} {H H' : Heap}, HRel ρ H w → (∀ β, H.length ≤ β → ρ β = .unborn) → VRels ρ w ss us → takeS s ss H = some (l, H') →
    ∃ ρ' tk, Gave ρ H w ρ' H' tk ∧ TkS ρ' w s l us tk
  | .nil, [], l, us, ρ, H, H', hH, hu, hv, he => by
    simp only [takeS, Option.some.injEq, Prod.mk.injEq] at he
    obtain ⟨rfl, rfl⟩ := he
    simp only [VRels] at hv; subst hv
    exact ⟨ρ, [], Gave.refl hH hu, rfl, rfl, rfl⟩
  | .nil, _ :: _, l, us, ρ, H, H', hH, hu, hv, he => by simp [takeS] at he
  | .cell K f r, [], l, us, ρ, H, H', hH, hu, hv, he | .agg i r, [], l, us, ρ, H, H', hH, hu, hv, he | .ifc t i r, [], l, us, ρ, H, H', hH, hu, hv, he | .fnc g r, [], l, us, ρ, H, H', hH, hu, hv, he | .num k n r, [], l, us, ρ, H, H', hH, hu, hv, he | .nls r, [], l, us, ρ, H, H', hH, hu, hv, he => by
    simp [takeS] at he
  | .cell K f r, s :: ss, l, us, ρ, H, H', hH, hu, hv, he => by
    simp only [VRels] at hv
    obtain ⟨u, us', rfl, hv1, hv2⟩ := hv
    rcases cellCases K f with hp | ⟨e, rfl, rfl⟩ | ⟨e, n, rfl, rfl⟩
    · rw [zN2 hp] at he
      split at he
      · rename_i l2 H2 h2
        simp only [Option.some.injEq, Prod.mk.injEq] at he
        obtain ⟨rfl, rfl⟩ := he
        obtain ⟨ρ3, tk3, g3, h3⟩ := zI hH hu hv2 h2
        refine ⟨ρ3, tk3, g3, ?_⟩
        rw [TkS.plain hp]
        exact ⟨s, l2, u, us', rfl, rfl, hv1.stepF g3.st, h3⟩
      · simp at he
    · simp only [takeS] at he
      split at he
      · rename_i β H1 hf
        obtain ⟨ρ1, hg⟩ := zl2 hH hv1 (hu _ (Nat.le_refl _)) hf
        have g1 := Gave.of_good hg hH hu
        split at he
        · rename_i e' xs t hb
          have hlt : β < H1.length := (List.getElem?_eq_some_iff.1 hb).1
          split at he
          · rename_i l2 H2 h2
            simp only [Option.some.injEq, Prod.mk.injEq] at he
            obtain ⟨rfl, rfl⟩ := he
            rcases own_rel hg.hrel hb (by simp) hg.vrel with ⟨hr, ad, rfl⟩ | ⟨b, o, n, sz, c, hr, hc, rfl, hroom⟩
            · have := za2 hg.hrel hb hr; subst this
              have g2 := Gave.of_none g1.h g1.u hlt
              obtain ⟨ρ3, tk3, g3, h3⟩ := zI g2.h g2.u ((hv2.stepF g1.st).stepF g2.st) h2
              refine ⟨ρ3, tk3, by simpa using (g1.trans g2).trans g3, ?_⟩
              simp only [TkS]
              exact ⟨e', [], l2, _, us', [], tk3, rfl, rfl, rfl, .inl ⟨rfl, rfl, ad, rfl⟩, h3⟩
            · have g2 := Gave.of_take g1.h g1.u hlt hr
              obtain ⟨ρ3, tk3, g3, h3⟩ := zI g2.h g2.u ((hv2.stepF g1.st).stepF g2.st) h2
              refine ⟨ρ3, b :: tk3, by simpa using (g1.trans g2).trans g3, ?_⟩
              obtain ⟨rfl, rfl, C, tC, hC, hle, hrow⟩ := row_raw hg.hrel hb hr
              obtain ⟨C2, t2, hC2, hroom⟩ := hroom
              rw [hC] at hC2
              simp only [Option.some.injEq, Obj.cells.injEq] at hC2
              obtain ⟨rfl, _⟩ := hC2
              simp only [TkS]
              refine ⟨e', xs, l2, _, us', [b], tk3, rfl, rfl, rfl, .inr ⟨b, o, c, C, tC, rfl, rfl, hc, hC, hroom, fun i x hx => ?_⟩, h3⟩
              obtain ⟨es, h4, h5⟩ := hrow i x hx
              exact ⟨es, CRel.mono (fun b hb => g3.st.free b (g2.st.free b hb)) (fun _ _ => rfl) h4, h5⟩
          · simp at he
        · simp at he
      · simp at he
    · simp only [takeS] at he
      split at he
      · rename_i xs H1 h1
        split at he
        · rename_i l2 H2 h2
          simp only [Option.some.injEq, Prod.mk.injEq] at he
          obtain ⟨rfl, rfl⟩ := he
          obtain ⟨ρ1, t1, g1, h3⟩ := zN3 hH hu hv1 h1
          obtain ⟨ρ2, t2, g2, h4⟩ := zI g1.h g1.u (hv2.stepF g1.st) h2
          refine ⟨ρ2, t1 ++ t2, g1.trans g2, ?_⟩
          simp only [TkS]
          exact ⟨xs, l2, u, us', t1, t2, rfl, rfl, rfl, h3.mono (.inl g2.st.free), h4⟩
        · simp at he
      · simp at he
  | .agg i r, s :: ss, l, us, ρ, H, H', hH, hu, hv, he => by
    simp only [takeS] at he
    simp only [VRels] at hv
    obtain ⟨u, us', rfl, hv1, hv2⟩ := hv
    split at he
    · rename_i cs
      simp only [VRel] at hv1
      obtain ⟨a, rfl, hv1⟩ := hv1
      split at he
      · rename_i l1 H1 h1
        split at he
        · rename_i l2 H2 h2
          simp only [Option.some.injEq, Prod.mk.injEq] at he
          obtain ⟨rfl, rfl⟩ := he
          obtain ⟨ρ1, t1, g1, h3⟩ := zI hH hu hv1 h1
          obtain ⟨ρ2, t2, g2, h4⟩ := zI g1.h g1.u (hv2.stepF g1.st) h2
          exact ⟨ρ2, t1 ++ t2, g1.trans g2, l1, l2, a, us', t1, t2, rfl, rfl, rfl, h3.step g2.st, h4⟩
        · simp at he
      · simp at he
    · simp at he
  | .ifc t i r, s :: ss, l, us, ρ, H, H', hH, hu, hv, he => by
    simp only [takeS] at he
    simp only [VRels] at hv
    obtain ⟨u, us', rfl, hv1, hv2⟩ := hv
    split at he
    · rename_i t' c
      split at he
      · rename_i ht
        subst ht
        simp only [VRel] at hv1
        obtain ⟨a, rfl, hv1⟩ := hv1
        split at he
        · rename_i l1 H1 h1
          split at he
          · rename_i l2 H2 h2
            simp only [Option.some.injEq, Prod.mk.injEq] at he
            obtain ⟨rfl, rfl⟩ := he
            obtain ⟨ρ1, t1, g1, h3⟩ := zI hH hu (VRels.single hv1) h1
            obtain ⟨ρ2, t2, g2, h4⟩ := zI g1.h g1.u (hv2.stepF g1.st) h2
            exact ⟨ρ2, t1 ++ t2, g1.trans g2, l1, l2, a, us', t1, t2, rfl, rfl, rfl, h3.step g2.st, h4⟩
          · simp at he
        · simp at he
      · simp at he
    · simp at he
  | .fnc g r, s :: ss, l, us, ρ, H, H', hH, hu, hv, he => by
    simp only [takeS] at he
    simp only [VRels] at hv
    obtain ⟨u, us', rfl, hv1, hv2⟩ := hv
    split at he
    · rename_i l2 H2 h2
      simp only [Option.some.injEq, Prod.mk.injEq] at he
      obtain ⟨rfl, rfl⟩ := he
      obtain ⟨ρ3, tk3, g3, h3⟩ := zI hH hu hv2 h2
      exact ⟨ρ3, tk3, g3, s, l2, u, us', rfl, rfl, hv1.stepF g3.st, h3⟩
    · simp at he
  | .num k n r, s :: ss, l, us, ρ, H, H', hH, hu, hv, he => by
    simp only [takeS] at he
    simp only [VRels] at hv
    obtain ⟨u, us', rfl, hv1, hv2⟩ := hv
    split at he
    · rename_i l2 H2 h2
      simp only [Option.some.injEq, Prod.mk.injEq] at he
      obtain ⟨rfl, rfl⟩ := he
      obtain ⟨ρ3, tk3, g3, h3⟩ := zI hH hu hv2 h2
      exact ⟨ρ3, tk3, g3, s, l2, u, us', rfl, rfl, hv1.stepF g3.st, h3⟩
    · simp at he
  | .nls r, s :: ss, l, us, ρ, H, H', hH, hu, hv, he => by
    simp only [takeS] at he
    simp only [VRels] at hv
    obtain ⟨u, us', rfl, hv1, hv2⟩ := hv
    split at he
    · rename_i l2 H2 h2
      simp only [Option.some.injEq, Prod.mk.injEq] at he
      obtain ⟨rfl, rfl⟩ := he
      obtain ⟨ρ3, tk3, g3, h3⟩ := zI hH hu hv2 h2
      exact ⟨ρ3, tk3, g3, s, l2, u, us', rfl, rfl, hv1.stepF g3.st, h3⟩
    · simp at he
theorem TkS.len : ∀ {s : Sh} {l : List SV} {us : List Value} {tk : List Nat}, TkS ρ w s l us tk → l.length = us.length
  | .nil, l, us, tk, h => by simp only [TkS] at h; rw [h.1, h.2.1]; rfl
  | .cell K f r, l, us, tk, h => by
    rcases cellCases K f with hp | ⟨e, rfl, rfl⟩ | ⟨e, n, rfl, rfl⟩
    · rw [TkS.plain hp] at h
      obtain ⟨s, l', u, us', rfl, rfl, _, h4⟩ := h
      simp [h4.len]
    · simp only [TkS] at h
      obtain ⟨e', xs, l', u, us', t1, t2, rfl, rfl, _, _, h5⟩ := h
      simp [h5.len]
    · simp only [TkS] at h
      obtain ⟨xs, l', u, us', t1, t2, rfl, rfl, _, _, h5⟩ := h
      simp [h5.len]
  | .agg i r, l, us, tk, h => by
    simp only [TkS] at h
    obtain ⟨l1, l', a, us', t1, t2, rfl, rfl, _, _, h5⟩ := h
    simp [h5.len]
  | .ifc t i r, l, us, tk, h => by
    simp only [TkS] at h
    obtain ⟨l1, l', a, us', t1, t2, rfl, rfl, _, _, h5⟩ := h
    simp [h5.len]
  | .fnc g r, l, us, tk, h => by
    simp only [TkS] at h
    obtain ⟨s, l', u, us', rfl, rfl, _, h4⟩ := h
    simp [h4.len]
  | .num k n r, l, us, tk, h => by
    simp only [TkS] at h
    obtain ⟨s, l', u, us', rfl, rfl, _, h4⟩ := h
    simp [h4.len]
  | .nls r, l, us, tk, h => by
    simp only [TkS] at h
    obtain ⟨s, l', u, us', rfl, rfl, _, h4⟩ := h
    simp [h4.len]
theorem zU {B : Nat → Prop} (hB : ∀ b, Free ρ w b → B b) (hd : ∀ {K : Kd} {s : SV} {x : K.T} {u : Value}, decH true H K [s] = some x → VRel ρ w s u → CRel w B K x [u]) :
    ∀ {s : Sh} {l : List SV} {x : s.T} {us : List Value} {tk : List Nat}, viewS H s l = some x → TkS ρ w s l us tk → ShOut w B s x us tk
  | .nil, l, x, us, tk, h, ht => by
    simp only [TkS] at ht
    exact ⟨ht.2.1, ht.2.2⟩
  | .cell K f r, l, x, us, tk, h, ht => by
    rcases cellCases K f with hp | ⟨e, rfl, rfl⟩ | ⟨e, n, rfl, rfl⟩
    · rw [TkS.plain hp] at ht
      obtain ⟨s, l', u, us', rfl, rfl, h4, h5⟩ := ht
      simp only [viewS] at h
      split at h
      · rename_i y z h1 h2
        simp only [Option.some.injEq] at h; subst h
        rw [ShOut.plain hp]
        exact ⟨u, us', rfl, hd h1 h4, zU hB hd h2 h5⟩
      · simp at h
    · simp only [TkS] at ht
      obtain ⟨e', xs, l', u, us', t1, t2, rfl, rfl, rfl, h4, h5⟩ := ht
      simp only [viewS] at h
      split at h
      · rename_i y z h1 h2
        simp only [Option.some.injEq] at h; subst h
        unfold decH at h1
        simp only at h1
        split at h1
        · rename_i he
          subst he
          simp only [Option.some.injEq] at h1; subst h1
          simp only [ShOut]
          exact ⟨u, us', t1, t2, rfl, rfl, h4.mono hB, zU hB hd h2 h5⟩
        · simp at h1
      · simp at h
    · simp only [TkS] at ht
      obtain ⟨xs, l', u, us', t1, t2, rfl, rfl, rfl, h4, h5⟩ := ht
      simp only [viewS] at h
      split at h
      · rename_i y z h1 h2
        simp only [Option.some.injEq] at h; subst h
        unfold decH at h1
        simp only [dite_true, Option.some.injEq] at h1
        subst h1
        simp only [ShOut]
        exact ⟨u, us', t1, t2, rfl, rfl, h4.mono (.inl hB), zU hB hd h2 h5⟩
      · simp at h
  | .agg i r, l, x, us, tk, h, ht => by
    simp only [TkS] at ht
    obtain ⟨l1, l', a, us', t1, t2, rfl, rfl, rfl, h4, h5⟩ := ht
    simp only [viewS] at h
    split at h
    · rename_i y z h1 h2
      simp only [Option.some.injEq] at h; subst h
      exact ⟨a, us', t1, t2, rfl, rfl, zU hB hd h1 h4, zU hB hd h2 h5⟩
    · simp at h
  | .ifc t i r, l, x, us, tk, h, ht => by
    simp only [TkS] at ht
    obtain ⟨l1, l', a, us', t1, t2, rfl, rfl, rfl, h4, h5⟩ := ht
    simp only [viewS, if_true] at h
    split at h
    · rename_i y z h1 h2
      simp only [Option.some.injEq] at h; subst h
      have hl := h4.len
      match l1, hl, h4, h1 with
      | [s], _, h4, h1 => exact ⟨a, us', t1, t2, rfl, rfl, zU hB hd h1 h4, zU hB hd h2 h5⟩
    · simp at h
  | .fnc g r, l, x, us, tk, h, ht => by
    simp only [TkS] at ht
    obtain ⟨s, l', u, us', rfl, rfl, h4, h5⟩ := ht
    simp only [viewS] at h
    split at h
    · rename_i g'
      split at h
      · rename_i hg
        subst hg
        simp only [VRel] at h4
        obtain ⟨vf, vc, rfl, h6, h7⟩ := h4
        have e1 : vf = #[] := Array.toList_inj.1 (by simpa [VRels] using h6)
        have e2 : vc = #[] := Array.toList_inj.1 (by simpa [VRels] using h7)
        subst e1; subst e2
        exact ⟨us', rfl, zU hB hd h h5⟩
      · simp at h
    · simp at h
  | .num k n r, l, x, us, tk, h, ht => by
    simp only [TkS] at ht
    obtain ⟨s, l', u, us', rfl, rfl, h4, h5⟩ := ht
    simp only [viewS] at h
    split at h
    · split at h
      · rename_i hg
        obtain ⟨rfl, rfl⟩ := hg
        simp only [VRel] at h4
        subst h4
        exact ⟨us', rfl, zU hB hd h h5⟩
      · simp at h
    · simp at h
  | .nls r, l, x, us, tk, h, ht => by
    simp only [TkS] at ht
    obtain ⟨s, l', u, us', rfl, rfl, h4, h5⟩ := ht
    simp only [viewS] at h
    split at h
    · simp only [VRel] at h4
      obtain ⟨a, rfl⟩ := h4
      exact ⟨a, us', rfl, zU hB hd h h5⟩
    · simp at h
theorem svS_len : ∀ {s : Sh} {x : s.T}, (svS s x).length = s.len
  | .nil, _ => rfl
  | .cell K f r, x => by simp [svS, Sh.len, svS_len (s := r)]
  | .agg i r, x => by simp [svS, Sh.len, svS_len (s := r)]
  | .ifc t i r, x => by simp [svS, Sh.len, svS_len (s := r)]
  | .fnc g r, x => by simp [svS, Sh.len, svS_len (s := r)]
  | .num k n r, x => by simp [svS, Sh.len, svS_len (s := r)]
  | .nls r, x => by simp [svS, Sh.len, svS_len (s := r)]
theorem ze {T : Tab} {f : FuncId} {fn : Func} {c : Code} {tf : TG} {frz : List Nat} {ann : List Norm} {cuts : List (Nat × Norm)} {ci : C} {j fuel : Nat} {rv : List (Nat × Option (Nat × Bool))} (hT : TabOK P T) (hmix : P.follows .mixedOrders = true)
    (hf : P.funcs[f]? = some fn) (hb : fn.body = some c) (hl : lightC P frz fn.ntmps ann cuts 0 c = some (ci, j)) (ho : okC T c ci = true) (hn : tf.ps.len ≤ fn.ntmps) (hrv : lightRes P fn.results.toList = some rv)
    (hrun : ∀ x y, tf.fn x = some y → run T 0 fuel ci (env0 (svS tf.ps x) 0) [] (endG rv tf.rs) = some y) : FnSpecG P f tf := by
  intro w res vs x y hres hps hy
  refine calls_of_wp hf hb ?_
  let ρ0 : Map := ⟨fun _ => .unborn, res, fun _ => none⟩
  have hv : VRels ρ0 w (svS tf.ps x) vs := svS_rel (fun b hb => ⟨hb.1, fun h => hb.2 (res_new.1 h), fun _ _ _ _ h => by cases h⟩) hps
  have hvl := hv.length
  rw [svS_len] at hvl
  have hat : At P fn.ntmps ρ0 [] w (env0 (svS tf.ps x) 0) { tmps := vs.toArray ++ Array.replicate (fn.ntmps - vs.toArray.size) undef, defers := [] } := by
    refine ⟨⟨by simp; omega, rfl, fun n => ?_⟩, ?_, fun _ _ => rfl⟩
    · rw [zaF]
      simp only [Nat.zero_le, if_true, Nat.sub_zero]
      split
      · rename_i s hs
        obtain ⟨u, h1, h2⟩ := hv.get n s hs
        have : (vs.toArray ++ Array.replicate (fn.ntmps - vs.toArray.size) undef).getD n undef = u := by
          rw [Array.getD_eq_getD_getElem?, Array.getElem?_append_left (by have := (List.getElem?_eq_some_iff.1 h1).1; simpa using this)]
          simp [h1]
        rw [this]; exact h2
      · simp [VRel]
    · exact ⟨fun β h => by simp at h, fun β h => by simp at h, fun β h => by simp at h, fun _ _ _ _ _ _ _ _ _ h => by (cases h), fun _ _ _ _ _ h => by (cases h), fun b hb => hres b (res_new.1 hb), fun _ _ _ _ _ h => by (cases h)⟩
  have hrun' := hrun x y hy
  refine zaD hT hmix c hl ho hat hrun' fun ex τ' H' ρ' a' w' h1 h2 h3 => ?_
  have key : (evalRes τ' H' rv).bind (fun ss => outS tf.rs ss H') = some y → a'.defers = [] ∧ ∃ v, (results fn a'.tmps).run P w' = .ok v w' ∧ (fun e w' => ∃ us tk, e = Ending.returned (resU us) ∧ w'.os = w.os ∧ w'.tape = w.tape ∧ w'.output = w.output ∧ w.heap.size ≤ w'.heap.size ∧ (∀ b, b < w.heap.size → w'.heap[b]? = w.heap[b]?) ∧
      tk.Nodup ∧ (∀ b ∈ tk, w.heap.size ≤ b ∧ b < w'.heap.size) ∧ ShOut w' (fun b => b < w'.heap.size ∧ ¬ res b ∧ b ∉ tk) tf.rs y us.toList tk) (Ending.returned v) w' := by
    intro h4
    rw [Option.bind_eq_some_iff] at h4
    obtain ⟨ss, h5, h6⟩ := h4
    unfold outS at h6
    split at h6
    · rename_i ls H2 h7
      obtain ⟨us, h8, h9⟩ := zaE h1.t h1.h hrv h5
      obtain ⟨ρ2, tk, g, h10⟩ := zI h1.h h1.u h9 h7
      have hout := zU (B := fun b => Free ρ2 w' b ∨ (∃ β o n sz, ρ2 β = .at b o n sz) ∨ ρ2.vl b ≠ none) (fun b hb => .inl hb) (fun {K s x u} h11 h12 =>
        zh g.h (fun b hb => .inl hb) (fun _ b t hv => .inr (.inr (by rw [hv]; simp))) (fun γ b o n sz _ hg => .inr (.inl ⟨γ, o, n, sz, hg⟩)) h11 (VRels.single h12)) h6 h10
      have hr0 : ∀ b, res b → ρ'.res b := fun b hb => .inl (by rw [h2.res]; exact hb)
      have hvn : ∀ b, ρ2.vl b ≠ none → ρ'.res b ∧ ¬ res b := fun b hb => by
        rw [g.vl] at hb
        exact ⟨.inr hb, fun hr => hb (h2.vl b (hres b hr))⟩
      refine ⟨h1.t.2.1, resU us, h8, us, tk, rfl, h2.os, h2.tape, h2.output, h2.size, fun b hb => h2.kept b hb (fun _ _ _ _ h => by (cases h)) rfl, g.nd, fun b hb => ?_, ?_⟩
      · obtain ⟨_, β, o, n, sz, hg⟩ := g.tks b hb
        refine ⟨?_, h1.h.lt _ _ _ _ _ hg⟩
        rcases h2.img β b o n sz hg with ⟨_, _, _, _, h⟩ | h
        · cases h
        · exact h
      · refine ShOut.mono (.inl fun b hb => ?_) hout
        have old : b < w'.heap.size → ¬ ρ2.res b → b < w'.heap.size ∧ ¬ res b ∧ b ∉ tk := fun h h' => ⟨h, fun h => h' (g.res b (hr0 b h)), fun h => h' (g.tks b h).1⟩
        rcases hb with hb | ⟨β, o, n, sz, hb⟩ | hb
        · exact old hb.1 hb.2.1
        · exact old (g.h.lt _ _ _ _ _ hb) (g.h.resf _ _ _ _ _ hb)
        · refine ⟨g.h.resl b (.inr hb), (hvn b hb).2, fun h => ?_⟩
          obtain ⟨_, β, o, n, sz, h12⟩ := g.tks b h
          exact h1.h.resf _ _ _ _ _ h12 (hvn b hb).1
    · simp at h6
  cases ex with
  | exit id => simp [endG] at h3
  | normal =>
    refine key ?_
    simp only [endG] at h3
    split at h3
    · rename_i ss h4; rw [h4]; exact h3
    · simp at h3
  | ret =>
    refine key ?_
    simp only [endG] at h3
    split at h3
    · rename_i ss h4; rw [h4]; exact h3
    · simp at h3
end
end Go.Proofs.YtdgdoeknpakmlaaGreat.Den
namespace Go.Proofs.YtdgdoeknpakmlaaGreat.Den
open Go Go.RowKit
structure TFT where
  e : Kd
  ag : Bool
  cs : List (Kd × Bool)
  ps : Sh
  rs : List Pm
  al : Bool
  fn : List e.T × CsT cs × ps.T → Option (List e.T × PsT rs)
def TFT.te (tf : TFT) : TE where
  X := List tf.e.T × CsT tf.cs × tf.ps.T
  Y := List tf.e.T × PsT tf.rs
  mono := false
  view args H := match args with
    | a :: r => match firstOf tf.ag a with
      | some (β, ss) => match Rf.view [] (.arr tf.e 0) H[β]?, viewCs [] tf.cs ss, viewS [] tf.ps r with
        | some c, some d, some x => some (c, d, x)
        | _, _, _ => none
      | none => none
    | _ => none
  fn := tf.fn
  put _ y args H := match args with
    | a :: _ => match firstOf tf.ag a with
      | some (β, _) => match tf.al with
        | true => some (.own β, H.set β (.arr tf.e y.1 0))
        | false => some (resV (putPs tf.rs y.2 (H.set β (.arr tf.e y.1 0))).1, (putPs tf.rs y.2 (H.set β (.arr tf.e y.1 0))).2)
      | none => none
    | _ => none
def FnSpecT (P : Program) (f : FuncId) (tf : TFT) : Prop :=
  ∀ (w : World) (res : Nat → Prop) (u0 : Value) (us2 vs : List Value) (m : Img) (c c' : List tf.e.T) (d : CsT tf.cs) (x : tf.ps.T) (y : PsT tf.rs), (∀ b, res b → b < w.heap.size) →
    SlIn w (fun b' => b' < w.heap.size ∧ ¬ res b' ∧ ¬ m.has b') res tf.e c u0 m →
    CsRel w (fun b' => b' < w.heap.size ∧ ¬ res b' ∧ ¬ m.has b') tf.cs d us2 →
    ShRel w (fun b' => b' < w.heap.size ∧ ¬ res b' ∧ ¬ m.has b') tf.ps x vs → tf.fn (c, d, x) = some (c', y) →
    Calls P f (firstU tf.ag u0 us2 :: vs).toArray w fun e w' => ∃ us tk, e = .returned (resU us) ∧ w'.os = w.os ∧ w'.tape = w.tape ∧ w'.output = w.output ∧ w.heap.size ≤ w'.heap.size ∧ (∀ b', b' < w.heap.size → ¬ m.has b' → w'.heap[b']? = w.heap[b']?) ∧
      (∀ (b : Nat) C t fr, w.heap[b]? = some (.cells C t fr) → ∃ C', w'.heap[b]? = some (.cells C' t fr) ∧ C'.size = C.size) ∧
      tk.Nodup ∧ (∀ b ∈ tk, w.heap.size ≤ b ∧ b < w'.heap.size) ∧ (match tf.al with
        | true => tk = [] ∧ ∃ u, us = #[u] ∧ OwnV w' m u
        | false => PsOut w' (fun b' => b' < w'.heap.size ∧ ¬ res b' ∧ ¬ m.has b' ∧ b' ∉ tk) tf.rs y us.toList tk) ∧
      SlOut w' (fun b' => b' < w'.heap.size ∧ ¬ res b' ∧ ¬ m.has b' ∧ b' ∉ tk) tf.e c' c m
section
variable {P : Program} {w : World} {ρ ρ' : Map} {H H' : Heap}
theorem za7 {T : Tab} {f : FuncId} {fn : Func} {c : Code} {tf : TFT} {frz : List Nat} {ann : List Norm} {cuts : List (Nat × Norm)} {ci : C} {j fuel : Nat} {rv : List (Nat × Option (Nat × Bool))} (hT : TabOK P T) (hmix : P.follows .mixedOrders = true)
    (hf : P.funcs[f]? = some fn) (hb : fn.body = some c) (hl : lightC P frz fn.ntmps ann cuts 0 c = some (ci, j)) (ho : okC T c ci = true) (hn : tf.ps.len + 1 ≤ fn.ntmps) (hrv : lightRes P fn.results.toList = some rv)
    (hrun : ∀ c d x, run T 1 fuel ci ((0, firstV tf.ag 0 (svCs tf.cs d)) :: env0 (svS tf.ps x) 1) [.arr tf.e c 0] (endS rv tf.e tf.al tf.rs) = tf.fn (c, d, x)) : FnSpecT P f tf := by
  intro w res u0 us2 vs m cc cc' d x y hres hsl hcd hps hy
  refine calls_of_wp hf hb ?_
  let ρ0 : Map := ⟨fun β => if β = 0 then m else .unborn, res, fun _ => none⟩
  have hm0 : ρ0 0 = m := by simp [ρ0]
  have hi0 : ∀ {β b' o' n' sz'}, ρ0 β = .at b' o' n' sz' → β = 0 ∧ m = .at b' o' n' sz' := by
    intro β b' o' n' sz' h
    simp only [ρ0] at h
    split at h
    · rename_i e; exact ⟨e, h⟩
    · cases h
  have hmb : ∀ {b o n sz}, m = .at b o n sz → b < w.heap.size ∧ ¬ res b ∧ n = cc.length ∧ sz = tf.e.sz ∧ RefAt w (fun b' => b' < w.heap.size ∧ ¬ res b' ∧ ¬ m.has b') (.arr tf.e 0) cc b o := by
    intro b o n sz e
    rcases hsl with ⟨h1, _⟩ | ⟨b1, o1, cp, h1, _, _, _, h2, h3⟩
    · rw [e] at h1; cases h1
    · have h1' := h1
      rw [e] at h1; injection h1 with e1 e2 e3 e4
      subst e1; subst e2
      exact ⟨h3.lt, h2, e3, e4, h3⟩
  have hmd : m ≠ .dead ∧ m ≠ .unborn := by
    rcases hsl with ⟨h1, _⟩ | ⟨b1, o1, cp, h1, _⟩ <;> rw [h1] <;> simp
  have hfree0 : ∀ b', (b' < w.heap.size ∧ ¬ res b' ∧ ¬ m.has b') → Free ρ0 w b' := fun b' hb => ⟨hb.1, fun h => hb.2.1 (res_new.1 h), fun β o' n' sz' h => hb.2.2 ⟨_, _, _, (hi0 h).2⟩⟩
  have hv : VRels ρ0 w (firstV tf.ag 0 (svCs tf.cs d) :: svS tf.ps x) (firstU tf.ag u0 us2 :: vs) := by
    simp only [VRels]
    refine ⟨_, vs, rfl, ?_, svS_rel hfree0 hps⟩
    have ho := hsl.ownV.vrel hm0
    cases hag : tf.ag with
    | true =>
      simp only [firstV, firstU, VRel, VRels]
      exact ⟨_, rfl, u0, us2, by simp, ho, zds hfree0 hcd⟩
    | false =>
      simp only [firstV, firstU]
      exact ho
  have hvl := hv.length
  rw [List.length_cons, svS_len] at hvl
  have hat : At P fn.ntmps ρ0 [.arr tf.e cc 0] w ((0, firstV tf.ag 0 (svCs tf.cs d)) :: env0 (svS tf.ps x) 1) { tmps := (firstU tf.ag u0 us2 :: vs).toArray ++ Array.replicate (fn.ntmps - (firstU tf.ag u0 us2 :: vs).toArray.size) undef, defers := [] } := by
    refine ⟨⟨by simp at hvl ⊢; omega, rfl, fun n => ?_⟩, ?_, fun β hβ => ?_⟩
    · have e : ((0, firstV tf.ag 0 (svCs tf.cs d)) :: env0 (svS tf.ps x) 1) = env0 (firstV tf.ag 0 (svCs tf.cs d) :: svS tf.ps x) 0 := rfl
      rw [e, zaF]
      simp only [Nat.zero_le, if_true, Nat.sub_zero]
      split
      · rename_i s hs
        obtain ⟨u, h1, h2⟩ := hv.get n s hs
        have : ((firstU tf.ag u0 us2 :: vs).toArray ++ Array.replicate (fn.ntmps - (firstU tf.ag u0 us2 :: vs).toArray.size) undef).getD n undef = u := by
          rw [Array.getD_eq_getD_getElem?, Array.getElem?_append_left (by have := (List.getElem?_eq_some_iff.1 h1).1; simpa using this), List.getElem?_toArray, h1]
          rfl
        rw [this]; exact h2
      · simp [VRel]
    · refine ⟨fun β hl h => ?_, fun β hl h => ?_, fun β hl b' o' n' sz' h => ?_, fun β γ b' o1 n1 s1 o2 n2 s2 h1 h2 => by rw [(hi0 h1).1, (hi0 h2).1], fun β b' o' n' sz' h => (hmb (hi0 h).2).1, fun b hb => hres b (res_new.1 hb), fun β b' o' n' sz' h hr => (hmb (hi0 h).2).2.1 (res_new.1 hr)⟩
      · simp at hl; subst hl; rw [hm0] at h; exact absurd h hmd.1
      · simp at hl; subst hl; rw [hm0] at h
        rcases hsl with ⟨_, h1, _⟩ | ⟨b1, o1, cp, h1, _⟩
        · subst h1; exact .inl ⟨_, _, rfl⟩
        · rw [h1] at h; cases h
      · obtain ⟨rfl, hm⟩ := hi0 h
        obtain ⟨_, _, h3, h4, h5⟩ := hmb hm
        exact ⟨_, rfl, h5.brel (rf := .arr tf.e 0) hfree0 h4.symm (by simp only [Rf.len]; rw [h3]) fun _ _ _ => h3.symm⟩
    · simp at hβ
      simp only [ρ0]; rw [if_neg (by omega)]
  have hrun' := hrun cc d x
  rw [hy] at hrun'
  refine zaD hT hmix c hl ho hat hrun' fun ex τ' H' ρ' a' w' h1 h2 h3 => ?_
  have hend : ∃ ss us ls H2 ρ2 tk, evalRes τ' H' rv = some ss ∧ (results fn a'.tmps).run P w' = .ok (resU us) w' ∧ Gave ρ' H' w' ρ2 H2 tk ∧
      Rf.view (H2.set 0 .dead) (.arr tf.e 0) H2[0]? = some cc' ∧ viewPs (H2.set 0 .dead) tf.rs ls = some y ∧ (ex = .normal ∨ ex = .ret) ∧ (match tf.al with
        | true => tk = [] ∧ ρ2 = ρ' ∧ ∃ u, us = #[u] ∧ VRel ρ' w' (.own 0) u
        | false => TkPs ρ2 w' tf.rs ls us.toList tk) := by
    unfold endS at h3
    split at h3
    · simp at h3
    · rename_i hex
      have hex' : ex = .normal ∨ ex = .ret := by
        cases ex with
        | normal => exact .inl rfl
        | ret => exact .inr rfl
        | exit id => exact absurd rfl (hex id)
      split at h3
      · rename_i ss h4
        obtain ⟨us, h8, h9⟩ := zaE h1.t h1.h hrv h4
        split at h3
        · rename_i hal
          try simp only [hal]
          split at h3
          · split at h3
            · rename_i c1 y1 h6 h7
              simp only [Option.some.injEq, Prod.mk.injEq] at h3
              obtain ⟨rfl, rfl⟩ := h3
              refine ⟨_, us, [], H', ρ', [], h4, h8, Gave.refl h1.h h1.u, h6, h7, hex', ?_⟩
              simp only [VRels] at h9
              obtain ⟨u, us', e, h10, h11⟩ := h9
              subst h11
              exact ⟨rfl, rfl, u, Array.toList_inj.1 (by simpa using e), h10⟩
            · simp at h3
          · simp at h3
        · rename_i hal
          try simp only [hal]
          split at h3
          · rename_i ls H2 h5
            split at h3
            · rename_i c1 y1 h6 h7
              simp only [Option.some.injEq, Prod.mk.injEq] at h3
              obtain ⟨rfl, rfl⟩ := h3
              obtain ⟨ρ2, tk, g, h10⟩ := zhU h1.h h1.u h9 h5
              exact ⟨ss, us, ls, H2, ρ2, tk, h4, h8, g, h6, h7, hex', h10⟩
            · simp at h3
          · simp at h3
      · simp at h3
  obtain ⟨ss, us, ls, H2, ρ2, tk, h4, h8, g, h6, h7, hex, hal⟩ := hend
  obtain ⟨y0, hy0, hnd⟩ := Rf.view_some h6
  have hl0 : 0 < H2.length := (List.getElem?_eq_some_iff.1 hy0).1
  have hr2 : ρ2 0 = m ∧ ρ' 0 = m := by
    have nd : ρ2 0 ≠ .dead := fun h => by
      have := g.h.dead 0 hl0 h
      rw [hy0] at this; cases this; exact hnd rfl
    rcases h2.ref 0 (by omega) (by rw [hm0]; exact hmd.2) with e | e
    · rcases g.st.ref 0 (by rw [e, hm0]; exact hmd.2) with e2 | e2
      · exact ⟨by rw [e2, e, hm0], by rw [e, hm0]⟩
      · exact absurd e2 nd
    · rcases g.st.ref 0 (by rw [e]; simp) with e2 | e2
      · rw [e] at e2; exact absurd e2 nd
      · exact absurd e2 nd
  have hr0 : ∀ b, res b → ρ'.res b := fun b hb => .inl (by rw [h2.res]; exact hb)
  obtain ⟨ρ3, g3h, g3st, g3v, hB3⟩ : ∃ ρ3 : Map, HRel ρ3 (H2.set 0 .dead) w' ∧ StepF ρ2 w' ρ3 w' ∧ ρ3.vl = ρ2.vl ∧ ∀ b', (Free ρ3 w' b' ∨ (∃ β o n sz, ρ3 β = .at b' o n sz) ∨ ρ2.vl b' ≠ none) → b' < w'.heap.size ∧ ¬ res b' ∧ ¬ m.has b' ∧ b' ∉ tk := by
    rcases hsl with ⟨hm, _⟩ | ⟨b, o, cp, hm, _, _, _, _, _⟩
    · refine ⟨ρ2.kill [0], g.h.kill [0], zq5, rfl, fun b' hb => ?_⟩
      have old : b' < w'.heap.size → ¬ ρ2.res b' → b' < w'.heap.size ∧ ¬ res b' ∧ ¬ m.has b' ∧ b' ∉ tk := fun h3 h4 => ⟨h3, fun h => h4 (g.res b' (hr0 b' h)), fun ⟨_, _, _, h⟩ => by (rw [hm] at h; cases h), fun h => h4 (g.tks b' h).1⟩
      rcases hb with hb | ⟨β, o, n, sz, hb⟩ | hb
      · exact old hb.1 hb.2.1
      · exact old ((g.h.kill [0]).lt _ _ _ _ _ hb) ((g.h.kill [0]).resf _ _ _ _ _ hb)
      · have hv2 : ρ'.vl b' ≠ none := by rw [← g.vl]; exact hb
        refine ⟨g.h.resl b' (.inr hb), fun h => hv2 (h2.vl b' (hres b' h)), fun ⟨_, _, _, h⟩ => by (rw [hm] at h; cases h), fun h => ?_⟩
        obtain ⟨_, β, o, n, sz, h12⟩ := g.tks b' h
        exact h1.h.resf _ _ _ _ _ h12 (.inr hv2)
    · have hr2' := hr2.1
      rw [hm] at hr2'
      have g3 := Gave.of_take g.h g.u hl0 hr2'
      refine ⟨_, g3.h, g3.st, rfl, fun b' hb => ?_⟩
      have old : b' < w'.heap.size → ¬ (ρ2.take 0 b).res b' → b' < w'.heap.size ∧ ¬ res b' ∧ ¬ m.has b' ∧ b' ∉ tk := fun h3 h4 =>
        ⟨h3, fun h => h4 (zn.2 (.inl (g.res b' (hr0 b' h)))), fun ⟨_, _, _, h⟩ => h4 (zn.2 (.inr (by rw [hm] at h; injection h with e; exact e.symm))), fun h => h4 (zn.2 (.inl (g.tks b' h).1))⟩
      rcases hb with hb | ⟨β, o, n, sz, hb⟩ | hb
      · exact old hb.1 hb.2.1
      · exact old (g3.h.lt _ _ _ _ _ hb) (g3.h.resf _ _ _ _ _ hb)
      · have hv2 : ρ'.vl b' ≠ none := by rw [← g.vl]; exact hb
        refine ⟨g.h.resl b' (.inr hb), fun h => hv2 (h2.vl b' (hres b' h)), fun ⟨_, _, _, h⟩ => ?_, fun h => ?_⟩
        · rw [hm] at h; injection h with e; subst e
          exact g.h.resf _ _ _ _ _ hr2' (.inr hb)
        · obtain ⟨_, β, o, n, sz, h12⟩ := g.tks b' h
          exact h1.h.resf _ _ _ _ _ h12 (.inr hv2)
  have hd : ∀ {K : Kd} {s : SV} {x : K.T} {u : Value}, decH true (H2.set 0 .dead) K [s] = some x → VRel ρ2 w' s u → CRel w' (fun b' => Free ρ3 w' b' ∨ (∃ β o n sz, ρ3 β = .at b' o n sz) ∨ ρ2.vl b' ≠ none) K x [u] := fun h11 h12 =>
    zh g3h (fun b hb => .inl hb) (fun _ b t hv => .inr (.inr (by rw [← g3v, hv]; simp))) (fun γ b o n sz _ hg => .inr (.inl ⟨γ, o, n, sz, hg⟩)) h11 (VRels.single (h12.stepF g3st))
  have hfr : ∀ b, Free ρ2 w' b → Free ρ3 w' b := g3st.free
  have hslo : SlOut w' (fun b' => b' < w'.heap.size ∧ ¬ res b' ∧ ¬ m.has b' ∧ b' ∉ tk) tf.e cc' cc m := by
    rcases hsl with ⟨hm, _⟩ | ⟨b, o, cp, hm, _⟩
    · exact .inl ⟨hm, zq6 g.h (by rw [hr2.1, hm]) h6⟩
    · have hr2' := hr2.1
      rw [hm] at hr2'
      obtain ⟨k1, _, _, k4, _⟩ := RefAt.of_view (ρ := ρ2) hd (fun b hb => .inl (hfr b hb)) g.h hr2' h6
      exact .inr ⟨b, o, _, _, hm, k1.mono hB3, k4 _ _ rfl⟩
  have hpost : a'.defers = [] ∧ ∃ v, (results fn a'.tmps).run P w' = .ok v w' ∧ (fun e w' => ∃ us tk, e = Ending.returned (resU us) ∧ w'.os = w.os ∧ w'.tape = w.tape ∧ w'.output = w.output ∧ w.heap.size ≤ w'.heap.size ∧ (∀ b', b' < w.heap.size → ¬ m.has b' → w'.heap[b']? = w.heap[b']?) ∧
      (∀ (b : Nat) C t fr, w.heap[b]? = some (.cells C t fr) → ∃ C', w'.heap[b]? = some (.cells C' t fr) ∧ C'.size = C.size) ∧
      tk.Nodup ∧ (∀ b ∈ tk, w.heap.size ≤ b ∧ b < w'.heap.size) ∧ (match tf.al with
        | true => tk = [] ∧ ∃ u, us = #[u] ∧ OwnV w' m u
        | false => PsOut w' (fun b' => b' < w'.heap.size ∧ ¬ res b' ∧ ¬ m.has b' ∧ b' ∉ tk) tf.rs y us.toList tk) ∧
      SlOut w' (fun b' => b' < w'.heap.size ∧ ¬ res b' ∧ ¬ m.has b' ∧ b' ∉ tk) tf.e cc' cc m) (Ending.returned v) w' := by
    refine ⟨h1.t.2.1, resU us, h8, us, tk, rfl, h2.os, h2.tape, h2.output, h2.size, fun b' hb hne => h2.kept b' hb (fun β o n sz h => hne ⟨_, _, _, (hi0 h).2⟩) rfl, h2.shape, g.nd, fun b' hb => ?_, ?_, hslo⟩
    · obtain ⟨hrs, β, o', n', sz', hg⟩ := g.tks b' hb
      refine ⟨?_, h1.h.lt _ _ _ _ _ hg⟩
      rcases h2.img β b' o' n' sz' hg with ⟨γ, _, _, _, h⟩ | h
      · exfalso
        have hm := (hi0 h).2
        have hr2' := hr2.1
        rw [hm] at hr2'
        exact g.h.resf _ _ _ _ _ hr2' hrs
      · exact h
    · cases hal' : tf.al with
      | true =>
        rw [hal'] at hal
        obtain ⟨e1, _, u, e2, h9⟩ := hal
        exact ⟨e1, u, e2, zCj h9 hr2.2 hmd.1⟩
      | false =>
        rw [hal'] at hal
        exact PsOut.mono (.inl hB3) (zhV (ρ := ρ2) (fun b hb => .inl (hfr b hb)) hd h7 hal)
  rcases hex with rfl | rfl
  · exact hpost
  · exact hpost
end
end Go.Proofs.YtdgdoeknpakmlaaGreat.Den
