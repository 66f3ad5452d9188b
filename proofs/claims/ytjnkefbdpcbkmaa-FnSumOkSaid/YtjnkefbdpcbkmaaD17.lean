/- Code: what the reading gives, the code does. -/
import Derived.Test.YtjnkefbdpcbkmaaD16
namespace Go.Proofs.Ytjnkefbdpcbkmaa.Den
open Go Go.RowKit
set_option linter.unusedVariables false
set_option linter.unusedSimpArgs false

/-- Are all drawn regions in order? -/
def okC (T : Tab) : Code → C → Bool
  | .region _ ops d, .reg _ gs => !d || orderOK T ops.toList gs
  | .region _ ops d, .seq (.reg _ gs) (.cut _) => !d || orderOK T ops.toList gs
  | .region _ ops d, .seq (.cut _) (.reg _ gs) => !d || orderOK T ops.toList gs
  | .seq a b, .seq x y => okC T a x && okC T b y
  | .cond _ a b, .cnd _ x y => okC T a x && okC T b y
  | .block _ a, .blk _ x => okC T a x
  | .loop a, .loop _ x => okC T a x
  | .skip, .skip => true
  | .exit _, .exit _ => true
  | .ret, .ret => true
  | _, _ => false

def Ex.toExit : Ex → Exit
  | .normal => .normal
  | .exit id => .exit id
  | .ret => .ret

theorem least_ex {p : Nat → Prop} (h : ∃ m, p m) : ∃ m, p m ∧ ∀ k, p k → m ≤ k := by
  obtain ⟨m, hm⟩ := h
  induction m using Nat.strongRecOn with
  | ind m ih =>
    by_cases h2 : ∃ k, k < m ∧ p k
    · obtain ⟨k, h3, h4⟩ := h2
      exact ih k h3 h4
    · exact ⟨m, hm, fun k hk => Nat.le_of_not_lt fun h5 => h2 ⟨k, h5, hk⟩⟩

section
variable {P : Program} {T : Tab} {N n0 fuel : Nat} {frz : List Nat} {ann : List Norm} {cuts : List (Nat × Norm)}

theorem region_sound (hT : TabOK P T) (hmix : P.follows .mixedOrders = true) {id : Nat} {ops : Array Oper} {d : Bool} {gs : List GI} (hl : lightOps P frz N ops ops.toList = some gs) (ho : (!d || orderOK T ops.toList gs) = true)
    {R : Type} {τ : Env} {H : Heap} {ρ : Map} {a : Act} {w : World} {k : Env → Heap → Option R} {r : R} (hat : At P N ρ H w τ a) (he : (match (generalizing := false) d with | true => runRD T gs [] [] τ H k | false => runR T gs τ H k) = some r) {Q : Exit → Act → World → Prop}
    (hQ : ∀ τ' H' ρ' a' w', At P N ρ' H' w' τ' a' → Step ρ w ρ' w' → k τ' H' = some r → Q .normal a' w') : (Code.region id ops d).wp P Q a w := by
  obtain ⟨h1, h2⟩ := lightOps_spec hl
  cases d with
  | false =>
    exact wp_region_list (list_sound hT h1 h2 hat he hQ)
  | true =>
    refine wp_region_any hmix ?_
    have hat' : At P N ρ H w.drew τ a := ⟨⟨hat.t.1, hat.t.2.1, fun n => (hat.t.2.2 n).step Step.drew⟩, hat.h.drew, hat.u⟩
    exact drawn_sound (w := w.drew) hT (by rw [h1]; simp) (by simpa using ho) (fun j o gi h3 h4 => h2 j o gi (by rw [Array.getElem?_toList]; exact h3) h4) hat' he
      fun τ' H' ρ' a' w' h3 h4 h5 => hQ τ' H' ρ' a' w' h3 (Step.drew.trans h4) h5

theorem code_sound (hT : TabOK P T) (hmix : P.follows .mixedOrders = true) : ∀ (c : Code) {i : Nat} {ci : C} {j : Nat}, lightC P frz N ann cuts i c = some (ci, j) → okC T c ci = true →
    ∀ {R : Type} {τ : Env} {H : Heap} {ρ : Map} {a : Act} {w : World} {k : Ex → Env → Heap → Option R} {r : R}, At P N ρ H w τ a → run T n0 fuel ci τ H k = some r →
    ∀ {Q : Exit → Act → World → Prop}, (∀ ex τ' H' ρ' a' w', At P N ρ' H' w' τ' a' → StepN n0 ρ w ρ' w' → k ex τ' H' = some r → Q ex.toExit a' w') → c.wp P Q a w := by
  intro c
  induction c with
  | skip =>
    intro i ci j hl ho R τ H ρ a w k r hat he Q hQ
    simp only [lightC, Option.some.injEq, Prod.mk.injEq] at hl
    obtain ⟨rfl, _⟩ := hl
    simp only [run] at he
    exact wp_skip (hQ .normal τ H ρ a w hat StepN.refl he)
  | region id ops d =>
    intro i ci j hl ho R τ H ρ a w k r hat he Q hQ
    simp only [lightC] at hl
    split at hl
    · rename_i gs h1
      split at hl
      · split at hl
        · simp only [Option.some.injEq, Prod.mk.injEq] at hl
          obtain ⟨rfl, _⟩ := hl
          simp only [run] at he
          simp only [okC] at ho
          exact region_sound hT hmix h1 ho hat he fun τ' H' ρ' a' w' h3 h4 h5 => hQ .normal τ' H' ρ' a' w' h3 h4.toN h5
        · rename_i nm hnm
          simp only [Option.some.injEq, Prod.mk.injEq] at hl
          obtain ⟨rfl, _⟩ := hl
          simp only [run, normK] at he
          simp only [okC] at ho
          split at he
          · rename_i τ2 H2 h6
            obtain ⟨ρ2, h7, h8⟩ := norm_sound hat h6
            simp only [seqK] at he
            exact region_sound hT hmix h1 ho h7 he fun τ' H' ρ' a' w' h3 h4 h5 => hQ .normal τ' H' ρ' a' w' h3 (h8.trans h4.toN) h5
          · simp at he
      · rename_i nm hnm
        simp only [Option.some.injEq, Prod.mk.injEq] at hl
        obtain ⟨rfl, _⟩ := hl
        simp only [run] at he
        simp only [okC] at ho
        refine region_sound hT hmix h1 ho hat he fun τ' H' ρ' a' w' h3 h4 h5 => ?_
        simp only [seqK, run, normK] at h5
        split at h5
        · rename_i τ2 H2 h6
          obtain ⟨ρ2, h7, h8⟩ := norm_sound h3 h6
          exact hQ .normal τ2 H2 ρ2 a' w' h7 (h4.toN.trans h8) h5
        · simp at h5
    · simp at hl
  | seq x y ihx ihy =>
    intro i ci j hl ho R τ H ρ a w k r hat he Q hQ
    simp only [lightC] at hl
    split at hl
    · rename_i cx jx hx
      split at hl
      · rename_i cy jy hy
        simp only [Option.some.injEq, Prod.mk.injEq] at hl
        obtain ⟨rfl, _⟩ := hl
        simp only [okC, Bool.and_eq_true] at ho
        simp only [run] at he
        refine wp_seq (ihx hx ho.1 hat he fun ex τ' H' ρ' a' w' h1 h2 h3 => ?_)
        cases ex with
        | normal => exact ihy hy ho.2 h1 h3 fun ex τ2 H2 ρ2 a2 w2 h4 h5 h6 => hQ ex τ2 H2 ρ2 a2 w2 h4 (h2.trans h5) h6
        | exit id => exact hQ (.exit id) τ' H' ρ' a' w' h1 h2 h3
        | ret => exact hQ .ret τ' H' ρ' a' w' h1 h2 h3
      · simp at hl
    · simp at hl
  | cond s x y ihx ihy =>
    intro i ci j hl ho R τ H ρ a w k r hat he Q hQ
    simp only [lightC] at hl
    split at hl
    · rename_i sx cx jx hs hx
      split at hl
      · rename_i cy jy hy
        simp only [Option.some.injEq, Prod.mk.injEq] at hl
        obtain ⟨rfl, _⟩ := hl
        simp only [okC, Bool.and_eq_true] at ho
        simp only [run] at he
        split at he
        · rename_i b hb
          have hv := opL_rel hat.t hs
          rw [hb] at hv
          simp only [VRel] at hv
          refine wp_cond hv ?_
          rcases cond_some he with ⟨rfl, he⟩ | ⟨rfl, he⟩
          · exact ihx hx ho.1 hat he hQ
          · exact ihy hy ho.2 hat he hQ
        · simp at he
      · simp at hl
    · simp at hl
  | block id x ih =>
    intro i ci j hl ho R τ H ρ a w k r hat he Q hQ
    simp only [lightC] at hl
    split at hl
    · rename_i cx jx hx
      simp only [Option.some.injEq, Prod.mk.injEq] at hl
      obtain ⟨rfl, _⟩ := hl
      simp only [okC] at ho
      simp only [run] at he
      refine wp_block (ih hx ho hat he fun ex τ' H' ρ' a' w' h1 h2 h3 => ?_)
      cases ex with
      | normal => exact hQ .normal τ' H' ρ' a' w' h1 h2 h3
      | ret => exact hQ .ret τ' H' ρ' a' w' h1 h2 h3
      | exit id' =>
        simp only [Ex.toExit, Exit.inBlock]
        simp only [blkK] at h3
        rcases cond_some h3 with ⟨h4, h5⟩ | ⟨h4, h5⟩
        · rw [if_pos (Nat.eq_of_beq_eq_true h4)]; exact hQ .normal τ' H' ρ' a' w' h1 h2 h5
        · rw [if_neg (fun e => by rw [e] at h4; simp at h4)]; exact hQ (.exit id') τ' H' ρ' a' w' h1 h2 h5
    · simp at hl
  | loop x ih =>
    intro i ci j hl ho R τ H ρ a w k r hat he Q hQ
    simp only [lightC] at hl
    split at hl
    · rename_i nm cx jx hnm hx
      simp only [Option.some.injEq, Prod.mk.injEq] at hl
      obtain ⟨rfl, _⟩ := hl
      simp only [okC] at ho
      simp only [run, normK] at he
      split at he
      · rename_i τ1 H1 hn
        obtain ⟨ρ1, hat1, hst1⟩ := norm_sound hat hn
        let J : Nat → Act → World → Prop := fun m a' w' => ∃ τ' H' ρ', At P N ρ' H' w' τ' a' ∧ StepN n0 ρ w ρ' w' ∧ loopN (run T n0 fuel cx) n0 nm m τ' H' k = some r
        have hJ : ∃ m, J m a w := ⟨fuel, τ1, H1, ρ1, hat1, hst1, he⟩
        classical
        refine wp_loop (fun a' w' => ∃ m, J m a' w') (fun a' w' => if h : ∃ m, J m a' w' then Classical.choose (least_ex h) else 0) hJ fun a1 w1 hI => ?_
        have hm := (Classical.choose_spec (least_ex hI)).1
        have hμ : (if h : ∃ m, J m a1 w1 then Classical.choose (least_ex h) else 0) = Classical.choose (least_ex hI) := dif_pos hI
        rw [hμ]
        generalize Classical.choose (least_ex hI) = m at hm ⊢
        obtain ⟨τ2, H2, ρ2, hat2, hst2, hl2⟩ := hm
        cases m with
        | zero => simp [loopN] at hl2
        | succ m =>
          simp only [loopN] at hl2
          refine ih hx ho hat2 hl2 fun ex τ3 H3 ρ3 a3 w3 h1 h2 h3 => ?_
          cases ex with
          | exit id => exact hQ (.exit id) τ3 H3 ρ3 a3 w3 h1 (hst2.trans h2) h3
          | ret => exact hQ .ret τ3 H3 ρ3 a3 w3 h1 (hst2.trans h2) h3
          | normal =>
            simp only [loopK, normK] at h3
            split at h3
            · rename_i τ4 H4 hn4
              obtain ⟨ρ4, hat4, hst4⟩ := norm_sound h1 hn4
              have hJ4 : J m a3 w3 := ⟨τ4, H4, ρ4, hat4, (hst2.trans h2).trans hst4, h3⟩
              refine ⟨⟨m, hJ4⟩, ?_⟩
              have hI4 : ∃ m, J m a3 w3 := ⟨m, hJ4⟩
              rw [dif_pos hI4]
              have := (Classical.choose_spec (least_ex hI4)).2 m hJ4
              omega
            · simp at h3
      · simp at he
    · simp at hl
  | exit id =>
    intro i ci j hl ho R τ H ρ a w k r hat he Q hQ
    simp only [lightC, Option.some.injEq, Prod.mk.injEq] at hl
    obtain ⟨rfl, _⟩ := hl
    simp only [run] at he
    exact wp_exit (hQ (.exit id) τ H ρ a w hat StepN.refl he)
  | ret =>
    intro i ci j hl ho R τ H ρ a w k r hat he Q hQ
    simp only [lightC, Option.some.injEq, Prod.mk.injEq] at hl
    obtain ⟨rfl, _⟩ := hl
    simp only [run] at he
    exact wp_ret (hQ .ret τ H ρ a w hat StepN.refl he)
  | _ => intro i ci j hl; simp [lightC] at hl
end
end Go.Proofs.Ytjnkefbdpcbkmaa.Den
