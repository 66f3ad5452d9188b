/- One operation: calls, and all operations together. -/
import Derived.Test.YtjnkefbdpcbkmaaD9b
namespace Go.Proofs.Ytjnkefbdpcbkmaa.Den
open Go Go.RowKit
set_option linter.unusedVariables false
set_option linter.unusedSimpArgs false

/-- New blocks are unborn. -/
def Unb (ρ : Map) (H H' : Heap) : Prop := ∀ β, H.length ≤ β → β < H'.length → ρ β = .unborn

/-- What a callee does is what its entry in the table says. -/
def TESound (P : Program) (f : FuncId) (te : TE) : Prop :=
  ∀ (ρ : Map) (H : Heap) (w : World) (args : List SV) (vs : List Value) (x : te.X) (y : te.Y) (v : SV) (H' : Heap), HRel ρ H w → VRels ρ w args vs → Unb ρ H H' →
    te.view args H = some x → te.fn x = some y → te.put x y args H = some (v, H') →
    Calls P f vs.toArray w fun e w' => ∃ u ρ', e = .returned u ∧ Good te.mono ρ H w v H' u w' ρ'

structure TabOK (P : Program) (T : Tab) : Prop where
  te : ∀ f te, T.te f = some te → TESound P f te
  fn : ∀ f te, T.te f = some te → ∃ fn, P.funcs[f]? = some fn ∧ fn.name ≠ "runtime.NumGoroutine" ∧ fn.body.isSome = true
  ext : ∀ f te, T.te f = some te → te.mono = true → ∀ x y args H v H', te.put x y args H = some (v, H') → ∃ Δ, H' = H ++ Δ
  tch : ∀ f te, T.te f = some te → ∀ x y args H v H', te.view args H = some x → te.put x y args H = some (v, H') → H.length ≤ H'.length ∧ ∀ γ, γ < H.length → γ ∉ (args.headD .junk).refs → H'[γ]? = H[γ]?
  meth : ∀ t m f, T.meth t m = some f → ∀ v args w, (callMethod (.iface t v) m args).run P w = .ok (.enter f (#[v] ++ args)) w

section
variable {P : Program} {o : Oper} {a : Act} {m : Bool} {ρ : Map} {H H' : Heap} {w w' : World} {τ : Env} {N : Nat} {T : Tab} {v : SV}

theorem Good.weak {u : Value} {ρ' : Map} (h : Good true ρ H w v H' u w' ρ') : Good m ρ H w v H' u w' ρ' :=
  ⟨h.step, h.hrel, h.vrel, h.len, h.unb, fun _ => h.mono rfl⟩

theorem OpOK.call {f : FuncId} {args : Array Value} (hr : (execOp a.eval o).run P w = .ok (.enter f args) w)
    (hc : Calls P f args w fun e w' => ∃ u ρ', e = .returned u ∧ Good m ρ H w v H' u w' ρ') : OpOK P o a m ρ H w v H' := by
  intro K Q hK
  unfold Oper.wp
  rw [hr]
  simp only [Oper.upon]
  refine Calls.mono hc fun e w'' he => ?_
  obtain ⟨u, ρ', rfl, hg⟩ := he
  exact hK u w'' ρ' hg

theorem callI_some {f : FuncId} {args : List SV} (h : callI T f args H (fun v H => some (v, H)) = some (v, H')) :
    ∃ te x y, T.te f = some te ∧ te.view args H = some x ∧ te.fn x = some y ∧ te.put x y args H = some (v, H') := by
  unfold callI at h
  split at h
  · simp at h
  · rename_i te hte
    split at h
    · simp at h
    · rename_i x hx
      rw [Option.bind_eq_some_iff] at h
      obtain ⟨y, hy, h⟩ := h
      split at h
      · rename_i v2 H2 hp
        simp at h
        obtain ⟨rfl, rfl⟩ := h
        exact ⟨te, x, y, hte, hx, hy, hp⟩
      · simp at h

theorem run_callFunc {f : FuncId} {fn : Func} {args : Array Value} (hf : P.funcs[f]? = some fn) (hn : fn.name ≠ "runtime.NumGoroutine") (hb : fn.body.isSome = true) : (callFunc f args).run P w = .ok (.enter f args) w := by
  have hb' : fn.body.isNone = false := by cases hh : fn.body <;> simp [hh] at hb ⊢
  have hne : fn.body ≠ none := fun h => by rw [h] at hb; cases hb
  simp only [callFunc, Sem.run_bind, run_program, Result.andThen_ok, hf, beq_iff_eq, hn, if_false, hb', Bool.false_eq_true]
  rfl

theorem snd_callI {f : FuncId} {as : List SV} {vs : List Value} (hT : TabOK P T) (hH : HRel ρ H w) (hun : Unb ρ H H') (hv : VRels ρ w as vs) (hm : ∀ te, T.te f = some te → m = true → te.mono = true)
    (he : callI T f as H (fun v H => some (v, H)) = some (v, H')) (hr : ∀ fn, P.funcs[f]? = some fn → fn.name ≠ "runtime.NumGoroutine" → fn.body.isSome = true → (execOp a.eval o).run P w = .ok (.enter f vs.toArray) w) : OpOK P o a m ρ H w v H' := by
  obtain ⟨te, x, y, h1, h2, h3, h4⟩ := callI_some he
  obtain ⟨fn, h5, h6, h7⟩ := hT.fn f te h1
  refine OpOK.call (hr fn h5 h6 h7) (Calls.mono (hT.te f te h1 ρ H w as vs x y v H' hH hv hun h2 h3 h4) fun e w'' h => ?_)
  obtain ⟨u, ρ', e1, hg⟩ := h
  refine ⟨u, ρ', e1, ?_⟩
  cases m with
  | true => exact (hm te h1 rfl) ▸ hg
  | false => exact ⟨hg.step, hg.hrel, hg.vrel, hg.len, hg.unb, by simp⟩

theorem opsL_args {xs : Array Operand} {ss : List S} (h : opsL xs.toList = some ss) (ht : TRel ρ w τ a N) : VRels ρ w (ss.map (S.ev τ)) (xs.map a.eval).toList := by
  have := opsL_rel ht h
  simpa using this
end

section
variable {P : Program} {o : Oper} {a : Act} {m : Bool} {ρ : Map} {H H' : Heap} {w w' : World} {τ : Env} {N : Nat} {T : Tab} {v : SV} {frz : Bool} {i : I}

theorem arr_one {α : Type} {xs : Array α} {x : α} (h : xs.toList = [x]) : xs = #[x] := by
  apply Array.ext'; simpa using h
theorem arr_two {α : Type} {xs : Array α} {x y : α} (h : xs.toList = [x, y]) : xs = #[x, y] := by
  apply Array.ext'; simpa using h
theorem opsL_one {xs : Array Operand} {s : S} (h : opsL xs.toList = some [s]) : ∃ x, xs = #[x] ∧ opL x = some s := by
  have hl := opsL_length h
  match e : xs.toList with
  | [x] =>
    rw [e] at h
    refine ⟨x, arr_one e, ?_⟩
    simp only [opsL] at h
    split at h
    · rename_i p q h1 h2; simp at h; rw [h1, h.1]
    · simp at h
  | [] => rw [e] at hl; simp at hl
  | _ :: _ :: _ => rw [e] at hl; simp at hl
theorem opsL_two {xs : Array Operand} {s t : S} (h : opsL xs.toList = some [s, t]) : ∃ x y, xs = #[x, y] ∧ opL x = some s ∧ opL y = some t := by
  have hl := opsL_length h
  match e : xs.toList with
  | [x, y] =>
    rw [e] at h
    refine ⟨x, y, arr_two e, ?_⟩
    simp only [opsL] at h
    split at h
    · rename_i p q h1 h2
      split at h2
      · rename_i p2 q2 h3 h4
        simp at h h2
        obtain ⟨rfl, rfl⟩ := h
        simp at h2
        exact ⟨h1, by rw [h3, h2.1]⟩
      · simp at h2
    · simp at h
  | [] => rw [e] at hl; simp at hl
  | [_] => rw [e] at hl; simp at hl
  | _ :: _ :: _ :: _ => rw [e] at hl; simp at hl

theorem kill_len1 {rs : List Nat} {x : Blk} : (kill rs H ++ [x]).length = H.length + 1 := by simp [kill_length]

theorem app_len {K : Option Kd} {sz : Nat} {t : TypeId} {s x : SV} (h : appI H K sz t s x (fun v H => some (v, H)) = some (v, H')) : H.length < H'.length := by
  have fin : ∀ {rs : List Nat} {y : Blk}, H' = kill rs H ++ [y] → H.length < H'.length := fun h => by rw [h, kill_len1]; omega
  unfold appI at h
  have ⟨_, h⟩ := (cond_some h).resolve_right (by simp)
  unfold appB at h
  split at h
  · split at h
    · split at h
      · obtain ⟨_, h⟩ := tst_some h
        simp only [Option.some.injEq, Prod.mk.injEq] at h
        exact fin h.2.symm
      · simp at h
    · split at h
      · split at h
        · simp only [Option.some.injEq, Prod.mk.injEq] at h
          exact fin h.2.symm
        · simp at h
      · simp at h
  · split at h
    · split at h
      · simp only [Option.some.injEq, Prod.mk.injEq] at h
        exact fin h.2.symm
      · simp at h
    · simp at h

theorem box_len {t : TypeId} {x : S} (h : runI T (.box t x) τ H (fun v H => some (v, H)) = some (v, H')) : H.length < H'.length := by
  simp only [runI] at h
  split at h
  · simp at h; rw [← h.2]; simp
  · split at h
    · simp at h; rw [← h.2]; simp
    · simp at h

theorem mk_len {K : Option Kd} {zs : List SV} {t : TypeId} {n c : S} (h : runI T (.mk K zs t n (some c)) τ H (fun v H => some (v, H)) = some (v, H')) : H.length < H'.length := by
  have fin : ∀ {y : Blk}, H' = H ++ [y] → H.length < H'.length := fun h => by rw [h]; simp
  simp only [runI, mkI, Option.map_some] at h
  split at h
  · split at h
    · rename_i e; simp at e
    · split at h
      · obtain ⟨_, h⟩ := tst_some h
        obtain ⟨_, h⟩ := tst_some h
        obtain ⟨_, h⟩ := tst_some h
        simp only [Option.some.injEq, Prod.mk.injEq] at h
        exact fin h.2.symm
      · split at h
        · split at h
          · simp only [Option.some.injEq, Prod.mk.injEq] at h
            exact fin h.2.symm
          · simp at h
        · simp at h
    · simp at h
  · simp at h

theorem ldS_run {frz : Bool} {n : Nat} {ag : Bool} {x : S} (h : runI T (ldS frz n ag x) τ H (fun v H => some (v, H)) = some (v, H')) : runI T (.ld n ag x) τ H (fun v H => some (v, H)) = some (v, H') := by
  unfold ldS at h
  split at h
  · split at h
    · rename_i s
      simp only [runI] at h ⊢
      have e : S.ev τ (.t s) = Tm.get τ s := rfl
      rw [e]
      split at h
      · rename_i β off e1
        simp only [e1]
        split at h
        · rename_i cs t z e2
          simp only [ldI, e2]; exact h
        · simp at h
      · simp at h
    · exact h
  · exact h

theorem op_sound (hT : TabOK P T) (hl : lightOp P frz o = some i) (hm : m = true → i.mono T = true) (ht : TRel ρ w τ a N) (hH : HRel ρ H w) (hun : Unb ρ H H')
    (he : runI T i τ H (fun v H => some (v, H)) = some (v, H')) : OpOK P o a m ρ H w v H' := by
  have unb1 : ∀ {x : Blk}, H' = H ++ [x] → ρ H.length = .unborn := fun h => hun _ (Nat.le_refl _) (by rw [h]; simp)
  have nof : m = true → False → m = false := fun _ h => h.elim
  have unb : H.length < H'.length → ρ H.length = .unborn := fun h => hun _ (Nat.le_refl _) h
  unfold lightOp at hl
  cases hop : o.op <;> rw [hop] at hl <;> simp only [reduceCtorEq] at hl
  case move x =>
    obtain ⟨sx, hx, rfl⟩ := Option.map_eq_some_iff.1 hl
    exact snd_mv (.inl hop) hx ht hH he
  case assign x =>
    obtain ⟨sx, hx, rfl⟩ := Option.map_eq_some_iff.1 hl
    exact snd_mv (.inr hop) hx ht hH he
  case pick c x y =>
    split at hl
    · rename_i c' x' y' h1 h2 h3
      simp at hl; subst hl
      exact snd_pick hop h1 h2 h3 ht hH he
    · simp at hl
  case alloc e =>
    have fin : ∀ {r : Nat × List SV × Nat}, tinfo P e = some r → i = .alloc r.2.1 e → OpOK P o a m ρ H w v H' := by
      intro r hr hi
      obtain ⟨sz, zs, by_⟩ := r
      subst hi
      have h2 := he
      simp only [runI] at h2; simp at h2
      exact snd_alloc hop hr hH (unb1 h2.2.symm) he
    split at hl
    · split at hl
      · split at hl
        · rename_i n el hn K sz zs by_ h1 h2
          split at hl
          · rename_i h3
            obtain ⟨rfl, rfl, h4⟩ := h3
            simp at hl; subst hl
            have h5 := he
            simp only [runI] at h5; simp at h5
            exact snd_allocA hop h2 h4 hH (unb1 h5.2.symm) he
          · simp at hl
        · simp at hl
      · split at hl
        · rename_i r h1
          simp at hl
          exact fin h1 hl.symm
        · simp at hl
    · split at hl
      · rename_i r h1
        simp at hl
        exact fin h1 hl.symm
      · simp at hl
    · simp at hl
  case box e x =>
    obtain ⟨sx, hx, rfl⟩ := Option.map_eq_some_iff.1 hl
    exact snd_box hop hx ht hH (unb (box_len he)) he
  case build t parts =>
    split at hl
    · rename_i fs hu
      split at hl
      · rename_i sz zs by_ ps h1 h2
        split at hl
        · rename_i h3
          simp at hl; subst hl
          exact snd_build hop hu h1 (fun f hf => List.all_eq_true.1 h3 f hf) h2 ht hH he
        · simp at hl
      · simp at hl
    · rename_i n el hu
      split at hl
      · rename_i sz zs by_ j h1 h2
        obtain ⟨ps, h3, rfl⟩ := Option.map_eq_some_iff.1 hl
        exact snd_buildA hop hu h1 h2 h3 ht hH he
      · simp at hl
    · simp at hl
  case buildSlice t len parts =>
    split at hl
    · rename_i e hu
      split at hl
      · rename_i sz zs by_ xs h1 h2
        split at hl
        · rename_i h3
          simp at hl; subst hl
          have hb : ∀ {K : Option Kd} {f : Bool}, (f = true → m = false) → runI T (.bsl K f sz len zs e ((parts.toList.map (·.1)).zip xs)) τ H (fun v H => some (v, H)) = some (v, H') → OpOK P o a m ρ H w v H' := fun hf he =>
            snd_bsl hop hu h1 h2 h3.1 h3.2.1 hf ht hH unb he
          cases frz with
          | false => exact hb (fun h => by cases h) he
          | true =>
            cases hK : kdOf P 9 e with
            | none =>
              rw [hK] at hm he
              exact hb (fun _ => by
                cases m with
                | false => rfl
                | true => exact absurd (hm rfl) (by simp [bslS, I.mono])) he
            | some k =>
              rw [hK] at hm he
              simp only [bslS] at hm he
              rcases hall : ((parts.toList.map (·.1)).zip xs).all (fun p => p.2.isC) with _ | _
              · rw [hall] at hm he
                exact hb (fun _ => by
                  cases m with
                  | false => rfl
                  | true => exact absurd (hm rfl) (by simp [I.mono])) he
              · rw [hall] at hm he
                exact snd_bse hop hu h1 h2 h3.1 h3.2.1 ht hH he
        · simp at hl
      · simp at hl
    · simp at hl
  case load t x =>
    split at hl
    · rename_i i ag x' h1 h2 h3
      split at hl
      · simp at hl; subst hl
        exact snd_load (T := T) hop h1 h2 h3 ht hH (by have := ldS_run he; simpa only [runI] using this)
      · simp at hl
    · simp at hl
  case store t x y =>
    split at hl
    · rename_i i x' y' h1 h2 h3
      simp at hl; subst hl
      cases m with
      | false => exact snd_st hop h1 h2 h3 ht hH he
      | true => have := hm rfl; simp [I.mono] at this
    · simp at hl
  case nilCheck x =>
    obtain ⟨sx, hx, rfl⟩ := Option.map_eq_some_iff.1 hl
    exact snd_nilck hop hx ht hH he
  case binOp op t x y yt =>
    split at hl
    · rename_i k x' y' h1 h2 h3
      simp at hl; subst hl
      exact snd_bin hop h2 h3 ht hH he
    · rename_i x' y' h1 h2 h3
      split at hl
      · simp at hl; subst hl
        exact snd_beq hop (.inl ⟨rfl, rfl⟩) h1 h2 h3 ht hH he
      · simp at hl; subst hl
        exact snd_beq hop (.inr ⟨rfl, rfl⟩) h1 h2 h3 ht hH he
      · simp at hl
    · rename_i fs x' y' h1 h2 h3
      split at hl
      · rename_i h4
        simp at hl; subst hl
        exact snd_eqs hop (.inl ⟨rfl, rfl⟩) h4 h2 h3 ht hH he
      · rename_i h4
        simp at hl; subst hl
        exact snd_eqs hop (.inr ⟨rfl, rfl⟩) h4 h2 h3 ht hH he
      · simp at hl
    · simp at hl
  case unOp op t x =>
    split at hl
    · rename_i x' h1
      simp at hl; subst hl
      exact snd_not hop h1 ht hH he
    · rename_i x' h1
      simp at hl; subst hl
      exact snd_neg hop h1 ht hH he
    · simp at hl
  case convert src dst x =>
    split at hl
    · rename_i ks k x' h1 h2 h3
      simp at hl; subst hl
      exact snd_conv hop h1 h2 h3 ht hH he
    · simp at hl
  case fieldAddr s x f =>
    split at hl
    · rename_i fs x' h1 h2
      split at hl
      · rename_i fd h3
        split at hl
        · rename_i j h4
          split at hl
          · rename_i h5
            simp at hl; subst hl
            exact snd_fa hop h1 h3 h4 h5 h2 ht hH he
          · simp at hl
        · simp at hl
      · simp at hl
    · simp at hl
  case field s x f =>
    split at hl
    · rename_i fs x' h1 h2
      split at hl
      · rename_i fd h3
        split at hl
        · rename_i j ag h4 h6
          split at hl
          · rename_i h5
            simp at hl; subst hl
            exact snd_fld hop h1 h3 h4 h6 h5 h2 ht hH he
          · simp at hl
        · simp at hl
      · simp at hl
    · simp at hl
  case indexAddr t x ix =>
    split at hl
    · rename_i e x' i' h1 h2 h3
      split at hl
      · rename_i j h4
        simp at hl; subst hl
        exact snd_ia hop h1 h4 h2 h3 ht hH he
      · simp at hl
    · rename_i n e x' i' h1 h2 h3
      split at hl
      · rename_i j h4
        simp at hl; subst hl
        exact snd_iar hop h1 h4 h2 h3 ht hH he
      · simp at hl
    · simp at hl
  case index t x ix =>
    split at hl
    · rename_i n e x' i' h1 h2 h3
      split at hl
      · rename_i j ag h4 h5
        split at hl
        · rename_i h6
          simp at hl; subst hl
          exact snd_ixa hop h1 h4 h5 h6 h2 h3 ht hH he
        · simp at hl
      · simp at hl
    · simp at hl
  case slice t x lo hi mx =>
    split at hl
    · rename_i e x' h1 h2
      split at hl
      · simp at hl
      · rename_i j h3
        split at hl
        · simp at hl; subst hl
          exact snd_sl hop h1 h3 h2 rfl rfl ht hH he
        · rename_i lo
          obtain ⟨sx, hx, rfl⟩ := Option.map_eq_some_iff.1 hl
          exact snd_sl hop h1 h3 h2 (by simp [hx]) rfl ht hH he
        · rename_i hi
          obtain ⟨sx, hx, rfl⟩ := Option.map_eq_some_iff.1 hl
          exact snd_sl hop h1 h3 h2 rfl (by simp [hx]) ht hH he
        · rename_i lo hi
          split at hl
          · rename_i lo' hi' h4 h5
            simp at hl; subst hl
            exact snd_sl hop h1 h3 h2 (by simp [h4]) (by simp [h5]) ht hH he
          · simp at hl
        · rename_i hi mx
          split at hl
          · rename_i hi' mx' h4 h5
            simp at hl; subst hl
            exact snd_sl0 hop h1 h3 h2 h4 h5 ht hH he
          · simp at hl
        · simp at hl
    · simp at hl
  case extract x j =>
    obtain ⟨sx, hx, rfl⟩ := Option.map_eq_some_iff.1 hl
    exact snd_ext hop hx ht hH he
  case makeSlice t l c =>
    split at hl
    · rename_i e l' c' h1 h2 h3
      split at hl
      · rename_i sz zs by_ h4
        split at hl
        · rename_i h5
          split at hl
          · rename_i K h6
            split at hl
            · rename_i h7
              simp at hl; subst hl
              exact snd_mk hop h1 h4 h5.1 h5.2 (fun k hk => by cases hk; exact h7) h2 h3 ht hH (unb (mk_len he)) he
            · simp at hl
          · simp at hl; subst hl
            exact snd_mk hop h1 h4 h5.1 h5.2 (fun k hk => by cases hk) h2 h3 ht hH (unb (mk_len he)) he
        · simp at hl
      · simp at hl
    · simp at hl
  case makeInterface t x =>
    split at hl
    · simp at hl
    · rename_i d h1 h2
      obtain ⟨sx, hx, rfl⟩ := Option.map_eq_some_iff.1 hl
      exact snd_mkif hop h2 (fun ms e => h1 ms e) hx ht hH he
    · simp at hl
  case typeAssert x xt t ok =>
    split at hl
    · simp at hl
    · rename_i d x' h1 h2 h3
      split at hl
      · rename_i i h4
        split at hl
        · rename_i z h5
          obtain ⟨sz, h6, rfl⟩ := Option.map_eq_some_iff.1 hl
          exact snd_tas hop h2 (fun ms e => h1 ms e) h3 h4 h5 h6 ht hH he
        · simp at hl
      · simp at hl
    · simp at hl
  case makeFunc fn first cap =>
    split at hl
    · rename_i sa sb h1 h2
      simp at hl; subst hl
      exact snd_mkfn hop h1 h2 ht hH he
    · simp at hl
  case call c =>
    split at hl
    · simp at hl
    · rename_i as has
      have hargs := opsL_args has ht
      split at hl
      · rename_i hc
        split at hl
        · rename_i t x' h1
          split at hl
          · rename_i e h3
            simp at hl; subst hl
            obtain ⟨x, hx1, hx2⟩ := opsL_one has
            exact snd_len hop hc hx1 (arr_one h1) h3 hx2 ht hH he
          · simp at hl
        · simp at hl
      · rename_i hc
        split at hl
        · rename_i t t' s' x' h1
          split at hl
          · rename_i e h3 h4
            split at hl
            · rename_i sz zs by_ h5
              split at hl
              · rename_i h6
                simp at hl; subst hl
                obtain ⟨s, x, hx0, hx1, hx2⟩ := opsL_two has
                have htt : t = t' := by simpa using h4
                subst htt
                cases frz with
                | true =>
                  simp only [cond, runI] at he
                  split at he
                  · rename_i e2
                    rw [← e2] at he
                    exact snd_app hop hc hx0 (arr_two h1) h3 h5 h6 hx1 hx2 ht hH (unb (app_len he)) (fun _ => by rw [e2]; rfl) he
                  · simp at he
                | false =>
                  simp only [cond, runI] at he hm
                  exact snd_app hop hc hx0 (arr_two h1) h3 h5 h6 hx1 hx2 ht hH (unb (app_len he)) (fun h => by have := hm h; simp [I.mono] at this) he
              · simp at hl
            · simp at hl
          · simp at hl
        · simp at hl
      · rename_i hc
        split at hl
        · simp at hl; subst hl
          obtain ⟨x, y, hx0, hx1, hx2⟩ := opsL_two has
          exact snd_mn hop hc hx0 hx1 hx2 ht hH he
        · simp at hl
      · rename_i hc
        split at hl
        · simp at hl; subst hl
          obtain ⟨x, y, hx0, hx1, hx2⟩ := opsL_two has
          exact snd_mx hop hc hx0 hx1 hx2 ht hH he
        · simp at hl
      · rename_i f hc
        split at hl
        · rename_i fn hf
          split at hl
          · rename_i hfn
            simp at hl; subst hl
            simp only [runI] at he
            refine snd_callI hT hH hun hargs (fun te h1 h2 => ?_) he fun fn' h1 h2 h3 => ?_
            · have := hm h2
              simp only [I.mono, h1] at this; exact this
            · have e5 : Array.map a.eval c.args = (List.map a.eval c.args.toList).toArray := Array.ext' (by simp)
              simp [execOp, hop, resolve, hc, Act.eval, Deferred.ofValue, invoke, run_callFunc hf hfn.1 hfn.2, e5]
          · simp at hl
        · simp at hl
      · rename_i t hc
        simp at hl; subst hl
        obtain rfl : m = false := by
          cases m with
          | false => rfl
          | true => have := hm rfl; simp [I.mono] at this
        simp only [runI] at he
        split at he
        · rename_i f first cap e1
          have hv : VRel ρ w (S.ev τ (.t t)) (a.eval (.tmp t)) := opL_rel ht (x := .tmp t) rfl
          rw [e1] at hv
          simp only [VRel] at hv
          obtain ⟨vf, vc, e2, h1, h2⟩ := hv
          refine snd_callI hT hH hun ((h1.append hargs).append h2) (fun _ _ h => by simp at h) he fun fn' h3 h4 h5 => ?_
          simp [execOp, hop, resolve, hc, e2, Deferred.ofValue, invoke, run_callFunc h3 h4 h5]
        · simp at he
      · rename_i t mn hc
        simp at hl; subst hl
        obtain rfl : m = false := by
          cases m with
          | false => rfl
          | true => have := hm rfl; simp [I.mono] at this
        simp only [runI] at he
        split at he
        · rename_i ti x e1
          split at he
          · rename_i f hf
            have hv : VRel ρ w (S.ev τ (.t t)) (a.eval (.tmp t)) := opL_rel ht (x := .tmp t) rfl
            rw [e1] at hv
            simp only [VRel] at hv
            obtain ⟨u, e2, h1⟩ := hv
            have hvs : VRels ρ w (x :: as.map (S.ev τ)) (u :: (c.args.map a.eval).toList) := by
              simp only [VRels]; exact ⟨u, _, rfl, h1, hargs⟩
            refine snd_callI hT hH hun hvs (fun _ _ h => by simp at h) he fun fn' h3 h4 h5 => ?_
            have hmm := hT.meth ti mn f hf u (c.args.map a.eval) w
            have e3 : (#[Value.iface ti u] ++ c.args.map a.eval)[0]? = some (Value.iface ti u) := by
              rw [← Array.getElem?_toList]; simp
            have e4 : (#[Value.iface ti u] ++ c.args.map a.eval).extract 1 (#[Value.iface ti u] ++ c.args.map a.eval).size = c.args.map a.eval := by
              apply Array.ext'; simp
              rw [List.take_of_length_le (by simp)]
            have e5 : (u :: (c.args.map a.eval).toList).toArray = #[u] ++ c.args.map a.eval := by
              apply Array.ext'; simp
            have e6 : (execOp a.eval o).run P w = (callMethod (.iface ti u) mn (c.args.map a.eval)).run P w := by
              simp only [execOp, hop, resolve, hc, e2, invoke, Sem.run_bind, Sem.run_pure, Result.andThen_ok, e3, e4]
            rw [e6, hmm, e5]
          · simp at he
        · simp at he
      · simp at hl
end
end Go.Proofs.Ytjnkefbdpcbkmaa.Den
