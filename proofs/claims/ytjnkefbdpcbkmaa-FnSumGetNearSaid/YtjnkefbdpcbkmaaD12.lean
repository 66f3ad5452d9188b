/- One step of a region: what it reads, what it writes, what it does. -/
import Derived.Test.YtjnkefbdpcbkmaaD11
namespace Go.Proofs.Ytjnkefbdpcbkmaa.Den
open Go Go.RowKit
set_option linter.unusedVariables false
set_option linter.unusedSimpArgs false

def S.slot : S → List Nat
  | .t n => [n]
  | .c _ => []

/-- What an operation looks at. -/
def I.args : I → List S
  | .mv x | .box _ x | .ld _ _ x | .nilck x | .not x | .neg x | .conv _ x | .fa _ x | .fld _ _ _ x | .ext _ x | .len x | .mkif _ x | .tas _ _ _ x => [x]
  | .ldc _ _ s => [.t s]
  | .alloc _ _ | .allocA _ _ _ => []
  | .pick c a b => [c, a, b]
  | .build _ ps => ps.map fun p => p.2.2
  | .bsl _ _ _ _ _ _ ps => ps.map fun p => p.2
  | .bse _ _ _ _ ps => ps.map fun p => p.2
  | .st _ x y | .bin _ x y | .beq _ x y | .eqs _ _ x y | .ia _ x y | .iar _ _ x y | .ixa _ _ _ x y | .app _ _ _ x y | .app0 _ _ _ x y | .mn x y | .mx x y => [x, y]
  | .sl _ x l h m => x :: (l.toList ++ (h.toList ++ m.toList))
  | .mk _ _ _ n cap => n :: cap.toList
  | .mkfn _ a b => a ++ b
  | .call _ as => as
  | .callv x as => x :: as
  | .inv x _ as => x :: as

def I.slots (i : I) : List Nat := i.args.flatMap S.slot

def GI.reads (gi : GI) : List Nat :=
  match gi.g with
  | none => gi.i.slots
  | some (s, _) => s :: gi.i.slots

section
variable {R : Type} {T : Tab} {τ τ' : Env} {H H' : Heap}

theorem fillP_congr : ∀ {ps : List (Nat × Nat × S)} {cs : List SV}, (∀ p ∈ ps, S.ev τ p.2.2 = S.ev τ' p.2.2) → fillP τ ps cs = fillP τ' ps cs
  | [], _, _ => rfl
  | (off, n, x) :: r, cs, h => by
    have h1 := h (off, n, x) (by simp)
    simp only at h1
    simp only [fillP, h1]
    split
    · split
      · exact fillP_congr fun p hp => h p (by simp [hp])
      · rfl
    · rfl

theorem map_congr {as : List S} (h : ∀ x ∈ as, S.ev τ x = S.ev τ' x) : as.map (S.ev τ) = as.map (S.ev τ') := List.map_congr_left h

theorem opt_congr {x : Option S} (h : ∀ y ∈ x.toList, S.ev τ y = S.ev τ' y) : x.map (S.ev τ) = x.map (S.ev τ') := by
  cases x with
  | none => rfl
  | some y => simp only [Option.map_some, h y (by simp)]

theorem runI_congrE {i : I} {k : SV → Heap → Option R} (h : ∀ x ∈ i.args, S.ev τ x = S.ev τ' x) : runI T i τ H k = runI T i τ' H k := by
  cases i
  case build zs ps =>
    simp only [runI]
    rw [fillP_congr fun p hp => h p.2.2 (List.mem_map.2 ⟨p, hp, rfl⟩)]
  case bsl K frz sz len zs t ps =>
    simp only [runI, bslI]
    cases len with
    | zero => cases ps <;> rfl
    | succ len =>
      simp only
      rw [fillP_congr (τ' := τ') fun p hp => by
        obtain ⟨q, hq, rfl⟩ := List.mem_map.1 hp
        exact h q.2 (List.mem_map.2 ⟨q, hq, rfl⟩)]
  case bse K sz len zs ps =>
    simp only [runI]
    rw [fillP_congr (τ' := τ') fun p hp => by
      obtain ⟨q, hq, rfl⟩ := List.mem_map.1 hp
      exact h q.2 (List.mem_map.2 ⟨q, hq, rfl⟩)]
  case sl sz x lo hi mx =>
    simp only [runI]
    rw [h x (by simp [I.args]), opt_congr fun y hy => h y (by simp [I.args] at hy ⊢; simp [hy]), opt_congr (x := hi) fun y hy => h y (by simp [I.args] at hy ⊢; simp [hy]), opt_congr (x := mx) fun y hy => h y (by simp [I.args] at hy ⊢; simp [hy])]
  case mk K zs t n cap =>
    simp only [runI]
    rw [h n (by simp [I.args]), opt_congr fun y hy => h y (by simp [I.args] at hy ⊢; simp [hy])]
  case mkfn f a b =>
    simp only [runI]
    rw [map_congr fun x hx => h x (by simp [I.args, hx]), map_congr (as := b) fun x hx => h x (by simp [I.args, hx])]
  case call f as =>
    simp only [runI]
    rw [map_congr fun x hx => h x (by simp [I.args, hx])]
  case callv x as =>
    simp only [runI]
    rw [h x (by simp [I.args]), map_congr fun x hx => h x (by simp [I.args, hx])]
  case inv x m as =>
    simp only [runI]
    rw [h x (by simp [I.args]), map_congr fun x hx => h x (by simp [I.args, hx])]
  case ldc n ag s =>
    have e : Tm.get τ s = Tm.get τ' s := h (.t s) (by simp [I.args])
    simp only [runI, e]
  all_goals (simp only [I.args, List.mem_cons, List.not_mem_nil, or_false, forall_eq_or_imp, forall_eq, false_implies, implies_true] at h; simp only [runI, h])

theorem S.ev_congr {x : S} (h : ∀ s ∈ x.slot, Tm.get τ s = Tm.get τ' s) : S.ev τ x = S.ev τ' x := by
  cases x with
  | t n => exact h n (by simp [S.slot])
  | c v => rfl

theorem runI_congr {i : I} {k : SV → Heap → Option R} (h : ∀ s ∈ i.slots, Tm.get τ s = Tm.get τ' s) : runI T i τ H k = runI T i τ' H k :=
  runI_congrE fun x hx => S.ev_congr fun s hs => h s (List.mem_flatMap.2 ⟨x, hx, hs⟩)

theorem getD_put {d : Option Nat} {v : SV} (n : Nat) : Tm.get (putD τ d v) n = if d = some n then v else Tm.get τ n := by
  cases d with
  | none => simp [putD]
  | some m => simp [putD, Tm.get_cons]

theorem get_same {s : Nat} {v : SV} (h : Tm.get τ s = v) (n : Nat) : Tm.get ((s, v) :: τ) n = Tm.get τ n := by
  rw [Tm.get_cons]
  split
  · rename_i e; rw [← e, h]
  · rfl

theorem stepG_spec {gi : GI} (h : stepG T gi τ H = some (τ', H')) :
    ∃ b : Bool, (gi.g = none → b = true) ∧ (∀ s want, gi.g = some (s, want) → Tm.get τ s = .bool (if b = true then want else !want) ∨ b = false ∧ Tm.get τ s = .tup []) ∧
      (b = true → ∃ v, runI T gi.i τ H (fun v H => some (v, H)) = some (v, H') ∧ ∀ n, Tm.get τ' n = if gi.d = some n then v else Tm.get τ n) ∧
      (b = false → H' = H ∧ ∀ n, Tm.get τ' n = if gi.d = some n then .tup [] else Tm.get τ n) := by
  unfold stepG runG at h
  have run : ∀ {τ1 : Env} (e : ∀ n, Tm.get τ1 n = Tm.get τ n), runI T gi.i τ1 H (fun v H' => some (putD τ1 gi.d v, H')) = some (τ', H') →
      ∃ v, runI T gi.i τ H (fun v H => some (v, H)) = some (v, H') ∧ ∀ n, Tm.get τ' n = if gi.d = some n then v else Tm.get τ n := by
    intro τ1 e h1
    rw [runI_nat, Option.bind_eq_some_iff] at h1
    obtain ⟨⟨v, H2⟩, h2, h3⟩ := h1
    simp only [Option.some.injEq, Prod.mk.injEq] at h3
    obtain ⟨rfl, rfl⟩ := h3
    exact ⟨v, by rw [← h2]; exact runI_congr fun s _ => (e s).symm, fun n => by rw [getD_put, e]⟩
  split at h
  · rename_i hg
    exact ⟨true, fun _ => rfl, fun s want h1 => by (rw [hg] at h1; cases h1), fun _ => run (fun _ => rfl) h, fun h => by cases h⟩
  · rename_i s want hg
    split at h
    · rename_i b hb
      split at h
      · rcases cond_some h with ⟨rfl, h⟩ | ⟨rfl, h⟩
        · exact ⟨true, fun _ => rfl, fun s' w' h1 => by (rw [hg] at h1; cases h1; exact .inl (by simpa using hb)), fun _ => run (get_same hb) h, fun h => by cases h⟩
        · simp only [Option.some.injEq, Prod.mk.injEq] at h
          obtain ⟨rfl, rfl⟩ := h
          exact ⟨false, fun h1 => by (rw [hg] at h1; cases h1), fun s' w' h1 => by (rw [hg] at h1; cases h1; exact .inl (by simpa using hb)), fun h => by (cases h), fun _ => ⟨rfl, fun n => by rw [getD_put, get_same hb]⟩⟩
      · rcases cond_some h with ⟨rfl, h⟩ | ⟨rfl, h⟩
        · simp only [Option.some.injEq, Prod.mk.injEq] at h
          obtain ⟨rfl, rfl⟩ := h
          exact ⟨false, fun h1 => by (rw [hg] at h1; cases h1), fun s' w' h1 => by (rw [hg] at h1; cases h1; exact .inl (by simpa using hb)), fun h => by (cases h), fun _ => ⟨rfl, fun n => by rw [getD_put, get_same hb]⟩⟩
        · exact ⟨true, fun _ => rfl, fun s' w' h1 => by (rw [hg] at h1; cases h1; exact .inl (by simpa using hb)), fun _ => run (get_same hb) h, fun h => by cases h⟩
    · rename_i hb
      simp only [Option.some.injEq, Prod.mk.injEq] at h
      obtain ⟨rfl, rfl⟩ := h
      exact ⟨false, fun h1 => by (rw [hg] at h1; cases h1), fun s' w' h1 => by (rw [hg] at h1; cases h1; exact .inr ⟨rfl, hb⟩), fun h => by (cases h), fun _ => ⟨rfl, fun n => by rw [getD_put]⟩⟩
    · simp at h

end

/-- What the light form of one operation of a region is. -/
structure LOp (P : Program) (N : Nat) (ops : Array Oper) (o : Oper) (gi : GI) : Prop where
  d : gi.d = o.dst
  i : ∃ frz, lightOp P frz o = some gi.i
  lt : ∀ d, o.dst = some d → d < N
  g : (o.guard = none ∧ gi.g = none) ∨ ∃ j want oj s, o.guard = some (j, want) ∧ ops[j]? = some oj ∧ oj.dst = some s ∧ gi.g = some (s, want)

theorem lightOps_spec {P : Program} {frz : List Nat} {N : Nat} {ops : Array Oper} : ∀ {l : List Oper} {gs : List GI}, lightOps P frz N ops l = some gs →
    gs.length = l.length ∧ ∀ (j : Nat) (o : Oper) (gi : GI), l[j]? = some o → gs[j]? = some gi → LOp P N ops o gi
  | [], gs, h => by simp [lightOps] at h; subst h; simp
  | o :: r, gs, h => by
    simp only [lightOps] at h
    split at h
    · rename_i i g gs' h1 h2 h3
      split at h
      · rename_i h4
        simp at h; subst h
        obtain ⟨ih1, ih2⟩ := lightOps_spec h3
        refine ⟨by simp [ih1], fun j o' gi h5 h6 => ?_⟩
        cases j with
        | zero =>
          simp at h5 h6
          subst h5; subst h6
          refine ⟨rfl, ⟨_, h1⟩, fun d hd => by rw [hd] at h4; simpa [dstOK] using h4, ?_⟩
          unfold guardL at h2
          split at h2
          · rename_i hg
            simp at h2; exact .inl ⟨hg, h2.symm⟩
          · rename_i k want hg
            split at h2
            · rename_i s hs
              simp at h2
              rw [Option.bind_eq_some_iff] at hs
              obtain ⟨oj, h7, h8⟩ := hs
              exact .inr ⟨k, want, oj, s, hg, h7, h8, h2.symm⟩
            · simp at h2
        | succ j => exact ih2 j o' gi (by simpa using h5) (by simpa using h6)
      · simp at h
    · simp at h

section
variable {P : Program} {o : Oper} {ops : Array Oper} {a : Act} {m : Bool} {ρ : Map} {H H' : Heap} {w w' : World} {τ τ' : Env} {N : Nat} {T : Tab} {v : SV} {gi : GI}

/-- One step, in a state that agrees in what the step reads. -/
theorem step_sound (hT : TabOK P T) (hl : LOp P N ops o gi) (hm : m = true → gi.i.mono T = true) (hN : a.tmps.size = N) (hd : a.defers = []) (hr : ∀ s ∈ gi.reads, VRel ρ w (Tm.get τ s) (a.tmps.getD s undef)) (hH : HRel ρ H w)
    (hun : Unb ρ H H') (he : stepG T gi τ H = some (τ', H')) {K : Act → World → Prop} {Q : Exit → Act → World → Prop}
    (hK : ∀ v u w' ρ', Good m ρ H w v H' u w' ρ' → (∀ n, Tm.get τ' n = if gi.d = some n then v else Tm.get τ n) → K (a.put o.dst u) w') :
    if Region.wanted o (yielded ops a.tmps) = true then o.wp P a w K Q else K (a.put o.dst undef) w := by
  obtain ⟨b, hb1, hb2, hb3, hb4⟩ := stepG_spec he
  have hw : Region.wanted o (yielded ops a.tmps) = b := by
    unfold Region.wanted
    rcases hl.g with ⟨h1, h2⟩ | ⟨j, want, oj, s, h1, h2, h3, h4⟩
    · rw [h1, hb1 h2]
    · rw [h1]
      have h6 := hr s (by simp [GI.reads, h4])
      rcases hb2 s want h4 with h5 | ⟨rfl, h5⟩
      · rw [h5] at h6
        simp only [VRel] at h6
        have h7 : a.tmps[s]? = some (.bool (if b = true then want else !want)) := by
          rw [Array.getD_eq_getD_getElem?] at h6
          cases hs : a.tmps[s]? with
          | none => rw [hs] at h6; simp [undef] at h6
          | some x => rw [hs] at h6; simpa using h6
        simp only [yielded, h2, Option.bind_some, h3, h7]
        cases b <;> cases want <;> rfl
      · rw [h5] at h6
        simp only [VRel, VRels] at h6
        obtain ⟨us, h6, _⟩ := h6
        simp only [yielded, h2, Option.bind_some, h3]
        rw [Array.getD_eq_getD_getElem?] at h6
        cases hs : a.tmps[s]? with
        | none => rfl
        | some x => rw [hs] at h6; simp at h6; subst h6; rfl
  rw [hw]
  cases b with
  | true =>
    obtain ⟨v, h1, h2⟩ := hb3 rfl
    rw [if_pos rfl]
    obtain ⟨frz, hli⟩ := hl.i
    let τ1 : Env := gi.reads.map fun s => (s, Tm.get τ s)
    have hget : ∀ (l : List Nat) n, Tm.get (l.map fun s => (s, Tm.get τ s)) n = if n ∈ l then Tm.get τ n else .junk := by
      intro l n
      induction l with
      | nil => rfl
      | cons x l ih =>
        rw [List.map_cons, Tm.get_cons, ih]
        by_cases h : x = n
        · subst h; simp
        · rw [if_neg h]
          by_cases h' : n ∈ l
          · simp [h']
          · rw [if_neg h', if_neg (by simp [h']; exact fun e => h e.symm)]
    have ht : TRel ρ w τ1 a N := ⟨hN, hd, fun n => by
      rw [hget]
      split
      · rename_i hn; exact hr n hn
      · simp [VRel]⟩
    have hrun : runI T gi.i τ1 H (fun v H => some (v, H)) = some (v, H') := by
      rw [← h1]
      refine runI_congr fun s hs => ?_
      rw [hget, if_pos]
      unfold GI.reads
      split
      · exact hs
      · exact List.mem_cons_of_mem _ hs
    exact op_sound hT hli hm ht hH hun hrun K Q fun u w' ρ' hg => hK v u w' ρ' hg h2
  | false =>
    obtain ⟨rfl, h2⟩ := hb4 rfl
    rw [if_neg (by simp)]
    exact hK (.tup []) undef w ρ (Good.same hH (by simp [VRel, VRels, undef])) h2

theorem put_size {d : Option Nat} {u : Value} : (a.put d u).tmps.size = a.tmps.size := by
  cases d <;> simp [Act.put]
theorem put_defers' {d : Option Nat} {u : Value} : (a.put d u).defers = a.defers := by
  cases d <;> rfl
theorem put_get {d : Option Nat} {u : Value} (hd : ∀ k, d = some k → k < a.tmps.size) (n : Nat) : (a.put d u).tmps.getD n undef = if d = some n then u else a.tmps.getD n undef := by
  cases d with
  | none => simp [Act.put]
  | some k =>
    simp only [Act.put, Array.getD_eq_getD_getElem?, Option.some.injEq]
    by_cases h : k = n
    · subst h; simp [hd k rfl]
    · rw [if_neg h, Array.getElem?_setIfInBounds_ne h]

/-- Where a walk stands. -/
structure At (P : Program) (N : Nat) (ρ : Map) (H : Heap) (w : World) (τ : Env) (a : Act) : Prop where
  t : TRel ρ w τ a N
  h : HRel ρ H w
  u : ∀ β, H.length ≤ β → ρ β = .unborn

theorem At.step (hat : At P N ρ H w τ a) (hl : LOp P N ops o gi) {u : Value} {ρ' : Map} (hg : Good m ρ H w v H' u w' ρ') (hn : ∀ n, Tm.get τ' n = if gi.d = some n then v else Tm.get τ n) :
    At P N ρ' H' w' τ' (a.put o.dst u) where
  t := ⟨by rw [put_size]; exact hat.t.1, by rw [put_defers']; exact hat.t.2.1, fun n => by
    rw [hn, put_get (fun k hk => by rw [hat.t.1]; exact hl.lt k hk), hl.d]
    split
    · exact hg.vrel
    · exact (hat.t.2.2 n).step hg.step⟩
  h := hg.hrel
  u β hβ := hg.unb β (hat.u β (Nat.le_trans hg.len hβ)) (.inr hβ)

theorem list_sound (hT : TabOK P T) {Q : Exit → Act → World → Prop} : ∀ {l : List Oper} {gs : List GI} {τ : Env} {H : Heap} {ρ : Map} {a : Act} {w : World} {R : Type} {k : Env → Heap → Option R} {r : R},
    gs.length = l.length → (∀ (j : Nat) (o : Oper) (gi : GI), l[j]? = some o → gs[j]? = some gi → LOp P N ops o gi) → At P N ρ H w τ a → runR T gs τ H k = some r →
    (∀ τ' H' ρ' a' w', At P N ρ' H' w' τ' a' → Step ρ w ρ' w' → k τ' H' = some r → Q .normal a' w') → wpList P ops Q l a w
  | [], [], τ, H, ρ, a, w, R, k, r, _, _, hat, he, hQ => by
    simp only [runR] at he
    exact hQ τ H ρ a w hat (Step.refl _ _) he
  | [], _ :: _, _, _, _, _, _, _, _, _, h, _, _, _, _ => by simp at h
  | _ :: _, [], _, _, _, _, _, _, _, _, h, _, _, _, _ => by simp at h
  | o :: l, gi :: gs, τ, H, ρ, a, w, R, k, r, hlen, hls, hat, he, hQ => by
    rw [runR_cons, Option.bind_eq_some_iff] at he
    obtain ⟨⟨τ1, H1⟩, h1, h2⟩ := he
    have hl := hls 0 o gi rfl rfl
    unfold wpList
    have := step_sound (m := false) (Q := Q) (K := wpList P ops Q l) hT hl (by simp) hat.t.1 hat.t.2.1 (fun s _ => hat.t.2.2 s) hat.h (fun β hβ _ => hat.u β hβ) h1
      (fun v u w' ρ' hg hn => list_sound hT (by simpa using hlen) (fun j o gi h3 h4 => hls (j + 1) o gi h3 h4) (hat.step hl hg hn) h2
        (fun τ' H' ρ'' a' w'' hat' hst hk => hQ τ' H' ρ'' a' w'' hat' (hg.step.trans hst) hk))
    split
    · rename_i hw; rw [if_pos hw] at this; exact .inl this
    · rename_i hw; rw [if_neg hw] at this; exact this
end
end Go.Proofs.Ytjnkefbdpcbkmaa.Den
