/- A function's contract from the reading of its body. -/
import Derived.Test.YtjnkefbdpcbkmaaD18
namespace Go.Proofs.Ytjnkefbdpcbkmaa.Den
open Go Go.RowKit
set_option linter.unusedVariables false
set_option linter.unusedSimpArgs false

def takeCs : List (Kd × Bool) → List SV → Heap → Option (List SV × Heap)
  | [], [], H => some ([], H)
  | (.list e, true) :: r, s :: ss, H => match fixV H e true s with
    | some (.own β, H1) => match H1[β]? with
      | some (.arr e' xs t) => match takeCs r ss (H1.set β .dead) with
        | some (l, H2) => some (.es e' xs :: l, H2)
        | none => none
      | _ => none
    | _ => none
  | _ :: r, s :: ss, H => match takeCs r ss H with
    | some (l, H2) => some (s :: l, H2)
    | none => none
  | _, _, _ => none

def takePs : List Pm → List SV → Heap → Option (List SV × Heap)
  | [], [], H => some ([], H)
  | p :: r, s :: ss, H => match cellsP p.ag s with
    | some cs => match takeCs p.cs cs H with
      | some (l, H1) => match takePs r ss H1 with
        | some (ls, H2) => some ((match p.ag with
          | true => .agg l
          | false => l.headD .junk) :: ls, H2)
        | none => none
      | none => none
    | none => none
  | _, _, _ => none

def lightRes (P : Program) : List ResultVar → Option (List (Nat × Option (Nat × Bool)))
  | [] => some []
  | .tmp t :: r => (lightRes P r).map ((t, none) :: ·)
  | .cell a t :: r => match P.info? t, isAggL P t, lightRes P r with
    | some i, some ag, some l => if ag = false → i.size = 1 then some ((a, some (i.size, ag)) :: l) else none
    | _, _, _ => none

def evalRes (τ : Env) (H : Heap) : List (Nat × Option (Nat × Bool)) → Option (List SV)
  | [] => some []
  | (t, none) :: r => match evalRes τ H r with
    | some l => some (Tm.get τ t :: l)
    | none => none
  | (a, some (n, ag)) :: r => match ldI H n ag (Tm.get τ a) some, evalRes τ H r with
    | some v, some l => some (v :: l)
    | _, _ => none

def outPs (rs : List Pm) (ss : List SV) (H : Heap) : Option (PsT rs) :=
  match takePs rs ss H with
  | some (ls, H2) => viewPs H2 rs ls
  | none => none

def endF (rv : List (Nat × Option (Nat × Bool))) (rs : List Pm) (ex : Ex) (τ : Env) (H : Heap) : Option (PsT rs) :=
  match ex with
  | .exit _ => none
  | _ => match evalRes τ H rv with
    | some ss => outPs rs ss H
    | none => none

def env0 : List SV → Nat → Env
  | [], _ => []
  | s :: ss, k => (k, s) :: env0 ss (k + 1)

section
variable {P : Program} {w : World} {ρ ρ' : Map} {H H' : Heap}

theorem ld_spec {t : TypeId} {s v : SV} {val : Value} {i : TypeInfo} {ag : Bool} (hi : P.info? t = some i) (ha : isAggL P t = some ag) (hH : HRel ρ H w) (hx : VRel ρ w s val)
    (he : ldI H i.size ag s some = some v) : ∃ ad, val = .pointer (some ad) ∧ ∃ u, (loadVar t ad).run P w = .ok u w ∧ VRel ρ w v u := by
  unfold ldI at he
  split at he
  · rename_i β off
    split at he
    · rename_i cs t' z hb
      obtain ⟨v', hk, h1, h2⟩ := getC_some he
      simp at hk; subst hk
      obtain ⟨b, o', n, sz, hr, hu⟩ := ptr_rel hH hb (by simp) hx
      obtain ⟨C, tC, hC, _, _, _, hcs, hm⟩ := cells_of hH hb hr
      refine ⟨_, hu, ?_⟩
      rw [← add_plain]
      exact ld_core hi ha hcs hm h1 h2
    · rename_i K xs t' hb
      split at he
      · obtain ⟨hl, hk⟩ := tst_some he
        simp at hk; subst hk
        obtain ⟨b, o', n, sz, hr, hu⟩ := ptr_rel hH hb (by simp) hx
        have hlt : β < H.length := (List.getElem?_eq_some_iff.1 hb).1
        obtain ⟨y, h1, h2⟩ := hH.at_ β hlt _ _ _ _ hr
        rw [hb] at h1; simp at h1; subst h1
        simp only [BRel] at h2
        obtain ⟨rfl, rfl, C, tC, hC, hle, hrow⟩ := h2
        have hl' : xs.length * K.sz = i.size := by simpa using hl
        refine ⟨_, hu, .agg ((C.toList.drop o').take i.size).toArray, ?_, ?_⟩
        · refine run_loadVar_agg ha hi (by simp; omega) fun j u hj => ?_
          rw [List.getElem?_take] at hj
          split at hj
          · rw [List.getElem?_drop, Array.getElem?_toList] at hj
            rw [add_plain, cell_of_heap hC]; exact hj
          · simp at hj
        · simp only [VRel]
          refine ⟨_, rfl, by simp; omega, fun k x hx => ?_⟩
          obtain ⟨es, h3, h4⟩ := hrow k x hx
          refine ⟨es, h3, fun j u hj => ?_⟩
          have hk : k < xs.length := (List.getElem?_eq_some_iff.1 hx).1
          have hj' : j < K.sz := by rw [← h3.length]; exact (List.getElem?_eq_some_iff.1 hj).1
          have : (k + 1) * K.sz ≤ xs.length * K.sz := Nat.mul_le_mul_right _ hk
          rw [Nat.add_mul, Nat.one_mul] at this
          rw [List.getElem?_toArray, List.getElem?_take, if_pos (by omega), List.getElem?_drop, Array.getElem?_toList, ← Nat.add_assoc]
          exact h4 j u hj
      · simp at he
    · simp at he
  · rename_i β k j
    split at he
    · rename_i K xs t' hb
      obtain ⟨hk, he⟩ := tst_some he
      obtain ⟨v', hk', h1, h2⟩ := getC_some he
      simp at hk'; subst hk'
      obtain ⟨b, o', n, sz, hr, hu⟩ := aptr_rel hH hb (by simp) hx
      obtain ⟨_, _, C, tC, hC, _, hrow⟩ := row_of hH hb hr
      obtain ⟨es, h3, h4⟩ := hrow k (by simpa using hk)
      refine ⟨_, hu, ?_⟩
      rw [← add_plain]
      exact ld_core hi ha (enc_rel h3) h4 h1 h2
    · simp at he
  · rename_i K y j
    obtain ⟨v', hk', h1, h2⟩ := getC_some he
    simp at hk'; subst hk'
    simp only [VRel] at hx
    obtain ⟨ad, es, hu, h3, h5, h4⟩ := hx
    exact ⟨_, hu, ld_core hi ha (enc_rel h3) h4 h1 h2⟩
  · simp at he

def resStep (tmps : Array Value) : ResultVar → Sem Value
  | .tmp t => pure (tmps.getD t undef)
  | .cell a t => do loadVar t (← asAddr (tmps.getD a undef))

theorem results_eq (fn : Func) (tmps : Array Value) : results fn tmps = (do let vs ← fn.results.mapM (resStep tmps); pure (resU vs)) := by
  have : (fun r : ResultVar => (match r with
      | .tmp t => pure (tmps.getD t undef)
      | .cell a t => do loadVar t (← asAddr (tmps.getD a undef)) : Sem Value)) = resStep tmps := by
    funext r; cases r <;> rfl
  rw [← this]
  rfl

theorem results_list {τ : Env} {a : Act} {N : Nat} (ht : TRel ρ w τ a N) (hH : HRel ρ H w) : ∀ {l : List ResultVar} {rv : List (Nat × Option (Nat × Bool))} {ss : List SV}, lightRes P l = some rv → evalRes τ H rv = some ss →
    ∃ vs, (l.mapM (resStep a.tmps)).run P w = .ok vs w ∧ VRels ρ w ss vs
  | [], rv, ss, h1, h2 => by
    simp [lightRes] at h1; subst h1
    simp [evalRes] at h2; subst h2
    exact ⟨[], rfl, by simp [VRels]⟩
  | .tmp t :: r, rv, ss, h1, h2 => by
    simp only [lightRes] at h1
    obtain ⟨l, h3, rfl⟩ := Option.map_eq_some_iff.1 h1
    simp only [evalRes] at h2
    split at h2
    · rename_i l' h4
      simp only [Option.some.injEq] at h2; subst h2
      obtain ⟨vs, h5, h6⟩ := results_list ht hH h3 h4
      refine ⟨a.tmps.getD t undef :: vs, ?_, ?_⟩
      · simp only [List.mapM_cons, Sem.run_bind, resStep, Sem.run_pure, Result.andThen_ok, h5]
      · simp only [VRels]; exact ⟨_, _, rfl, ht.2.2 t, h6⟩
    · simp at h2
  | .cell x t :: r, rv, ss, h1, h2 => by
    simp only [lightRes] at h1
    split at h1
    · rename_i i ag l hi ha h3
      split at h1
      · simp only [Option.some.injEq] at h1; subst h1
        simp only [evalRes] at h2
        split at h2
        · rename_i v l' hv h4
          simp only [Option.some.injEq] at h2; subst h2
          obtain ⟨vs, h5, h6⟩ := results_list ht hH h3 h4
          obtain ⟨ad, h7, u, h8, h9⟩ := ld_spec hi ha hH (ht.2.2 x) hv
          refine ⟨u :: vs, ?_, ?_⟩
          · have h10 : (resStep a.tmps (.cell x t)).run P w = .ok u w := by
              simp [resStep, h7, asAddr, h8]
            simp only [List.mapM_cons, Sem.run_bind, h10, Sem.run_pure, Result.andThen_ok, h5]
          · simp only [VRels]; exact ⟨_, _, rfl, h9, h6⟩
        · simp at h2
      · simp at h1
    · simp at h1

theorem results_sound {fn : Func} {τ : Env} {a : Act} {N : Nat} {rv : List (Nat × Option (Nat × Bool))} {ss : List SV} (ht : TRel ρ w τ a N) (hH : HRel ρ H w) (h1 : lightRes P fn.results.toList = some rv) (h2 : evalRes τ H rv = some ss) :
    ∃ vs : Array Value, (results fn a.tmps).run P w = .ok (resU vs) w ∧ VRels ρ w ss vs.toList := by
  obtain ⟨vs, h3, h4⟩ := results_list ht hH h1 h2
  refine ⟨vs.toArray, ?_, by simpa using h4⟩
  rw [results_eq, Sem.run_bind, Array.mapM_eq_mapM_toList, Sem.run_map, h3]
  rfl

/-! ### handing over -/
def Map.take (ρ : Map) (β b : Nat) : Map := ⟨fun γ => if γ = β then .dead else ρ γ, fun x => ρ.res x ∨ x = b⟩

theorem take_free {β b o n sz : Nat} (hr : ρ β = .at b o n sz) (x : Nat) (h : Free ρ w x) : Free (ρ.take β b) w x := by
  refine ⟨h.1, ?_, fun γ o' n' sz' hg => ?_⟩
  · rintro (h1 | rfl)
    · exact h.2.1 h1
    · exact h.2.2 _ _ _ _ hr
  · simp only [Map.take] at hg
    split at hg
    · cases hg
    · exact h.2.2 _ _ _ _ hg

theorem take_step {β b o n sz : Nat} (hr : ρ β = .at b o n sz) : StepF ρ w (ρ.take β b) w where
  free := take_free hr
  kept _ _ := rfl
  shape _ C _ _ h := ⟨C, h, rfl⟩
  ref γ _ := by
    simp only [Map.take]
    split
    · exact .inr rfl
    · exact .inl rfl

theorem dead_step {β : Nat} : StepF ρ w (ρ.kill [β]) w := (Step.kill [β]).toF

theorem HRel.take (h : HRel ρ H w) {β b o n sz : Nat} (hr : ρ β = .at b o n sz) : HRel (ρ.take β b) (H.set β .dead) w where
  dead γ hl hd := by
    by_cases e : β = γ
    · subst e; simp at hl; simp [hl]
    · rw [List.getElem?_set_ne e]
      simp only [Map.take, if_neg (Ne.symm e)] at hd
      exact h.dead γ (by simpa using hl) hd
  none_ γ hl hd := by
    have e : β ≠ γ := by rintro rfl; simp [Map.take] at hd
    rw [List.getElem?_set_ne e]
    simp only [Map.take, if_neg (Ne.symm e)] at hd
    exact h.none_ γ (by simpa using hl) hd
  at_ γ hl b' o' n' sz' hd := by
    have e : β ≠ γ := by rintro rfl; simp [Map.take] at hd
    rw [List.getElem?_set_ne e]
    simp only [Map.take, if_neg (Ne.symm e)] at hd
    obtain ⟨x, h1, h2⟩ := h.at_ γ (by simpa using hl) _ _ _ _ hd
    exact ⟨x, h1, h2.keepF (take_step hr) rfl⟩
  inj γ δ b' o1 n1 s1 o2 n2 s2 h1 h2 := by
    simp only [Map.take] at h1 h2
    split at h1
    · cases h1
    · split at h2
      · cases h2
      · exact h.inj _ _ _ _ _ _ _ _ _ h1 h2
  lt γ b' o1 n1 s1 h1 := by
    simp only [Map.take] at h1
    split at h1
    · cases h1
    · exact h.lt _ _ _ _ _ h1
  resl x hx := by
    rcases hx with hx | rfl
    · exact h.resl x hx
    · exact h.lt _ _ _ _ _ hr
  resf γ b' o1 n1 s1 h1 hx := by
    simp only [Map.take] at h1
    split at h1
    · cases h1
    · rename_i hne
      rcases hx with hx | rfl
      · exact h.resf _ _ _ _ _ h1 hx
      · exact hne (h.inj _ _ _ _ _ _ _ _ _ h1 hr)

theorem StepF.trans {ρ1 : Map} (h : StepF ρ w ρ1 w) (k : StepF ρ1 w ρ' w) : StepF ρ w ρ' w where
  free b hb := k.free b (h.free b hb)
  kept _ _ := rfl
  shape _ C _ _ h := ⟨C, h, rfl⟩
  ref β hu := by
    rcases h.ref β hu with e | e
    · rcases k.ref β (by rw [e]; exact hu) with e2 | e2
      · exact .inl (e2.trans e)
      · exact .inr e2
    · rcases k.ref β (by rw [e]; simp) with e2 | e2
      · exact .inr (e2.trans e)
      · exact .inr e2

def TkRel (ρ : Map) (w : World) : List (Kd × Bool) → List SV → List Value → List Nat → Prop
  | [], l, us, tk => l = [] ∧ us = [] ∧ tk = []
  | (.list e, true) :: r, l, us, tk => ∃ (e' : Kd) (xs : List e'.T) (l' : List SV) (u : Value) (us' : List Value) (t1 t2 : List Nat), l = .es e' xs :: l' ∧ us = u :: us' ∧ tk = t1 ++ t2 ∧ OwnAt w (Free ρ w) e' xs u t1 ∧ TkRel ρ w r l' us' t2
  | _ :: r, l, us, tk => ∃ s l' u us', l = s :: l' ∧ us = u :: us' ∧ VRel ρ w s u ∧ TkRel ρ w r l' us' tk

/-- What a walk of handing over leaves. -/
structure Gave (ρ : Map) (H : Heap) (w : World) (ρ' : Map) (H' : Heap) (tk : List Nat) : Prop where
  h : HRel ρ' H' w
  u : ∀ β, H'.length ≤ β → ρ' β = .unborn
  st : StepF ρ w ρ' w
  nd : tk.Nodup
  tks : ∀ b ∈ tk, ρ'.res b ∧ ∃ β o n sz, ρ β = .at b o n sz
  res : ∀ b, ρ.res b → ρ'.res b
  res' : ∀ b, ρ'.res b → ρ.res b ∨ b ∈ tk
  img : ∀ β b o n sz, ρ' β = .at b o n sz → ∃ γ o' n' sz', ρ γ = .at b o' n' sz'

theorem Gave.refl (h : HRel ρ H w) (u : ∀ β, H.length ≤ β → ρ β = .unborn) : Gave ρ H w ρ H [] :=
  ⟨h, u, (Step.refl ρ w).toF, by simp, by simp, fun _ h => h, fun _ h => .inl h, fun β b o n sz h => ⟨β, o, n, sz, h⟩⟩

theorem Gave.trans {ρ1 : Map} {H1 : Heap} {t1 t2 : List Nat} (h : Gave ρ H w ρ1 H1 t1) (k : Gave ρ1 H1 w ρ' H' t2) : Gave ρ H w ρ' H' (t1 ++ t2) where
  h := k.h
  u := k.u
  st := h.st.trans k.st
  nd := by
    rw [List.nodup_append]
    refine ⟨h.nd, k.nd, fun a ha b hb e => ?_⟩
    subst e
    obtain ⟨_, β, o, n, sz, h1⟩ := k.tks a hb
    exact h.h.resf _ _ _ _ _ h1 (h.tks a ha).1
  tks b hb := by
    rcases List.mem_append.1 hb with h1 | h1
    · exact ⟨k.res b (h.tks b h1).1, (h.tks b h1).2⟩
    · obtain ⟨h2, β, o, n, sz, h3⟩ := k.tks b h1
      exact ⟨h2, h.img _ _ _ _ _ h3⟩
  res b hb := k.res b (h.res b hb)
  res' b hb := by
    rcases k.res' b hb with h1 | h1
    · rcases h.res' b h1 with h2 | h2
      · exact .inl h2
      · exact .inr (List.mem_append.2 (.inl h2))
    · exact .inr (List.mem_append.2 (.inr h1))
  img β b o n sz hb := by
    obtain ⟨γ, o', n', sz', h1⟩ := k.img β b o n sz hb
    exact h.img _ _ _ _ _ h1

theorem Gave.of_good {v : SV} {u : Value} (hg : Good false ρ H w v H' u w ρ') (hH : HRel ρ H w) (hu : ∀ β, H.length ≤ β → ρ β = .unborn) : Gave ρ H w ρ' H' [] where
  h := hg.hrel
  u β hβ := hg.unb β (hu β (Nat.le_trans hg.len hβ)) (.inr hβ)
  st := hg.step.toF
  nd := by simp
  tks := by simp
  res b hb := by rw [hg.step.res]; exact hb
  res' b hb := by rw [hg.step.res] at hb; exact .inl hb
  img β b o n sz hb := by
    rcases hg.step.img β b o n sz hb with h | h
    · exact h
    · have := hg.hrel.lt _ _ _ _ _ hb; omega

theorem Gave.of_take (hH : HRel ρ H w) (hu : ∀ β, H.length ≤ β → ρ β = .unborn) {β b o n sz : Nat} (hl : β < H.length) (hr : ρ β = .at b o n sz) : Gave ρ H w (ρ.take β b) (H.set β .dead) [b] where
  h := hH.take hr
  u γ hγ := by
    simp only [List.length_set] at hγ
    simp only [Map.take]; rw [if_neg (by omega)]; exact hu γ hγ
  st := take_step hr
  nd := by simp
  tks x hx := by simp at hx; subst hx; exact ⟨.inr rfl, β, o, n, sz, hr⟩
  res x hx := .inl hx
  res' x hx := hx.imp id fun h => by simp [h]
  img γ x o' n' sz' h := by
    simp only [Map.take] at h
    split at h
    · cases h
    · exact ⟨_, _, _, _, h⟩

theorem Gave.of_none (hH : HRel ρ H w) (hu : ∀ β, H.length ≤ β → ρ β = .unborn) {β : Nat} (hl : β < H.length) : Gave ρ H w (ρ.kill [β]) (H.set β .dead) [] where
  h := hH.kill [β]
  u γ hγ := by simp only [List.length_set] at hγ; exact kill_reborn (hu γ hγ)
  st := dead_step
  nd := by simp
  tks := by simp
  res _ h := h
  res' _ h := .inl h
  img γ x o' n' sz' h := by
    simp only [Map.kill] at h
    split at h
    · cases h
    · exact ⟨_, _, _, _, h⟩

theorem TkRel.step (h : StepF ρ w ρ' w) : ∀ {cs : List (Kd × Bool)} {l : List SV} {us : List Value} {tk : List Nat}, TkRel ρ w cs l us tk → TkRel ρ' w cs l us tk
  | [], _, _, _, hr => hr
  | (.list e, true) :: r, _, _, _, hr => by
    simp only [TkRel] at hr ⊢
    obtain ⟨e', xs, l', u, us', t1, t2, h1, h2, h3, h4, h5⟩ := hr
    exact ⟨e', xs, l', u, us', t1, t2, h1, h2, h3, h4.mono h.free, TkRel.step h h5⟩
  | (.list e, false) :: r, _, _, _, hr | (.int _, _) :: r, _, _, _, hr | (.bool, _) :: r, _, _, _, hr | (.unit, _) :: r, _, _, _, hr | (.pair _ _, _) :: r, _, _, _, hr => by
    simp only [TkRel] at hr ⊢
    obtain ⟨s, l', u, us', h1, h2, h3, h4⟩ := hr
    exact ⟨s, l', u, us', h1, h2, h3.stepF h, TkRel.step h h4⟩

theorem takeCs_sound : ∀ {cs : List (Kd × Bool)} {ss l : List SV} {us : List Value} {ρ : Map} {H H' : Heap}, HRel ρ H w → (∀ β, H.length ≤ β → ρ β = .unborn) → VRels ρ w ss us → takeCs cs ss H = some (l, H') →
    ∃ ρ' tk, Gave ρ H w ρ' H' tk ∧ TkRel ρ' w cs l us tk
  | [], [], l, us, ρ, H, H', hH, hu, hv, he => by
    simp only [takeCs, Option.some.injEq, Prod.mk.injEq] at he
    obtain ⟨rfl, rfl⟩ := he
    simp only [VRels] at hv; subst hv
    exact ⟨ρ, [], Gave.refl hH hu, rfl, rfl, rfl⟩
  | [], _ :: _, l, us, ρ, H, H', hH, hu, hv, he => by simp [takeCs] at he
  | (.list e, true) :: r, [], l, us, ρ, H, H', hH, hu, hv, he => by simp [takeCs] at he
  | (.list e, true) :: r, s :: ss, l, us, ρ, H, H', hH, hu, hv, he => by
    simp only [takeCs] at he
    simp only [VRels] at hv
    obtain ⟨u, us', rfl, hv1, hv2⟩ := hv
    split at he
    · rename_i β H1 hf
      obtain ⟨ρ1, hg⟩ := fixV_sound hH hv1 (hu _ (Nat.le_refl _)) hf
      have g1 := Gave.of_good hg hH hu
      split at he
      · rename_i e' xs t hb
        have hlt : β < H1.length := (List.getElem?_eq_some_iff.1 hb).1
        split at he
        · rename_i l2 H2 h2
          simp only [Option.some.injEq, Prod.mk.injEq] at he
          obtain ⟨rfl, rfl⟩ := he
          rcases own_rel hg.hrel hb (by simp) hg.vrel with ⟨hr, ad, rfl⟩ | ⟨b, o, n, sz, c, hr, hc, rfl, hroom⟩
          · have := none_arr hg.hrel hb hr; subst this
            have g2 := Gave.of_none g1.h g1.u hlt
            obtain ⟨ρ3, tk3, g3, h3⟩ := takeCs_sound g2.h g2.u ((hv2.stepF g1.st).stepF g2.st) h2
            refine ⟨ρ3, tk3, by simpa using (g1.trans g2).trans g3, ?_⟩
            simp only [TkRel]
            exact ⟨e', [], l2, _, us', [], tk3, rfl, rfl, rfl, .inl ⟨rfl, rfl, ad, rfl⟩, h3⟩
          · have g2 := Gave.of_take g1.h g1.u hlt hr
            obtain ⟨ρ3, tk3, g3, h3⟩ := takeCs_sound g2.h g2.u ((hv2.stepF g1.st).stepF g2.st) h2
            refine ⟨ρ3, b :: tk3, by simpa using (g1.trans g2).trans g3, ?_⟩
            obtain ⟨rfl, rfl, C, tC, hC, hle, hrow⟩ := row_raw hg.hrel hb hr
            obtain ⟨C2, t2, hC2, hroom⟩ := hroom
            rw [hC] at hC2
            simp only [Option.some.injEq, Obj.cells.injEq] at hC2
            obtain ⟨rfl, _⟩ := hC2
            simp only [TkRel]
            refine ⟨e', xs, l2, _, us', [b], tk3, rfl, rfl, rfl, .inr ⟨b, o, c, C, tC, rfl, rfl, hc, hC, hroom, fun i x hx => ?_⟩, h3⟩
            obtain ⟨es, h4, h5⟩ := hrow i x hx
            exact ⟨es, CRel.mono (fun b hb => g3.st.free b (g2.st.free b hb)) (fun _ _ => rfl) h4, h5⟩
        · simp at he
      · simp at he
    · simp at he
  | (.list e, false) :: r, [], l, us, ρ, H, H', hH, hu, hv, he | (.int _, _) :: r, [], l, us, ρ, H, H', hH, hu, hv, he | (.bool, _) :: r, [], l, us, ρ, H, H', hH, hu, hv, he | (.unit, _) :: r, [], l, us, ρ, H, H', hH, hu, hv, he | (.pair _ _, _) :: r, [], l, us, ρ, H, H', hH, hu, hv, he => by
    simp [takeCs] at he
  | (.list e, false) :: r, s :: ss, l, us, ρ, H, H', hH, hu, hv, he | (.int _, _) :: r, s :: ss, l, us, ρ, H, H', hH, hu, hv, he | (.bool, _) :: r, s :: ss, l, us, ρ, H, H', hH, hu, hv, he | (.unit, _) :: r, s :: ss, l, us, ρ, H, H', hH, hu, hv, he | (.pair _ _, _) :: r, s :: ss, l, us, ρ, H, H', hH, hu, hv, he => by
    simp only [takeCs] at he
    simp only [VRels] at hv
    obtain ⟨u, us', rfl, hv1, hv2⟩ := hv
    split at he
    · rename_i l2 H2 h2
      simp only [Option.some.injEq, Prod.mk.injEq] at he
      obtain ⟨rfl, rfl⟩ := he
      obtain ⟨ρ3, tk3, g3, h3⟩ := takeCs_sound hH hu hv2 h2
      refine ⟨ρ3, tk3, g3, ?_⟩
      simp only [TkRel]
      exact ⟨s, l2, u, us', rfl, rfl, hv1.stepF g3.st, h3⟩
    · simp at he

def TkPs (ρ : Map) (w : World) : List Pm → List SV → List Value → List Nat → Prop
  | [], l, vs, tk => l = [] ∧ vs = [] ∧ tk = []
  | p :: r, ls, vs, tk => ∃ l ls' v vs' t1 t2, ls = (match p.ag with
      | true => .agg l
      | false => l.headD .junk) :: ls' ∧ vs = v :: vs' ∧ tk = t1 ++ t2 ∧ (match p.ag with
      | true => ∃ us : Array Value, v = .agg us ∧ TkRel ρ w p.cs l us.toList t1
      | false => TkRel ρ w p.cs l [v] t1) ∧ TkPs ρ w r ls' vs' t2

theorem takePs_sound : ∀ {ps : List Pm} {ss ls : List SV} {vs : List Value} {ρ : Map} {H H' : Heap}, HRel ρ H w → (∀ β, H.length ≤ β → ρ β = .unborn) → VRels ρ w ss vs → takePs ps ss H = some (ls, H') →
    ∃ ρ' tk, Gave ρ H w ρ' H' tk ∧ TkPs ρ' w ps ls vs tk
  | [], [], ls, vs, ρ, H, H', hH, hu, hv, he => by
    simp only [takePs, Option.some.injEq, Prod.mk.injEq] at he
    obtain ⟨rfl, rfl⟩ := he
    simp only [VRels] at hv; subst hv
    exact ⟨ρ, [], Gave.refl hH hu, rfl, rfl, rfl⟩
  | [], _ :: _, ls, vs, ρ, H, H', hH, hu, hv, he => by simp [takePs] at he
  | _ :: _, [], ls, vs, ρ, H, H', hH, hu, hv, he => by simp [takePs] at he
  | p :: r, s :: ss, ls, vs, ρ, H, H', hH, hu, hv, he => by
    simp only [takePs] at he
    simp only [VRels] at hv
    obtain ⟨v, vs', rfl, hv1, hv2⟩ := hv
    split at he
    · rename_i cs hc
      split at he
      · rename_i l H1 h1
        split at he
        · rename_i ls' H2 h2
          simp only [Option.some.injEq, Prod.mk.injEq] at he
          obtain ⟨rfl, rfl⟩ := he
          have key : ∃ us : List Value, VRels ρ w cs us ∧ (p.ag = true → ∃ a : Array Value, v = .agg a ∧ us = a.toList) ∧ (p.ag = false → us = [v]) := by
            cases hag : p.ag with
            | true =>
              rw [hag] at hc
              simp only [cellsP] at hc
              split at hc
              · simp only [Option.some.injEq] at hc; subst hc
                simp only [VRel] at hv1
                obtain ⟨a, rfl, h5⟩ := hv1
                exact ⟨a.toList, h5, fun _ => ⟨a, rfl, rfl⟩, by simp⟩
              · simp at hc
            | false =>
              rw [hag] at hc
              simp only [cellsP, Option.some.injEq] at hc; subst hc
              exact ⟨[v], VRels.single hv1, by simp, fun _ => rfl⟩
          obtain ⟨us, hus, ha, hb⟩ := key
          obtain ⟨ρ1, t1, g1, h3⟩ := takeCs_sound hH hu hus h1
          obtain ⟨ρ2, t2, g2, h4⟩ := takePs_sound g1.h g1.u (hv2.stepF g1.st) h2
          refine ⟨ρ2, t1 ++ t2, g1.trans g2, l, ls', v, vs', t1, t2, rfl, rfl, rfl, ?_, h4⟩
          cases hag : p.ag with
          | true =>
            obtain ⟨a, h5, h6⟩ := ha hag
            subst h6
            exact ⟨a, h5, h3.step g2.st⟩
          | false =>
            have h5 := hb hag
            subst h5
            exact h3.step g2.st
        · simp at he
      · simp at he
    · simp at he

theorem viewCs_out {B : Nat → Prop} (hB : ∀ b, Free ρ w b → B b) (hd : ∀ {K : Kd} {s : SV} {x : K.T} {u : Value}, decH true H K [s] = some x → VRel ρ w s u → CRel w B K x [u]) :
    ∀ {cs : List (Kd × Bool)} {l : List SV} {x : CsT cs} {us : List Value} {tk : List Nat}, viewCs H cs l = some x → TkRel ρ w cs l us tk → CsOut w B cs x us tk
  | [], l, x, us, tk, h, ht => by
    simp only [TkRel] at ht
    exact ⟨ht.2.1, ht.2.2⟩
  | (.list e, true) :: r, l, x, us, tk, h, ht => by
    simp only [TkRel] at ht
    obtain ⟨e', xs, l', u, us', t1, t2, rfl, rfl, rfl, h4, h5⟩ := ht
    simp only [viewCs] at h
    split at h
    · rename_i y z h1 h2
      simp only [Option.some.injEq] at h; subst h
      unfold decH at h1
      simp only at h1
      split at h1
      · rename_i he
        subst he
        simp only [Option.some.injEq] at h1; subst h1
        simp only [CsOut]
        exact ⟨u, us', t1, t2, rfl, rfl, h4.mono hB, viewCs_out hB hd h2 h5⟩
      · simp at h1
    · simp at h
  | (.list e, false) :: r, l, x, us, tk, h, ht | (.int _, _) :: r, l, x, us, tk, h, ht | (.bool, _) :: r, l, x, us, tk, h, ht | (.unit, _) :: r, l, x, us, tk, h, ht | (.pair _ _, _) :: r, l, x, us, tk, h, ht => by
    simp only [TkRel] at ht
    obtain ⟨s, l', u, us', rfl, rfl, h4, h5⟩ := ht
    simp only [viewCs] at h
    split at h
    · rename_i y z h1 h2
      simp only [Option.some.injEq] at h; subst h
      simp only [CsOut]
      exact ⟨u, us', rfl, hd h1 h4, viewCs_out hB hd h2 h5⟩
    · simp at h

theorem viewPs_out {B : Nat → Prop} (hB : ∀ b, Free ρ w b → B b) (hd : ∀ {K : Kd} {s : SV} {x : K.T} {u : Value}, decH true H K [s] = some x → VRel ρ w s u → CRel w B K x [u]) :
    ∀ {ps : List Pm} {ls : List SV} {x : PsT ps} {vs : List Value} {tk : List Nat}, viewPs H ps ls = some x → TkPs ρ w ps ls vs tk → PsOut w B ps x vs tk
  | [], l, x, us, tk, h, ht => by
    simp only [TkPs] at ht
    exact ⟨ht.2.1, ht.2.2⟩
  | p :: r, ls, x, vs, tk, h, ht => by
    simp only [TkPs] at ht
    obtain ⟨l, ls', v, vs', t1, t2, rfl, rfl, rfl, h4, h5⟩ := ht
    simp only [viewPs] at h
    split at h
    · rename_i cs hc
      split at h
      · rename_i y z h1 h2
        simp only [Option.some.injEq] at h; subst h
        simp only [PsOut]
        refine ⟨v, vs', t1, t2, rfl, rfl, ?_, viewPs_out hB hd h2 h5⟩
        cases hag : p.ag with
        | true =>
          rw [hag] at hc h4
          simp only [cellsP, Option.some.injEq] at hc; subst hc
          obtain ⟨us, h6, h7⟩ := h4
          exact ⟨us, h6, viewCs_out hB hd h1 h7⟩
        | false =>
          rw [hag] at hc h4
          simp only [cellsP, Option.some.injEq] at hc; subst hc
          have : l = [l.headD .junk] := by
            match l, h4 with
            | [], h4 =>
              exfalso
              match hcs : p.cs, h4 with
              | [], h4 => simp [TkRel] at h4
              | (.list e, true) :: r, h4 => simp [TkRel] at h4
              | (.list e, false) :: r, h4 | (.int _, _) :: r, h4 | (.bool, _) :: r, h4 | (.unit, _) :: r, h4 | (.pair _ _, _) :: r, h4 => simp [TkRel] at h4
            | [s], _ => rfl
            | s1 :: s2 :: l, h4 =>
              exfalso
              have len2 : ∀ {cs : List (Kd × Bool)} {l : List SV} {us : List Value} {tk : List Nat}, TkRel ρ w cs l us tk → l.length = us.length := by
                intro cs
                induction cs with
                | nil => intro l us tk h; simp only [TkRel] at h; rw [h.1, h.2.1]; rfl
                | cons c cs ih =>
                  intro l us tk h
                  match c, h with
                  | (.list e, true), h =>
                    simp only [TkRel] at h
                    obtain ⟨e', xs, l', u, us', t1, t2, rfl, rfl, rfl, _, h5⟩ := h
                    simp [ih h5]
                  | (.list e, false), h | (.int _, _), h | (.bool, _), h | (.unit, _), h | (.pair _ _, _), h =>
                    simp only [TkRel] at h
                    obtain ⟨s, l', u, us', rfl, rfl, _, h5⟩ := h
                    simp [ih h5]
              have := len2 h4
              simp at this
          rw [this] at h4
          exact viewCs_out hB hd h1 h4
      · simp at h
    · simp at h

theorem env0_get : ∀ {ss : List SV} {k n : Nat}, Tm.get (env0 ss k) n = if k ≤ n then (match ss[n - k]? with | some s => s | none => .junk) else .junk
  | [], k, n => by simp [env0, Tm.get]
  | s :: ss, k, n => by
    simp only [env0]
    rw [Tm.get_cons, env0_get]
    by_cases h : k = n
    · subst h; simp
    · rw [if_neg h]
      by_cases h2 : k ≤ n
      · rw [if_pos (by omega), if_pos h2]
        have : n - k = (n - (k + 1)) + 1 := by omega
        rw [this]; rfl
      · rw [if_neg (by omega), if_neg h2]

theorem fn_spec {T : Tab} {f : FuncId} {fn : Func} {c : Code} {tf : TF} {frz : List Nat} {ann : List Norm} {cuts : List (Nat × Norm)} {ci : C} {j fuel : Nat} {rv : List (Nat × Option (Nat × Bool))} (hT : TabOK P T) (hmix : P.follows .mixedOrders = true)
    (hf : P.funcs[f]? = some fn) (hb : fn.body = some c) (hl : lightC P frz fn.ntmps ann cuts 0 c = some (ci, j)) (ho : okC T c ci = true) (hn : tf.ps.length ≤ fn.ntmps) (hrv : lightRes P fn.results.toList = some rv)
    (hrun : ∀ x, run T 0 fuel ci (env0 (svPs tf.ps x) 0) [] (endF rv tf.rs) = tf.fn x) : FnSpec P f tf := by
  intro w res vs x y hres hps hy
  refine calls_of_wp hf hb ?_
  let ρ0 : Map := ⟨fun _ => .unborn, res⟩
  have hv : VRels ρ0 w (svPs tf.ps x) vs := svPs_rel (fun b hb => ⟨hb.1, hb.2, fun _ _ _ _ h => by cases h⟩) hps
  have hpl : ∀ {ps : List Pm} {x : PsT ps}, (svPs ps x).length = ps.length := by
    intro ps
    induction ps with
    | nil => intro x; rfl
    | cons p r ih => intro x; simp [svPs, ih]
  have hvl := hv.length
  rw [hpl] at hvl
  have hat : At P fn.ntmps ρ0 [] w (env0 (svPs tf.ps x) 0) { tmps := vs.toArray ++ Array.replicate (fn.ntmps - vs.toArray.size) undef, defers := [] } := by
    refine ⟨⟨by simp; omega, rfl, fun n => ?_⟩, ?_, fun _ _ => rfl⟩
    · rw [env0_get]
      simp only [Nat.zero_le, if_true, Nat.sub_zero]
      split
      · rename_i s hs
        obtain ⟨u, h1, h2⟩ := hv.get n s hs
        have : (vs.toArray ++ Array.replicate (fn.ntmps - vs.toArray.size) undef).getD n undef = u := by
          rw [Array.getD_eq_getD_getElem?, Array.getElem?_append_left (by have := (List.getElem?_eq_some_iff.1 h1).1; simpa using this)]
          simp [h1]
        rw [this]; exact h2
      · simp [VRel]
    · exact ⟨fun β h => by simp at h, fun β h => by simp at h, fun β h => by simp at h, fun _ _ _ _ _ _ _ _ _ h => by (cases h), fun _ _ _ _ _ h => by (cases h), hres, fun _ _ _ _ _ h => by (cases h)⟩
  have hrun' := hrun x
  rw [hy] at hrun'
  refine code_sound hT hmix c hl ho hat hrun' fun ex τ' H' ρ' a' w' h1 h2 h3 => ?_
  have key : (evalRes τ' H' rv).bind (fun ss => outPs tf.rs ss H') = some y → a'.defers = [] ∧ ∃ v, (results fn a'.tmps).run P w' = .ok v w' ∧ (fun e w' => ∃ us tk, e = Ending.returned (resU us) ∧ w'.os = w.os ∧ w'.tape = w.tape ∧ w'.output = w.output ∧ w.heap.size ≤ w'.heap.size ∧ (∀ b, b < w.heap.size → w'.heap[b]? = w.heap[b]?) ∧
      tk.Nodup ∧ (∀ b ∈ tk, w.heap.size ≤ b ∧ b < w'.heap.size) ∧ PsOut w' (fun b => b < w'.heap.size ∧ ¬ res b ∧ b ∉ tk) tf.rs y us.toList tk) (Ending.returned v) w' := by
    intro h4
    rw [Option.bind_eq_some_iff] at h4
    obtain ⟨ss, h5, h6⟩ := h4
    unfold outPs at h6
    split at h6
    · rename_i ls H2 h7
      obtain ⟨us, h8, h9⟩ := results_sound h1.t h1.h hrv h5
      obtain ⟨ρ2, tk, g, h10⟩ := takePs_sound h1.h h1.u h9 h7
      have hout := viewPs_out (B := fun b => Free ρ2 w' b ∨ ∃ β o n sz, ρ2 β = .at b o n sz) (fun b hb => .inl hb) (fun {K s x u} h11 h12 =>
        decH_rel g.h (fun b hb => .inl hb) (fun γ b o n sz _ hg => .inr ⟨γ, o, n, sz, hg⟩) h11 (VRels.single h12)) h6 h10
      have hr0 : ρ'.res = res := h2.res
      refine ⟨h1.t.2.1, resU us, h8, us, tk, rfl, h2.os, h2.tape, h2.output, h2.size, fun b hb => h2.kept b hb (fun _ _ _ _ h => by (cases h)), g.nd, fun b hb => ?_, ?_⟩
      · obtain ⟨_, β, o, n, sz, hg⟩ := g.tks b hb
        refine ⟨?_, h1.h.lt _ _ _ _ _ hg⟩
        rcases h2.img β b o n sz hg with ⟨_, _, _, _, h⟩ | h
        · cases h
        · exact h
      · refine PsOut.mono (.inl fun b hb => ?_) hout
        have : b < w'.heap.size ∧ ¬ ρ2.res b := by
          rcases hb with hb | ⟨β, o, n, sz, hb⟩
          · exact ⟨hb.1, hb.2.1⟩
          · exact ⟨g.h.lt _ _ _ _ _ hb, g.h.resf _ _ _ _ _ hb⟩
        exact ⟨this.1, fun h => this.2 (g.res b (by rw [hr0]; exact h)), fun h => this.2 (g.tks b h).1⟩
    · simp at h6
  cases ex with
  | exit id => simp [endF] at h3
  | normal =>
    refine key ?_
    simp only [endF] at h3
    split at h3
    · rename_i ss h4; rw [h4]; exact h3
    · simp at h3
  | ret =>
    refine key ?_
    simp only [endF] at h3
    split at h3
    · rename_i ss h4; rw [h4]; exact h3
    · simp at h3
end
end Go.Proofs.Ytjnkefbdpcbkmaa.Den
