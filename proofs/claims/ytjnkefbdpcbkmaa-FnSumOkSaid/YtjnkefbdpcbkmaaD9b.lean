/- One operation: slice literals, make. -/
import Derived.Test.YtjnkefbdpcbkmaaD9
import Derived.Laws.MakeOwn
namespace Go.Proofs.Ytjnkefbdpcbkmaa.Den
open Go Go.RowKit
set_option linter.unusedVariables false
set_option linter.unusedSimpArgs false

section
variable {P : Program} {o : Oper} {a : Act} {m : Bool} {ρ : Map} {H H' : Heap} {w w' : World} {τ : Env} {N : Nat} {T : Tab} {v : SV}

theorem isZero_rel {B : Nat → Prop} : ∀ {K : Kd} {cs : List SV} {vs : List Value}, isZero K cs = true → VRels ρ w cs vs → CRel w B K K.dflt vs
  | .int k, cs, vs, h, hv => by
    simp only [isZero] at h
    split at h
    · obtain ⟨u, rfl, hu⟩ := hv.single'
      simp at h; subst h
      simp only [VRel] at hu; subst hu; rfl
    · simp at h
  | .bool, cs, vs, h, hv => by
    simp only [isZero] at h
    split at h
    · obtain ⟨u, rfl, hu⟩ := hv.single'
      simp only [VRel] at hu; subst hu; rfl
    · simp at h
  | .unit, cs, vs, h, hv => by
    simp only [isZero] at h
    split at h
    · simp only [VRels] at hv; subst hv; rfl
    · simp at h
  | .pair a b, cs, vs, h, hv => by
    simp only [isZero, Bool.and_eq_true] at h
    have hs := hv.split (n := a.sz)
    exact ⟨_, _, (List.take_append_drop a.sz vs).symm, isZero_rel h.1 hs.1, isZero_rel h.2 hs.2⟩
  | .list e, cs, vs, h, hv => by
    simp only [isZero] at h
    split at h
    · obtain ⟨u, rfl, hu⟩ := hv.single'
      simp only [VRel] at hu
      obtain ⟨a, rfl⟩ := hu
      exact ⟨a, 0, rfl, Nat.le_refl _, fun h => absurd h (by simp [Kd.dflt])⟩
    · simp at h

theorem flat_get {α : Type} {zs : List α} : ∀ (m i : Nat), i < m * zs.length → ((List.replicate m zs).flatten)[i]? = zs[i % zs.length]?
  | 0, i, h => by simp at h
  | m + 1, i, h => by
    rw [List.replicate_succ, List.flatten_cons, List.getElem?_append]
    split
    · rename_i hi; rw [Nat.mod_eq_of_lt hi]
    · rename_i hi
      rw [flat_get m _ (by rw [Nat.add_mul] at h; omega), ← Nat.mod_eq_sub_mod (by omega)]

theorem flat_len {α : Type} {zs : List α} (m : Nat) : ((List.replicate m zs).flatten).length = m * zs.length := by
  simp

theorem made_get {z : Array Value} {n i : Nat} (h : i < n) (hz : 0 < z.size) : (madeCells z n)[i]? = z[i % z.size]? := by
  simp [madeCells, h, Nat.mod_lt _ hz]

theorem made_rel {zs : List SV} {z : Array Value} (h : VRels ρ w zs z.toList) (m : Nat) : VRels ρ w ((List.replicate m zs).flatten) (madeCells z (m * zs.length)).toList := by
  have hl := h.length
  simp only [Array.length_toList] at hl
  refine VRels.of (by simp [size_madeCells]) fun i s u h1 h2 => ?_
  have hi : i < m * zs.length := by rw [← flat_len]; exact (List.getElem?_eq_some_iff.1 h1).1
  have hpos : 0 < zs.length := Nat.pos_of_ne_zero fun h0 => by rw [h0] at hi; simp at hi
  rw [flat_get _ _ hi] at h1
  rw [Array.getElem?_toList, made_get hi (by omega), ← hl] at h2
  obtain ⟨u', h3, h4⟩ := h.get _ _ h1
  rw [Array.getElem?_toList, h2] at h3
  cases h3; exact h4

theorem made_row {K : Kd} {zs : List SV} {z : Array Value} (h : VRels ρ w zs z.toList) (h0 : isZero K zs = true) (hK : K.sz = zs.length) {m c : Nat} (hmc : m ≤ c) :
    RowRel w (Free ρ w) K (List.replicate m K.dflt) (madeCells z (c * zs.length)) 0 := by
  intro i x hx
  have hl := h.length
  simp only [Array.length_toList] at hl
  have hi : i < m := by have := (List.getElem?_eq_some_iff.1 hx).1; simpa using this
  rw [List.getElem?_replicate, if_pos hi] at hx
  cases hx
  refine ⟨z.toList, isZero_rel h0 h, fun j u hu => ?_⟩
  have hj : j < zs.length := by rw [hl]; have := (List.getElem?_eq_some_iff.1 hu).1; simpa using this
  have hle : (i + 1) * zs.length ≤ c * zs.length := Nat.mul_le_mul_right _ (by omega)
  rw [Nat.add_mul] at hle
  rw [Nat.zero_add, hK, made_get (by omega) (by omega), ← hl, Nat.mul_comm, Nat.mul_add_mod, Nat.mod_eq_of_lt hj]
  simpa using hu

theorem snd_mk {t e : TypeId} {l c : Operand} {sl sc : S} {sz by_ : Nat} {zs : List SV} {K : Option Kd} (hop : o.op = .makeSlice t l c) (hu : P.underlying t = some (.slice e)) (hz : tinfo P e = some (sz, zs, by_)) (hb : by_ ≤ 32768) (hsz : sz ≠ 0)
    (hK : ∀ k, K = some k → k.sz = sz ∧ isZero k zs = true) (hl : opL l = some sl) (hc : opL c = some sc) (ht : TRel ρ w τ a N) (hH : HRel ρ H w) (hun : ρ H.length = .unborn)
    (he : runI T (.mk K zs e sl (some sc)) τ H (fun v H => some (v, H)) = some (v, H')) : OpOK P o a m ρ H w v H' := by
  have vl := opL_rel ht hl
  have vc := opL_rel ht hc
  obtain ⟨i, z, hi, hzz, rfl, rfl, hsv, hzl⟩ := tinfo_spec hz
  have hzr : VRels ρ w zs z.cells.toList := svsOf_rel hsv
  simp only [runI, mkI, Option.map_some] at he
  split at he
  · rename_i kl ml e1
    rw [e1] at vl
    simp only [VRel] at vl
    have fin : ∀ {kc : IntKind} {cc : Int} {x : Blk}, a.eval c = .int kc cc → 0 ≤ ml → ml ≤ cc → cc < (LIM : Int) → v = .own H.length → H' = H ++ [x] →
        BRel (ρ.put H.length (.at w.heap.size 0 ml.toNat i.size)) (w.alloc (.cells (madeCells z.cells (cc.toNat * i.size)) e (0, 0))) w.heap.size 0 ml.toNat i.size x → OpOK P o a m ρ H w v H' := by
      intro kc cc x e2 h0 h1 h2 hv hH' hx
      subst hv; subst hH'
      refine OpOK.value (w' := w.alloc (.cells (madeCells z.cells (cc.toNat * i.size)) e (0, 0))) (u := .slice (some ⟨w.heap.size, 0, none⟩) ml.toNat cc.toNat) ?_ (good_alloc (n := ml.toNat) (sz := i.size) hH hun hx ?_)
      · simp only [LIM] at h2
        have hbb : (i.bytes : Int) * cc ≤ 281474976710656 := by
          have h3 : (i.bytes : Int) * cc ≤ 32768 * cc := Int.mul_le_mul_of_nonneg_right (by omega) (by omega)
          omega
        simp [execOp, hop, vl, e2, run_make w t e i z hu hi hzz kl kc ml cc h0 h1 hbb (by omega)]
      · simp only [VRel, Map.put_same]
        exact ⟨cc.toNat, by omega, rfl, _, e, heap_alloc_new w _, by simp [size_madeCells]⟩
    split at he
    · rename_i e2
      simp at e2
    · rename_i k2 cc e2
      simp at e2
      rw [e2] at vc
      simp only [VRel] at vc
      split at he
      · rename_i k
        obtain ⟨hk1, hk2⟩ := hK k rfl
        obtain ⟨h0, he⟩ := tst_some he
        obtain ⟨h1, he⟩ := tst_some he
        obtain ⟨h2, he⟩ := tst_some he
        simp only [Option.some.injEq, Prod.mk.injEq] at he
        simp only [decide_eq_true_eq] at h0 h1 h2
        refine fin vc h0 h1 (by simp only [LIM] at h2 ⊢; omega) he.1.symm he.2.symm ?_
        have hst := Step.alloc (ρ := ρ) (w := w) H.length (madeCells z.cells (cc.toNat * i.size)) e ml.toNat i.size hun
        simp only [BRel]
        refine ⟨by simp, hk1, _, e, heap_alloc_new w _, ?_, ?_⟩
        · simp only [size_madeCells, Nat.zero_add]
          exact Nat.mul_le_mul_right _ (by omega)
        · have hr := made_row (m := ml.toNat) (c := cc.toNat) hzr hk2 (by omega) (by omega)
          rw [hzl] at hr
          intro j x hx
          obtain ⟨es, h3, h4⟩ := hr j x hx
          exact ⟨es, h3.step hst, h4⟩
      · split at he
        · rename_i m0 c0
          split at he
          · rename_i hc0
            simp only [Option.some.injEq, Prod.mk.injEq] at he
            refine fin (cc := (Int.ofNat c0)) vc (by simp) (by simpa using hc0.1) (by simp only [LIM]; simp; omega) he.1.symm he.2.symm ?_
            have hst := Step.alloc (ρ := ρ) (w := w) H.length (madeCells z.cells (c0 * i.size)) e m0 i.size hun
            have hle : m0 * i.size ≤ c0 * i.size := Nat.mul_le_mul_right _ hc0.1
            simp only [BRel]
            refine ⟨hzl, by rw [flat_len, hzl]; rfl, _, e, heap_alloc_new w _, by rw [size_madeCells, Nat.zero_add]; exact hle, fun j s hj => ?_⟩
            have hj' : j < m0 * zs.length := by rw [← flat_len]; exact (List.getElem?_eq_some_iff.1 hj).1
            rw [flat_get _ _ hj'] at hj
            obtain ⟨u, h3, h4⟩ := hzr.get _ _ hj
            refine ⟨u, ?_, h4.step hst⟩
            have hpos : 0 < i.size := Nat.pos_of_ne_zero hsz
            have hcs : z.cells.size = zs.length := by have := hzr.length; simpa using this.symm
            show (madeCells z.cells (c0 * i.size))[0 + j]? = some u
            rw [Nat.zero_add, made_get (by rw [hzl] at hj'; omega) (by omega), hcs, ← Array.getElem?_toList]
            exact h3
          · simp at he
        · simp at he
    · simp at he
  · simp at he

theorem decRows_relG {B : Nat → Prop} {G : Nat → Prop} {K : Kd} {f : List SV → Option K.T} (hf : ∀ cs x vs, (∀ γ ∈ SV.refsL cs, G γ) → f cs = some x → VRels ρ w cs vs → CRel w B K x vs) (sz : Nat) :
    ∀ (n : Nat) (cs : List SV) (xs : List K.T) (vs : List Value), (∀ γ ∈ SV.refsL cs, G γ) → decRows f sz n cs = some xs → VRels ρ w cs vs →
      xs.length = n ∧ ∀ (i : Nat) (x : K.T), xs[i]? = some x → CRel w B K x ((vs.drop (i * sz)).take sz)
  | 0, cs, xs, vs, hG, h, hv => by
    cases cs <;> simp [decRows] at h
    subst h; simp
  | n + 1, cs, xs, vs, hG, h, hv => by
    simp only [decRows] at h
    have hr : SV.refsL cs = SV.refsL (cs.take sz) ++ SV.refsL (cs.drop sz) := by
      rw [← refsL_append, List.take_append_drop]
    split at h
    · rename_i x r h1 h2
      simp at h; subst h
      have hs := hv.split (n := sz)
      have ih := decRows_relG hf sz n _ _ _ (fun γ hg => hG γ (by rw [hr]; exact List.mem_append.2 (.inr hg))) h2 hs.2
      refine ⟨by simp [ih.1], fun i y hy => ?_⟩
      cases i with
      | zero => simp at hy; subst hy; simpa using hf _ _ _ (fun γ hg => hG γ (by rw [hr]; exact List.mem_append.2 (.inl hg))) h1 hs.1
      | succ i =>
        simp at hy
        have := ih.2 i y hy
        rw [List.drop_drop] at this
        rw [Nat.add_mul, Nat.one_mul, Nat.add_comm]; exact this
    · simp at h

theorem fillP_length : ∀ {ps : List (Nat × Nat × S)} {cs cs' : List SV}, fillP τ ps cs = some cs' → cs'.length = cs.length
  | [], cs, cs', h => by simp [fillP] at h; rw [h]
  | (off, n, x) :: r, cs, cs', h => by
    simp only [fillP] at h
    split at h
    · split at h
      · rename_i hc
        rw [fillP_length h, setCells_length (by omega)]
      · simp at h
    · simp at h

theorem opsL_length : ∀ {xs : List Operand} {ss : List S}, opsL xs = some ss → ss.length = xs.length
  | [], _, h => by simp [opsL] at h; subst h; rfl
  | x :: r, _, h => by
    simp only [opsL] at h
    split at h
    · rename_i p q h1 h2
      simp at h; subst h
      simp [opsL_length h2]
    · simp at h

theorem Step.junk {x : Obj} : Step ρ w ρ (w.alloc x) where
  os := rfl
  tape := rfl
  output := rfl
  size := by simp
  kept b hb _ := by simp only [World.alloc]; rw [Array.getElem?_push, if_neg (by omega)]
  shape b C t fr h := ⟨C, by
    have : b < w.heap.size := (Array.getElem?_eq_some_iff.1 h).1
    simp only [World.alloc]; rw [Array.getElem?_push, if_neg (by omega)]; exact h, rfl⟩
  img β b o n sz h := .inl ⟨β, o, n, sz, h⟩
  ref β h := .inl rfl
  res := rfl

theorem HRel.junk (h : HRel ρ H w) {x : Obj} : HRel ρ H (w.alloc x) where
  dead := h.dead
  none_ := h.none_
  at_ β hl b o n sz hr := by
    obtain ⟨y, h1, h2⟩ := h.at_ β hl b o n sz hr
    have hb := h.lt _ _ _ _ _ hr
    exact ⟨y, h1, h2.keep Step.junk (by simp only [World.alloc]; rw [Array.getElem?_push, if_neg (by omega)])⟩
  inj := h.inj
  lt β b o n sz hr := by have := h.lt _ _ _ _ _ hr; simp; omega
  resl b hb := by have := h.resl b hb; simp; omega
  resf := h.resf

theorem partsB {sz : Nat} : ∀ {parts : List (Nat × Operand)} {xs : List S}, opsL (parts.map (·.2)) = some xs →
    partsL P (fun i => some (i * sz, sz)) parts = some (((parts.map (·.1)).zip xs).map fun p => (p.1 * sz, sz, p.2))
  | [], xs, h => by simp [opsL] at h; subst h; rfl
  | (i, x) :: r, xs, h => by
    simp only [List.map_cons, opsL] at h
    split at h
    · rename_i p q h1 h2
      simp at h; subst h
      simp [partsL, h1, partsB h2]
    · simp at h

theorem snd_bsl {t e : TypeId} {len : Nat} {parts : Array (Nat × Operand)} {xs : List S} {sz by_ : Nat} {zs : List SV} {K : Option Kd} {frz : Bool} (hop : o.op = .buildSlice t len parts) (hu : P.underlying t = some (.slice e)) (hz : tinfo P e = some (sz, zs, by_))
    (hxs : opsL (parts.toList.map (·.2)) = some xs) (hle : len * sz ≤ 16777216) (hsz : sz ≠ 0) (hfm : frz = true → m = false) (ht : TRel ρ w τ a N) (hH : HRel ρ H w) (hun0 : H.length < H'.length → ρ H.length = .unborn)
    (he : runI T (.bsl K frz sz len zs e ((parts.toList.map (·.1)).zip xs)) τ H (fun v H => some (v, H)) = some (v, H')) : OpOK P o a m ρ H w v H' := by
  obtain ⟨i, z, hi, hzz, rfl, rfl, hsv, hzl⟩ := tinfo_spec hz
  have hzr : VRels ρ w zs z.cells.toList := svsOf_rel hsv
  simp only [runI] at he
  unfold bslI at he
  split at he
  · simp only [Option.some.injEq, Prod.mk.injEq] at he
    obtain ⟨rfl, rfl⟩ := he
    rename_i hpz
    have hpl := opsL_length hxs
    have hp0 : parts.toList = [] := by
      have h3 := congrArg List.length hpz
      rw [List.length_zip, List.length_map, List.length_nil] at h3
      rw [List.length_map] at hpl
      exact List.eq_nil_of_length_eq_zero (by omega)
    have hrun : (execOp a.eval o).run P w = .ok (.value (.slice (some ⟨w.heap.size, 0, none⟩) 0 0)) (w.alloc (.cells #[] e (0, 0))) := by
      have e1 : (parts.map fun x => (x.1, a.eval x.2)).toList = [] := by simp [hp0]
      simp [execOp, hop, Instr.buildSlice, run_underlying hu, sizeOf_run hi, newRow, Array.range_zero', hp0, Instr.fill]
    refine OpOK.value hrun ⟨Step.junk, hH.junk, ?_, Nat.le_refl _, fun _ h _ => h, fun _ => ⟨⟨[], by simp⟩, fun _ _ => rfl, fun b hb => ?_⟩⟩
    · simp only [VRel]; exact ⟨_, rfl⟩
    · simp only [World.alloc]; rw [Array.getElem?_push, if_neg (by omega)]
  · simp at he
  rename_i len0
  simp only [Nat.succ_eq_add_one] at hop hle
  generalize len0 + 1 = len at *
  have hun : ρ H.length = .unborn := by
    refine hun0 ?_
    split at he
    · simp at he
    · split at he
      · split at he
        · split at he
          · simp only [Option.some.injEq, Prod.mk.injEq] at he
            rw [← he.2]; simp [kill_length]
          · simp at he
        · simp only [Option.some.injEq, Prod.mk.injEq] at he
          rw [← he.2]; simp
      · simp only [Option.some.injEq, Prod.mk.injEq] at he
        rw [← he.2]; simp
  split at he
  · simp at he
  · rename_i cs hcs
    obtain ⟨C, h1, h2⟩ := fill_rel (P := P) ht (partsB hxs) hcs (made_rel hzr _)
    have hcl : C.size = len * i.size := by
      have h3 := h2.length
      have h4 := fillP_length hcs
      simp only [Array.length_toList] at h3
      rw [← h3, h4]; simp [hzl]
    have hrun : (execOp a.eval o).run P w = .ok (.value (.slice (some ⟨w.heap.size, 0, none⟩) len len)) (w.alloc (.cells C e (0, 0))) := by
      have e1 : (parts.map fun x => (x.1, a.eval x.2)).toList = parts.toList.map fun p => (p.1, a.eval p.2) := by simp
      have n1 : ¬ (2 ^ 24 < len * i.size) := by omega
      rw [hzl] at h1
      by_cases hn : len * i.size = 0
      · have e2 : madeCells z.cells (len * i.size) = #[] := by rw [hn]; simp [madeCells, Array.range_zero']
        rw [e2] at h1
        simp [execOp, hop, Instr.buildSlice, run_underlying hu, sizeOf_run hi, hn, newRow, Array.range_zero', h1]
      · have e2 : (Array.range (len * i.size)).map (z.cells[· % z.cells.size]!) = madeCells z.cells (len * i.size) := rfl
        simp only [execOp, hop, Instr.buildSlice, Sem.run_bind, run_underlying hu, Result.andThen_ok, sizeOf_run hi, n1, if_false, hn, cellsN hi hzz, Sem.run_pure, e1, e2, h1, newRow]
        simp
    have cellsCase : v = .own H.length → H' = H ++ [.cells cs e i.size] → OpOK P o a m ρ H w v H' := by
      intro hv hH'
      subst hv; subst hH'
      have h3 := h2.length
      simp only [Array.length_toList] at h3
      refine OpOK.value hrun (good_alloc (n := len) (sz := i.size) hH hun ?_ ?_)
      · exact brel_cells_new hun (by rw [h3, List.take_of_length_le (by simp)]; exact h2) (by omega) (by omega)
      · simp only [VRel, Map.put_same]
        exact ⟨len, Nat.le_refl _, rfl, C, e, heap_alloc_new w _, by omega⟩
    split at he
    · rename_i k
      split at he
      · rename_i ys hdec
        split at he
        · rename_i hk
          simp only [Option.some.injEq, Prod.mk.injEq] at he
          obtain ⟨rfl, rfl⟩ := he
          cases frz with
          | false =>
            simp only [cond] at hdec
            rw [hk] at hdec
            have hrows := decRows_rel (f := decH false [] k) (B := Free ρ w) (fun cs x vs h3 h4 => decC_rel h3 h4) i.size _ _ _ _ hdec h2
            have hst := Step.alloc (ρ := ρ) (w := w) H.length C e len i.size hun
            refine OpOK.value hrun (good_alloc (n := len) (sz := i.size) hH hun ?_ ?_)
            · simp only [BRel]
              refine ⟨hrows.1, hk, C, e, heap_alloc_new w _, by omega, fun q y hq => ⟨_, (hrows.2 q y hq).step hst, fun j u hu => ?_⟩⟩
              rw [List.getElem?_take] at hu
              split at hu
              · rw [List.getElem?_drop, Array.getElem?_toList] at hu
                rw [Nat.zero_add, hk]; exact hu
              · simp at hu
            · simp only [VRel, Map.put_same]
              exact ⟨len, Nat.le_refl _, rfl, C, e, heap_alloc_new w _, by omega⟩
          | true =>
            obtain rfl := hfm rfl
            simp only [cond] at hdec ⊢
            rw [hk] at hdec
            have hrows := decRows_relG (f := decH false H k) (B := fun b'' => Free ρ w b'' ∨ ∃ γ ∈ SV.refsL cs, ∃ o n sz, ρ γ = .at b'' o n sz) (G := fun γ => γ ∈ SV.refsL cs)
              (fun cs' x vs hG h3 h4 => decH_rel hH (fun _ h => .inl h) (fun γ b'' o n sz hg hrg => .inr ⟨γ, hG γ (hg.resolve_left (by simp)), o, n, sz, hrg⟩) h3 h4) i.size _ _ _ _ (fun γ hg => hg) hdec h2
            have hst := (Step.kill (ρ := ρ) (w := w) (SV.refsL cs)).trans (Step.alloc (w := w) H.length C e len i.size (kill_reborn hun))
            refine OpOK.value hrun (good_reborn hH hun hst (fun γ b' o' n' sz' hγ hr' => ?_) (.inr ⟨w.heap.size, 0, len, i.size, rfl, (Array.getElem?_eq_some_iff.1 (heap_alloc_new w (.cells C e (0, 0)))).1, fun h => ?_, fun γ o' n' sz' hγ hr' => ?_, ?_⟩) (by simp) ?_)
            · have := hH.lt _ _ _ _ _ hr'
              simp only [World.alloc]; rw [Array.getElem?_push, if_neg (by omega)]
            · have := hH.resl _ h; omega
            · have := hH.lt _ _ _ _ _ hr'; omega
            · simp only [BRel]
              refine ⟨hrows.1, hk, C, e, heap_alloc_new w _, by omega, fun q y hq => ⟨_, CRel.mono (w' := w.alloc (.cells C e (0, 0))) (fun b'' h => ?_) (fun b'' h => ?_) (hrows.2 q y hq), fun j u hu => ?_⟩⟩
              · rcases h with h | ⟨γ, hg, o1, n1, sz1, hrg⟩
                · exact h.step hst
                · exact (free_kill hH hg hrg).step (Step.alloc (w := w) H.length C e len i.size (kill_reborn hun))
              · have : b'' < w.heap.size := by
                  rcases h with h | ⟨γ, hg, o1, n1, sz1, hrg⟩
                  · exact h.1
                  · exact hH.lt _ _ _ _ _ hrg
                simp only [World.alloc]; rw [Array.getElem?_push, if_neg (by omega)]
              · rw [List.getElem?_take] at hu
                split at hu
                · rw [List.getElem?_drop, Array.getElem?_toList] at hu
                  rw [Nat.zero_add, hk]; exact hu
                · simp at hu
            · simp only [VRel, Map.put_same]
              exact ⟨len, Nat.le_refl _, rfl, C, e, heap_alloc_new w _, by omega⟩
        · simp at he
      · simp only [Option.some.injEq, Prod.mk.injEq] at he
        exact cellsCase he.1.symm he.2.symm
    · simp only [Option.some.injEq, Prod.mk.injEq] at he
      exact cellsCase he.1.symm he.2.symm
theorem snd_bse {t e : TypeId} {len : Nat} {parts : Array (Nat × Operand)} {xs : List S} {sz by_ : Nat} {zs : List SV} {k : Kd} (hop : o.op = .buildSlice t len parts) (hu : P.underlying t = some (.slice e)) (hz : tinfo P e = some (sz, zs, by_))
    (hxs : opsL (parts.toList.map (·.2)) = some xs) (hle : len * sz ≤ 16777216) (hsz : sz ≠ 0) (ht : TRel ρ w τ a N) (hH : HRel ρ H w)
    (he : runI T (.bse k sz len zs ((parts.toList.map (·.1)).zip xs)) τ H (fun v H => some (v, H)) = some (v, H')) : OpOK P o a m ρ H w v H' := by
  obtain ⟨i, z, hi, hzz, rfl, rfl, hsv, hzl⟩ := tinfo_spec hz
  have hzr : VRels ρ w zs z.cells.toList := svsOf_rel hsv
  simp only [runI] at he
  split at he
  · rename_i cs hcs
    obtain ⟨C, h1, h2⟩ := fill_rel (P := P) ht (partsB hxs) hcs (made_rel hzr _)
    have hcl : C.size = len * i.size := by
      have h3 := h2.length
      have h4 := fillP_length hcs
      simp only [Array.length_toList] at h3
      rw [← h3, h4]; simp [hzl]
    have hrun : (execOp a.eval o).run P w = .ok (.value (.slice (some ⟨w.heap.size, 0, none⟩) len len)) (w.alloc (.cells C e (0, 0))) := by
      have e1 : (parts.map fun x => (x.1, a.eval x.2)).toList = parts.toList.map fun p => (p.1, a.eval p.2) := by simp
      have n1 : ¬ (2 ^ 24 < len * i.size) := by omega
      rw [hzl] at h1
      by_cases hn : len * i.size = 0
      · have e2 : madeCells z.cells (len * i.size) = #[] := by rw [hn]; simp [madeCells, Array.range_zero']
        rw [e2] at h1
        simp [execOp, hop, Instr.buildSlice, run_underlying hu, sizeOf_run hi, hn, newRow, Array.range_zero', h1]
      · have e2 : (Array.range (len * i.size)).map (z.cells[· % z.cells.size]!) = madeCells z.cells (len * i.size) := rfl
        simp only [execOp, hop, Instr.buildSlice, Sem.run_bind, run_underlying hu, Result.andThen_ok, sizeOf_run hi, n1, if_false, hn, cellsN hi hzz, Sem.run_pure, e1, e2, h1, newRow]
        simp
    split at he
    · rename_i ys hdec
      split at he
      · rename_i hk
        simp only [Option.some.injEq, Prod.mk.injEq] at he
        obtain ⟨rfl, rfl⟩ := he
        rw [hk] at hdec
        have hrows := decRows_rel (f := decH false [] k) (B := Free ρ w) (fun cs x vs h3 h4 => decC_rel h3 h4) i.size _ _ _ _ hdec h2
        refine OpOK.value hrun ⟨Step.junk, hH.junk, ?_, Nat.le_refl _, fun _ h _ => h, fun _ => ⟨⟨[], by simp⟩, fun _ _ => rfl, fun b hb => ?_⟩⟩
        · simp only [VRel, CRel]
          refine ⟨some ⟨w.heap.size, 0, none⟩, len, by rw [hrows.1], by rw [hrows.1]; exact Nat.le_refl _, fun h0 => ⟨⟨w.heap.size, 0, none⟩, rfl, ⟨by simp, fun h => ?_, fun β o n sz h => ?_⟩, fun q y hq => ⟨_, (hrows.2 q y hq).step Step.junk, fun j u hu => ?_⟩⟩⟩
          · have := hH.resl _ h; simp only at this; omega
          · have := hH.lt _ _ _ _ _ h; simp only at this; omega
          · rw [List.getElem?_take] at hu
            split at hu
            · rw [List.getElem?_drop, Array.getElem?_toList] at hu
              rw [add_plain, cell_of_heap (heap_alloc_new w _), Nat.zero_add, hk]; exact hu
            · simp at hu
        · simp only [World.alloc]; rw [Array.getElem?_push, if_neg (by omega)]
      · simp at he
    · simp at he
  · simp at he
end
end Go.Proofs.Ytjnkefbdpcbkmaa.Den
