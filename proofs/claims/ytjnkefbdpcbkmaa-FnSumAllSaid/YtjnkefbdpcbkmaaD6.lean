/- One operation: what it does on data is what it does in memory. Values, reads. -/
import Derived.Test.YtjnkefbdpcbkmaaD5
namespace Go.Proofs.Ytjnkefbdpcbkmaa.Den
open Go Go.RowKit
set_option linter.unusedVariables false
set_option linter.unusedSimpArgs false

def TRel (ρ : Map) (w : World) (τ : Env) (a : Act) (N : Nat) : Prop :=
  a.tmps.size = N ∧ a.defers = [] ∧ ∀ n, VRel ρ w (Tm.get τ n) (a.tmps.getD n undef)

structure Good (m : Bool) (ρ : Map) (H : Heap) (w : World) (v : SV) (H' : Heap) (u : Value) (w' : World) (ρ' : Map) : Prop where
  step : Step ρ w ρ' w'
  hrel : HRel ρ' H' w'
  vrel : VRel ρ' w' v u
  len : H.length ≤ H'.length
  unb : ∀ β, ρ β = .unborn → (β < H.length ∨ H'.length ≤ β) → ρ' β = .unborn
  mono : m = true → (∃ Δ, H' = H ++ Δ) ∧ (∀ β, (β < H.length ∨ H'.length ≤ β) → ρ' β = ρ β) ∧ ∀ b, b < w.heap.size → w'.heap[b]? = w.heap[b]?

theorem Good.same {m : Bool} {ρ : Map} {H : Heap} {w : World} {v : SV} {u : Value} (hH : HRel ρ H w) (hv : VRel ρ w v u) : Good m ρ H w v H u w ρ :=
  ⟨Step.refl _ _, hH, hv, Nat.le_refl _, fun _ h _ => h, fun _ => ⟨⟨[], by simp⟩, fun _ _ => rfl, fun _ _ => rfl⟩⟩

/-- The operation, from here, does what the reading says. -/
def OpOK (P : Program) (o : Oper) (a : Act) (m : Bool) (ρ : Map) (H : Heap) (w : World) (v : SV) (H' : Heap) : Prop :=
  ∀ (K : Act → World → Prop) (Q : Exit → Act → World → Prop), (∀ u w' ρ', Good m ρ H w v H' u w' ρ' → K (a.put o.dst u) w') → o.wp P a w K Q

section
variable {P : Program} {o : Oper} {a : Act} {m : Bool} {ρ : Map} {H H' : Heap} {w w' : World} {v : SV} {u : Value}

theorem OpOK.value (hr : (execOp a.eval o).run P w = .ok (.value u) w') {ρ' : Map} (hg : Good m ρ H w v H' u w' ρ') : OpOK P o a m ρ H w v H' := by
  intro K Q hK
  unfold Oper.wp
  rw [hr]
  exact hK u w' ρ' hg

theorem OpOK.skip (hr : (execOp a.eval o).run P w = .ok .skip w') {ρ' : Map} (hg : Good m ρ H w v H' undef w' ρ') : OpOK P o a m ρ H w v H' := by
  intro K Q hK
  unfold Oper.wp
  rw [hr]
  exact hK undef w' ρ' hg

theorem OpOK.same (hH : HRel ρ H w) (hr : (execOp a.eval o).run P w = .ok (.value u) w) (hv : VRel ρ w v u) : OpOK P o a m ρ H w v H :=
  OpOK.value hr (Good.same hH hv)
end

mutual
theorem svOf_rel {ρ : Map} {w : World} : ∀ {d : Nat} {v : Value} {s : SV}, svOf d v = some s → VRel ρ w s v
  | 0, _, _, h => by simp [svOf] at h
  | d + 1, v, s, h => by
    unfold svOf at h
    split at h <;> (try (simp at h; subst h)) <;> (try simp [VRel]; done)
    · split at h
      · rename_i l hl
        simp at h; subst h
        simp only [VRel]
        exact ⟨_, rfl, svsOf_rel hl⟩
      · simp at h
    · simp at h
theorem svsOf_rel {ρ : Map} {w : World} : ∀ {d : Nat} {vs : List Value} {l : List SV}, svsOf d vs = some l → VRels ρ w l vs
  | 0, _, _, h => by simp [svsOf] at h
  | d + 1, vs, l, h => by
    unfold svsOf at h
    split at h
    · simp at h; subst h; simp [VRels]
    · split at h
      · rename_i x y h1 h2
        simp at h; subst h
        simp only [VRels]
        exact ⟨_, _, rfl, svOf_rel h1, svsOf_rel h2⟩
      · simp at h
end

theorem opL_rel {ρ : Map} {w : World} {τ : Env} {a : Act} {N : Nat} (ht : TRel ρ w τ a N) {x : Operand} {s : S} (h : opL x = some s) : VRel ρ w (s.ev τ) (a.eval x) := by
  cases x with
  | tmp t => simp [opL] at h; subst h; exact ht.2.2 t
  | const v =>
    simp [opL, Option.map_eq_some_iff] at h
    obtain ⟨s', h1, rfl⟩ := h
    exact svOf_rel h1
  | global g => simp [opL] at h
  | func f => simp [opL] at h; subst h; simp [S.ev, VRel, Act.eval, VRels]

theorem opsL_rel {ρ : Map} {w : World} {τ : Env} {a : Act} {N : Nat} (ht : TRel ρ w τ a N) : ∀ {xs : List Operand} {ss : List S}, opsL xs = some ss → VRels ρ w (ss.map (S.ev τ)) (xs.map a.eval)
  | [], _, h => by simp [opsL] at h; subst h; simp [VRels]
  | x :: r, _, h => by
    simp only [opsL] at h
    split at h
    · rename_i p q h1 h2
      simp at h; subst h
      simp only [List.map_cons, VRels]
      exact ⟨_, _, rfl, opL_rel ht h1, opsL_rel ht h2⟩
    · simp at h

section
variable {R : Type}
theorem tst_some {b : Bool} {x : Option R} {r : R} (h : tst b x = some r) : b = true ∧ x = some r := by
  cases b
  · simp [tst] at h
  · exact ⟨rfl, h⟩
theorem cond_some {b : Bool} {x y : Option R} {r : R} (h : cond b x y = some r) : (b = true ∧ x = some r) ∨ (b = false ∧ y = some r) := by
  cases b
  · exact .inr ⟨rfl, h⟩
  · exact .inl ⟨rfl, h⟩
theorem getC_some {cs : List SV} {off n : Nat} {ag : Bool} {k : SV → Option R} {r : R} (h : getC cs off n ag k = some r) :
    ∃ v, k v = some r ∧ (ag = false → cs[off]? = some v) ∧ (ag = true → off + n ≤ cs.length ∧ v = .agg ((cs.drop off).take n)) := by
  unfold getC at h
  cases ag with
  | false =>
    simp only at h
    split at h
    · rename_i s hs; exact ⟨s, h, fun _ => hs, by simp⟩
    · simp at h
  | true =>
    simp only at h
    split at h
    · rename_i hle; exact ⟨_, h, by simp, fun _ => ⟨hle, rfl⟩⟩
    · simp at h
end

/-! ### types -/
theorem isAggL_run {P : Program} {t : TypeId} {ag : Bool} (h : isAggL P t = some ag) (w : World) : (isAgg t).run P w = .ok ag w := by
  unfold isAggL at h
  unfold isAgg
  cases hu : P.underlying t with
  | none => simp [hu] at h
  | some d =>
    rw [hu] at h
    simp only [Sem.run_bind, run_underlying hu, Result.andThen_ok]
    cases d <;> simp at h <;> subst h <;> rfl

theorem sizeOf_run {P : Program} {t : TypeId} {i : TypeInfo} (h : P.info? t = some i) (w : World) : (sizeOf t).run P w = .ok i.size w := by
  simp [sizeOf, typeInfo, h]

theorem tinfo_spec {P : Program} {t : TypeId} {sz by_ : Nat} {zs : List SV} (h : tinfo P t = some (sz, zs, by_)) :
    ∃ i z, P.info? t = some i ∧ i.zero = some z ∧ i.size = sz ∧ i.bytes = by_ ∧ svsOf 1000 z.cells.toList = some zs ∧ zs.length = sz := by
  unfold tinfo at h
  split at h
  · rename_i i hi
    split at h
    · rename_i z hz
      split at h
      · rename_i zs' hs
        split at h
        · rename_i hl
          simp at h
          obtain ⟨rfl, rfl, rfl⟩ := h
          exact ⟨i, z, hi, hz, rfl, rfl, hs, hl⟩
        · simp at h
      · simp at h
    · simp at h
  · simp at h

/-! ### loads -/
theorem run_loadVar_one {P : Program} {t : TypeId} {w : World} {ad : Addr} {u : Value} (ha : isAggL P t = some false) (hc : w.cell? ad = some u) : (loadVar t ad).run P w = .ok u w := by
  simp only [loadVar, Sem.run_bind, isAggL_run ha, Result.andThen_ok, Bool.false_eq_true, if_false, run_load, hc]

theorem run_loadVar_agg {P : Program} {t : TypeId} {i : TypeInfo} {w : World} {ad : Addr} {vs : List Value} (ha : isAggL P t = some true) (hi : P.info? t = some i) (hl : vs.length = i.size)
    (hc : ∀ j u, vs[j]? = some u → w.cell? (ad.add j) = some u) : (loadVar t ad).run P w = .ok (.agg vs.toArray) w := by
  simp only [loadVar, Sem.run_bind, isAggL_run ha, Result.andThen_ok, if_true, sizeOf_run hi]
  rw [← hl, run_loadCells_list w ad vs hc]
  rfl

theorem ld_core {P : Program} {t : TypeId} {i : TypeInfo} {ag : Bool} {ρ : Map} {w : World} {cs : List SV} {vs : List Value} {ad : Addr} {off : Nat} {v : SV} (hi : P.info? t = some i) (ha : isAggL P t = some ag)
    (hcs : VRels ρ w cs vs) (hm : CellsAt w ad vs) (h1 : ag = false → cs[off]? = some v) (h2 : ag = true → off + i.size ≤ cs.length ∧ v = .agg ((cs.drop off).take i.size)) :
    ∃ u, (loadVar t (ad.add off)).run P w = .ok u w ∧ VRel ρ w v u := by
  cases ag with
  | false =>
    obtain ⟨u, hu, hr⟩ := hcs.get off v (h1 rfl)
    exact ⟨u, run_loadVar_one ha (hm off u hu), hr⟩
  | true =>
    obtain ⟨hle, rfl⟩ := h2 rfl
    have hs := (hcs.split (n := off)).2.split (n := i.size)
    refine ⟨_, run_loadVar_agg (vs := (vs.drop off).take i.size) ha hi ?_ ?_, ?_⟩
    · have := hcs.length; simp; omega
    · intro j u hu
      rw [List.getElem?_take] at hu
      split at hu
      · rw [List.getElem?_drop] at hu
        rw [add_add]; exact hm _ _ hu
      · simp at hu
    · simp only [VRel]
      exact ⟨_, rfl, by simpa using hs.1⟩

/-- What a live block of cells holds. -/
theorem cells_of {ρ : Map} {H : Heap} {w : World} (hH : HRel ρ H w) {β b o n sz : Nat} {cs : List SV} {t : TypeId} {z : Nat} (hb : H[β]? = some (.cells cs t z)) (hr : ρ β = .at b o n sz) :
    ∃ C tC, w.heap[b]? = some (.cells C tC (0, 0)) ∧ z = sz ∧ cs.length = n * sz ∧ o + n * sz ≤ C.size ∧ VRels ρ w cs ((C.toList.drop o).take cs.length) ∧ CellsAt w ⟨b, o, none⟩ ((C.toList.drop o).take cs.length) := by
  have hl : β < H.length := (List.getElem?_eq_some_iff.1 hb).1
  obtain ⟨x, h1, h2⟩ := hH.at_ β hl _ _ _ _ hr
  rw [hb] at h1; simp at h1; subst h1
  simp only [BRel] at h2
  obtain ⟨rfl, hlen, C, tC, hC, hsz, hcell⟩ := h2
  refine ⟨C, tC, hC, rfl, hlen, hsz, VRels.of (by simp; omega) fun i s u h3 h4 => ?_, fun j u hu => ?_⟩
  · obtain ⟨u', h5, h6⟩ := hcell i s h3
    have hi : i < cs.length := (List.getElem?_eq_some_iff.1 h3).1
    rw [List.getElem?_take, if_pos hi, List.getElem?_drop, Array.getElem?_toList, h5] at h4
    cases h4; exact h6
  · rw [List.getElem?_take] at hu
    split at hu
    · rw [List.getElem?_drop, Array.getElem?_toList] at hu
      rw [add_plain, cell_of_heap hC]; exact hu
    · simp at hu

/-- An element of a live block of data. -/
theorem row_of {ρ : Map} {H : Heap} {w : World} (hH : HRel ρ H w) {β b o n sz : Nat} {K : Kd} {xs : List K.T} {t : TypeId} (hb : H[β]? = some (.arr K xs t)) (hr : ρ β = .at b o n sz) :
    K.sz = sz ∧ xs.length = n ∧ ∃ C tC, w.heap[b]? = some (.cells C tC (0, 0)) ∧ o + n * sz ≤ C.size ∧ ∀ (i : Nat), i < xs.length → ∃ es, CRel w (Free ρ w) K (xs.getD i K.dflt) es ∧ CellsAt w ⟨b, o + i * sz, none⟩ es := by
  have hl : β < H.length := (List.getElem?_eq_some_iff.1 hb).1
  obtain ⟨x, h1, h2⟩ := hH.at_ β hl _ _ _ _ hr
  rw [hb] at h1; simp at h1; subst h1
  simp only [BRel] at h2
  obtain ⟨hn, hsz, C, tC, hC, hle, hrow⟩ := h2
  refine ⟨hsz, hn, C, tC, hC, hle, fun i hi => ?_⟩
  obtain ⟨es, h3, h4⟩ := hrow i (xs.getD i K.dflt) (by simp [List.getD, List.getElem?_eq_getElem hi])
  refine ⟨es, h3, fun j u hu => ?_⟩
  rw [add_plain, cell_of_heap hC, ← hsz]
  exact h4 j u hu

theorem live_of {ρ : Map} {H : Heap} {w : World} (hH : HRel ρ H w) {β : Nat} {x : Blk} (hb : H[β]? = some x) (hx : x ≠ .dead) : ρ β ≠ .dead := by
  intro hr
  have hl : β < H.length := (List.getElem?_eq_some_iff.1 hb).1
  have := hH.dead β hl hr
  rw [hb] at this; exact hx (by simpa using this)

/-- A pointer to a variable. -/
theorem ptr_rel {ρ : Map} {H : Heap} {w : World} (hH : HRel ρ H w) {β off : Nat} {u : Value} {x : Blk} (hb : H[β]? = some x) (hx : x ≠ .dead) (h : VRel ρ w (.ptr β off) u) :
    ∃ b o n sz, ρ β = .at b o n sz ∧ u = .pointer (some ⟨b, o + off, none⟩) := by
  simp only [VRel] at h
  rcases hr : ρ β with _ | _ | _ | ⟨b, o, n, sz⟩ <;> rw [hr] at h <;> simp only at h
  · exact absurd hr (live_of hH hb hx)
  · exact ⟨b, o, n, sz, rfl, h⟩

theorem aptr_rel {ρ : Map} {H : Heap} {w : World} (hH : HRel ρ H w) {β i j : Nat} {u : Value} {x : Blk} (hb : H[β]? = some x) (hx : x ≠ .dead) (h : VRel ρ w (.aptr β i j) u) :
    ∃ b o n sz, ρ β = .at b o n sz ∧ u = .pointer (some ⟨b, o + i * sz + j, none⟩) := by
  simp only [VRel] at h
  rcases hr : ρ β with _ | _ | _ | ⟨b, o, n, sz⟩ <;> rw [hr] at h <;> simp only at h
  · exact absurd hr (live_of hH hb hx)
  · exact ⟨b, o, n, sz, rfl, h⟩

theorem run_loadAt {P : Program} {t : TypeId} {ad : Addr} {w : World} : (Instr.loadAt t (.pointer (some ad))).run P w = (loadVar t ad).run P w := by
  simp [Instr.loadAt, Instr.sureAddr]

theorem snd_load {P : Program} {o : Oper} {a : Act} {m : Bool} {ρ : Map} {H H' : Heap} {w : World} {τ : Env} {N : Nat} {T : Tab} {v : SV} {t : TypeId} {x : Operand} {s : S} {i : TypeInfo} {ag : Bool}
    (hop : o.op = .load t x) (hi : P.info? t = some i) (ha : isAggL P t = some ag) (hs : opL x = some s) (ht : TRel ρ w τ a N) (hH : HRel ρ H w)
    (he : ldI H i.size ag (s.ev τ) (fun v => some (v, H)) = some (v, H')) : OpOK P o a m ρ H w v H' := by
  have hx := opL_rel ht hs
  have key : H' = H ∧ ∃ u, (Instr.loadAt t (a.eval x)).run P w = .ok u w ∧ VRel ρ w v u := by
    unfold ldI at he
    split at he
    · rename_i β off hv
      rw [hv] at hx
      split at he
      · rename_i cs t' z hb
        obtain ⟨v', hk, h1, h2⟩ := getC_some he
        simp at hk; obtain ⟨rfl, rfl⟩ := hk
        obtain ⟨b, o', n, sz, hr, hu⟩ := ptr_rel hH hb (by simp) hx
        obtain ⟨C, tC, hC, _, _, _, hcs, hm⟩ := cells_of hH hb hr
        rw [hu, run_loadAt, ← add_plain]
        exact ⟨rfl, ld_core hi ha hcs hm h1 h2⟩
      · rename_i K xs t' hb
        split at he
        · rename_i hag hoff
          obtain ⟨hl, hk⟩ := tst_some he
          simp at hk; obtain ⟨rfl, rfl⟩ := hk
          obtain ⟨b, o', n, sz, hr, hu⟩ := ptr_rel hH hb (by simp) hx
          have hlt : β < H.length := (List.getElem?_eq_some_iff.1 hb).1
          obtain ⟨y, h1, h2⟩ := hH.at_ β hlt _ _ _ _ hr
          rw [hb] at h1; simp at h1; subst h1
          simp only [BRel] at h2
          obtain ⟨rfl, rfl, C, tC, hC, hle, hrow⟩ := h2
          have hl' : xs.length * K.sz = i.size := by simpa using hl
          refine ⟨rfl, .agg ((C.toList.drop o').take i.size).toArray, ?_, ?_⟩
          · rw [hu, run_loadAt]
            refine run_loadVar_agg ha hi (by simp; omega) fun j u hj => ?_
            rw [List.getElem?_take] at hj
            split at hj
            · rw [List.getElem?_drop, Array.getElem?_toList] at hj
              rw [add_plain, cell_of_heap hC]; exact hj
            · simp at hj
          · simp only [VRel]
            refine ⟨_, rfl, by simp; omega, fun k x hx => ?_⟩
            obtain ⟨es, h3, h4⟩ := hrow k x hx
            refine ⟨es, h3, fun j u hj => ?_⟩
            have hk : k < xs.length := (List.getElem?_eq_some_iff.1 hx).1
            have hj' : j < K.sz := by rw [← h3.length]; exact (List.getElem?_eq_some_iff.1 hj).1
            have : (k + 1) * K.sz ≤ xs.length * K.sz := Nat.mul_le_mul_right _ hk
            rw [Nat.add_mul, Nat.one_mul] at this
            rw [List.getElem?_toArray, List.getElem?_take, if_pos (by omega), List.getElem?_drop, Array.getElem?_toList, ← Nat.add_assoc]
            exact h4 j u hj
        · simp at he
      · simp at he
    · rename_i β k j hv
      rw [hv] at hx
      split at he
      · rename_i K xs t' hb
        obtain ⟨hk, he⟩ := tst_some he
        obtain ⟨v', hk', h1, h2⟩ := getC_some he
        simp at hk'; obtain ⟨rfl, rfl⟩ := hk'
        obtain ⟨b, o', n, sz, hr, hu⟩ := aptr_rel hH hb (by simp) hx
        obtain ⟨_, _, C, tC, hC, _, hrow⟩ := row_of hH hb hr
        obtain ⟨es, h3, h4⟩ := hrow k (by simpa using hk)
        rw [hu, run_loadAt, ← add_plain]
        exact ⟨rfl, ld_core hi ha (enc_rel h3) h4 h1 h2⟩
      · simp at he
    · rename_i K y j hv
      rw [hv] at hx
      obtain ⟨v', hk', h1, h2⟩ := getC_some he
      simp at hk'; obtain ⟨rfl, rfl⟩ := hk'
      simp only [VRel] at hx
      obtain ⟨ad, es, hu, h3, h5, h4⟩ := hx
      rw [hu, run_loadAt]
      exact ⟨rfl, ld_core hi ha (enc_rel h3) h4 h1 h2⟩
    · simp at he
  obtain ⟨rfl, u, hr, hv⟩ := key
  refine OpOK.same hH (u := u) ?_ hv
  simp [execOp, hop, hr]

/-! ### addresses -/
section
variable {P : Program} {o : Oper} {a : Act} {m : Bool} {ρ : Map} {H H' : Heap} {w : World} {τ : Env} {N : Nat} {T : Tab} {v : SV}

theorem run_fieldAt {s : TypeId} {fs : Array Field} {f : Nat} {fd : Field} {j : TypeInfo} (hs : P.underlying s = some (.struct fs)) (hf : fs[f]? = some fd) (hj : P.info? fd.type = some j) (h0 : j.size ≠ 0) (ad : Addr) :
    (Instr.fieldAt s (.pointer (some ad)) f).run P w = .ok (.pointer (some (ad.add fd.offset))) w := by
  simp [Instr.fieldAt, run_underlying hs, hf, Instr.sureAddr, fieldPlace, sizeOf_run hj, h0]

theorem snd_fa {s : TypeId} {fs : Array Field} {f : Nat} {fd : Field} {j : TypeInfo} {x : Operand} {sx : S} (hop : o.op = .fieldAddr s x f) (hs : P.underlying s = some (.struct fs)) (hf : fs[f]? = some fd)
    (hj : P.info? fd.type = some j) (h0 : j.size ≠ 0) (hx : opL x = some sx) (ht : TRel ρ w τ a N) (hH : HRel ρ H w) (he : runI T (.fa fd.offset sx) τ H (fun v H => some (v, H)) = some (v, H')) : OpOK P o a m ρ H w v H' := by
  have hv := opL_rel ht hx
  have key : H' = H ∧ ∃ u, (Instr.fieldAt s (a.eval x) f).run P w = .ok u w ∧ VRel ρ w v u := by
    simp only [runI] at he
    split at he
    · rename_i b off e
      rw [e] at hv
      simp at he; obtain ⟨rfl, rfl⟩ := he
      simp only [VRel] at hv ⊢
      rcases hr : ρ b with _ | _ | _ | ⟨b', o', n, sz⟩ <;> rw [hr] at hv <;> simp only at hv
      · obtain ⟨ad, hv⟩ := hv
        rw [hv]
        exact ⟨trivial, _, run_fieldAt hs hf hj h0 _, _, rfl⟩
      · rw [hv]
        exact ⟨trivial, _, run_fieldAt hs hf hj h0 _, by simp only [add_plain, Nat.add_assoc]⟩
    · rename_i b i jj e
      rw [e] at hv
      simp at he; obtain ⟨rfl, rfl⟩ := he
      simp only [VRel] at hv ⊢
      rcases hr : ρ b with _ | _ | _ | ⟨b', o', n, sz⟩ <;> rw [hr] at hv <;> simp only at hv
      · obtain ⟨ad, hv⟩ := hv
        rw [hv]
        exact ⟨trivial, _, run_fieldAt hs hf hj h0 _, _, rfl⟩
      · rw [hv]
        exact ⟨trivial, _, run_fieldAt hs hf hj h0 _, by simp only [add_plain, Nat.add_assoc]⟩
    · rename_i K y jj e
      rw [e] at hv
      simp at he; obtain ⟨rfl, rfl⟩ := he
      simp only [VRel] at hv ⊢
      obtain ⟨ad, es, hu, h3, h4, h5⟩ := hv
      rw [hu]
      exact ⟨trivial, _, run_fieldAt hs hf hj h0 _, ad, es, by rw [add_add], h3, h4, h5⟩
    · simp at he
  obtain ⟨rfl, u, hr, hv⟩ := key
  exact OpOK.same hH (u := u) (by simp [execOp, hop, hr]) hv

theorem snd_mv {x : Operand} {sx : S} (hop : o.op = .move x ∨ o.op = .assign x) (hx : opL x = some sx) (ht : TRel ρ w τ a N) (hH : HRel ρ H w)
    (he : runI T (.mv sx) τ H (fun v H => some (v, H)) = some (v, H')) : OpOK P o a m ρ H w v H' := by
  simp only [runI, Option.some.injEq, Prod.mk.injEq] at he
  obtain ⟨rfl, rfl⟩ := he
  refine OpOK.same hH (u := a.eval x) ?_ (opL_rel ht hx)
  rcases hop with h | h <;> simp [execOp, h]

theorem snd_pick {c x y : Operand} {sc sx sy : S} (hop : o.op = .pick c x y) (hc : opL c = some sc) (hx : opL x = some sx) (hy : opL y = some sy) (ht : TRel ρ w τ a N) (hH : HRel ρ H w)
    (he : runI T (.pick sc sx sy) τ H (fun v H => some (v, H)) = some (v, H')) : OpOK P o a m ρ H w v H' := by
  have vc := opL_rel ht hc
  have vx := opL_rel ht hx
  have vy := opL_rel ht hy
  simp only [runI] at he
  split at he
  · rename_i b e
    rw [e] at vc
    simp only [VRel] at vc
    have key : H' = H ∧ VRel ρ w v (if b = true then a.eval x else a.eval y) := by
      split at he
      · rename_i p q e1 e2
        simp at he; obtain ⟨rfl, rfl⟩ := he
        rw [e1] at vx; rw [e2] at vy
        cases b
        · exact ⟨rfl, vy⟩
        · exact ⟨rfl, vx⟩
      · rcases cond_some he with ⟨rfl, he⟩ | ⟨rfl, he⟩
        · simp at he; obtain ⟨rfl, rfl⟩ := he; exact ⟨rfl, vx⟩
        · simp at he; obtain ⟨rfl, rfl⟩ := he; exact ⟨rfl, vy⟩
    obtain ⟨rfl, hv⟩ := key
    refine OpOK.same hH ?_ hv
    simp [execOp, hop, vc, asBool]
  · simp at he

theorem snd_nilck {x : Operand} {sx : S} (hop : o.op = .nilCheck x) (hx : opL x = some sx) (ht : TRel ρ w τ a N) (hH : HRel ρ H w)
    (he : runI T (.nilck sx) τ H (fun v H => some (v, H)) = some (v, H')) : OpOK P o a m ρ H w v H' := by
  have vx := opL_rel ht hx
  have key : H' = H ∧ VRel ρ w v (a.eval x) ∧ ((∃ ad, a.eval x = .pointer (some ad)) ∨ ∃ f p q, a.eval x = .func (.func f) p q) := by
    simp only [runI] at he
    split at he
    · rename_i b off e
      simp at he; obtain ⟨rfl, rfl⟩ := he
      rw [e] at vx
      refine ⟨rfl, vx, .inl ?_⟩
      simp only [VRel] at vx
      rcases hr : ρ b with _ | _ | _ | ⟨b', o', n, sz⟩ <;> rw [hr] at vx <;> simp only at vx
      · exact vx
      · exact ⟨_, vx⟩
    · rename_i b i j e
      simp at he; obtain ⟨rfl, rfl⟩ := he
      rw [e] at vx
      refine ⟨rfl, vx, .inl ?_⟩
      simp only [VRel] at vx
      rcases hr : ρ b with _ | _ | _ | ⟨b', o', n, sz⟩ <;> rw [hr] at vx <;> simp only at vx
      · exact vx
      · exact ⟨_, vx⟩
    · rename_i K y j e
      simp at he; obtain ⟨rfl, rfl⟩ := he
      rw [e] at vx
      refine ⟨rfl, vx, .inl ?_⟩
      simp only [VRel] at vx
      obtain ⟨ad, _, h, _⟩ := vx
      exact ⟨_, h⟩
    · rename_i f p q e
      simp at he; obtain ⟨rfl, rfl⟩ := he
      rw [e] at vx
      refine ⟨rfl, vx, .inr ?_⟩
      simp only [VRel] at vx
      obtain ⟨vf, vc, h, _⟩ := vx
      exact ⟨_, _, _, h⟩
    · simp at he
  obtain ⟨rfl, hv, h⟩ := key
  refine OpOK.same hH ?_ hv
  rcases h with ⟨ad, h⟩ | ⟨f, p, q, h⟩ <;> simp [execOp, hop, h]

theorem part_run {t : TypeId} {i : TypeInfo} {ag : Bool} {cs : List SV} {vs : Array Value} {off : Nat} (hi : P.info? t = some i) (ha : isAggL P t = some ag) (h1' : ag = false → i.size = 1)
    (hcs : VRels ρ w cs vs.toList) (h1 : ag = false → cs[off]? = some v) (h2 : ag = true → off + i.size ≤ cs.length ∧ v = .agg ((cs.drop off).take i.size)) :
    ∃ u, (part t vs off).run P w = .ok u w ∧ VRel ρ w v u := by
  unfold part
  simp only [Sem.run_bind, isAggL_run ha, Result.andThen_ok]
  cases ag with
  | false =>
    obtain ⟨u, hu, hr⟩ := hcs.get off v (h1 rfl)
    rw [Array.getElem?_toList] at hu
    exact ⟨u, by simp [hu], hr⟩
  | true =>
    obtain ⟨hle, rfl⟩ := h2 rfl
    have hs := (hcs.split (n := off)).2.split (n := i.size)
    have hlen := hcs.length
    simp only [Array.length_toList] at hlen
    refine ⟨.agg (vs.extract off (off + i.size)), by simp [sizeOf_run hi], ?_⟩
    simp only [VRel]
    refine ⟨_, rfl, ?_⟩
    have : (vs.extract off (off + i.size)).toList = (vs.toList.drop off).take i.size := by
      rw [Array.toList_extract, List.extract_eq_take_drop]
      congr 1; omega
    rw [this]; exact hs.1

theorem snd_fld {s : TypeId} {fs : Array Field} {f : Nat} {fd : Field} {j : TypeInfo} {ag : Bool} {x : Operand} {sx : S} (hop : o.op = .field s x f) (hs : P.underlying s = some (.struct fs)) (hf : fs[f]? = some fd)
    (hj : P.info? fd.type = some j) (ha : isAggL P fd.type = some ag) (h0 : ag = false → j.size = 1) (hx : opL x = some sx) (ht : TRel ρ w τ a N) (hH : HRel ρ H w)
    (he : runI T (.fld fd.offset j.size ag sx) τ H (fun v H => some (v, H)) = some (v, H')) : OpOK P o a m ρ H w v H' := by
  have hv := opL_rel ht hx
  simp only [runI] at he
  split at he
  · rename_i cs e
    rw [e] at hv
    simp only [VRel] at hv
    obtain ⟨vs, hu, hcs⟩ := hv
    obtain ⟨v', hk, h1, h2⟩ := getC_some he
    simp at hk; obtain ⟨rfl, rfl⟩ := hk
    obtain ⟨u, hr, hv⟩ := part_run hj ha h0 hcs h1 h2
    refine OpOK.same hH (u := u) ?_ hv
    simp [execOp, hop, hu, Instr.field, run_underlying hs, hf, asAgg, hr]
  · simp at he

theorem snd_ext {x : Operand} {sx : S} {j : Nat} (hop : o.op = .extract x j) (hx : opL x = some sx) (ht : TRel ρ w τ a N) (hH : HRel ρ H w)
    (he : runI T (.ext j sx) τ H (fun v H => some (v, H)) = some (v, H')) : OpOK P o a m ρ H w v H' := by
  have hv := opL_rel ht hx
  simp only [runI] at he
  split at he
  · rename_i cs e
    rw [e] at hv
    simp only [VRel] at hv
    obtain ⟨vs, hu, hcs⟩ := hv
    split at he
    · rename_i v' hc
      simp at he; obtain ⟨rfl, rfl⟩ := he
      obtain ⟨u, h1, h2⟩ := hcs.get _ _ hc
      rw [Array.getElem?_toList] at h1
      refine OpOK.same hH (u := u) ?_ h2
      simp [execOp, hop, hu, Instr.extract, h1]
    · simp at he
  · simp at he

theorem run_indexAt_slice {t e : TypeId} {j : TypeInfo} {k : IntKind} {n : Int} {ad : Addr} {len c : Nat} (hu : P.underlying t = some (.slice e)) (hj : P.info? e = some j) (h0 : 0 ≤ n) (h1 : n < (len : Int)) :
    (Instr.indexAt t (.slice (some ad) len c) (.int k n)).run P w = .ok (.pointer (some (ad.add (n.toNat * j.size)))) w := by
  simp [Instr.indexAt, asIntOf, run_underlying hu, h0, h1, sizeOf_run hj]

theorem run_indexAt_array {t e : TypeId} {j : TypeInfo} {k : IntKind} {n : Int} {ad : Addr} {len : Nat} (hu : P.underlying t = some (.array len e)) (hj : P.info? e = some j) (h0 : 0 ≤ n) (h1 : n < (len : Int)) :
    (Instr.indexAt t (.pointer (some ad)) (.int k n)).run P w = .ok (.pointer (some (ad.add (n.toNat * j.size)))) w := by
  simp [Instr.indexAt, asIntOf, run_underlying hu, Instr.sureAddr, h0, h1, sizeOf_run hj]

theorem own_rel {β : Nat} {u : Value} {x : Blk} (hH : HRel ρ H w) (hb : H[β]? = some x) (hx : x ≠ .dead) (h : VRel ρ w (.own β) u) :
    (ρ β = .none_ ∧ ∃ a, u = .slice a 0 0) ∨ ∃ b o n sz c, ρ β = .at b o n sz ∧ n ≤ c ∧ u = .slice (some ⟨b, o, none⟩) n c ∧ Room w b (o + c * sz) := by
  simp only [VRel] at h
  rcases hr : ρ β with _ | _ | _ | ⟨b, o, n, sz⟩ <;> rw [hr] at h <;> simp only at h
  · exact absurd hr (live_of hH hb hx)
  · exact .inl ⟨rfl, h⟩
  · obtain ⟨c, h1, h2, h3⟩ := h
    exact .inr ⟨b, o, n, sz, c, rfl, h1, h2, h3⟩

theorem none_arr {β : Nat} {K : Kd} {xs : List K.T} {t : TypeId} (hH : HRel ρ H w) (hb : H[β]? = some (.arr K xs t)) (hr : ρ β = .none_) : xs = [] := by
  have hl : β < H.length := (List.getElem?_eq_some_iff.1 hb).1
  rcases hH.none_ β hl hr with ⟨K', t', h1⟩ | ⟨t', z', h1⟩
  · rw [hb] at h1
    injection h1 with h1
    injection h1 with h2 h3 h4
    subst h2
    exact eq_of_heq h3
  · rw [hb] at h1; simp at h1

theorem none_cells {β : Nat} {cs : List SV} {t : TypeId} {z : Nat} (hH : HRel ρ H w) (hb : H[β]? = some (.cells cs t z)) (hr : ρ β = .none_) : cs = [] := by
  have hl : β < H.length := (List.getElem?_eq_some_iff.1 hb).1
  rcases hH.none_ β hl hr with ⟨K', t', h1⟩ | ⟨t', z', h1⟩
  · rw [hb] at h1; simp at h1
  · rw [hb] at h1; simp at h1; exact h1.1

theorem snd_ia {t e : TypeId} {j : TypeInfo} {x ix : Operand} {sx si : S} (hop : o.op = .indexAddr t x ix) (hu : P.underlying t = some (.slice e)) (hj : P.info? e = some j) (hx : opL x = some sx) (hi : opL ix = some si)
    (ht : TRel ρ w τ a N) (hH : HRel ρ H w) (he : runI T (.ia j.size sx si) τ H (fun v H => some (v, H)) = some (v, H')) : OpOK P o a m ρ H w v H' := by
  have vx := opL_rel ht hx
  have vi := opL_rel ht hi
  have key : H' = H ∧ ∃ u, (Instr.indexAt t (a.eval x) (a.eval ix)).run P w = .ok u w ∧ VRel ρ w v u := by
    simp only [runI, iaI] at he
    split at he
    · rename_i k n ei
      rw [ei] at vi
      simp only [VRel] at vi
      rw [vi]
      split at he
      · rename_i K xs ex
        rw [ex] at vx
        split at he
        · rename_i hK
          obtain ⟨h0, he⟩ := tst_some he
          obtain ⟨h1, he⟩ := tst_some he
          simp at he h0 h1; obtain ⟨rfl, rfl⟩ := he
          simp only [VRel, CRel] at vx
          obtain ⟨a', c, e1, hc, hx'⟩ := vx
          simp at e1
          have hpos : 0 < xs.length := by omega
          obtain ⟨ad, rfl, hB, hel⟩ := hx' hpos
          have hn : n.toNat < xs.length := by omega
          obtain ⟨es, h3, h4⟩ := hel n.toNat (xs.getD n.toNat K.dflt) (by simp [List.getD, List.getElem?_eq_getElem hn])
          rw [e1, run_indexAt_slice hu hj h0 h1]
          refine ⟨rfl, _, rfl, ?_⟩
          simp only [VRel]
          exact ⟨ad.add (n.toNat * j.size), es, by rw [add_add, Nat.add_zero], h3, by rw [block_add]; exact hB, fun q u hq => by rw [add_add, ← hK]; exact h4 q u hq⟩
        · simp at he
      · rename_i β ex
        rw [ex] at vx
        split at he
        · rename_i K xs t' hb
          split at he
          · rename_i hK
            obtain ⟨h0, he⟩ := tst_some he
            obtain ⟨h1, he⟩ := tst_some he
            simp at he h0 h1; obtain ⟨rfl, rfl⟩ := he
            rcases own_rel hH hb (by simp) vx with ⟨hr, _⟩ | ⟨b, o', n', sz, c, hr, hc, hv, hroom⟩
            · have := none_arr hH hb hr; subst this; simp at h1; omega
            · obtain ⟨hsz, hn, _⟩ := row_of hH hb hr
              rw [hv, run_indexAt_slice hu hj h0 (by rw [← hn]; exact h1)]
              refine ⟨rfl, _, rfl, ?_⟩
              simp only [VRel, hr]
              rw [add_plain, ← hsz, hK]; rfl
          · simp at he
        · rename_i cs t' z hb
          split at he
          · rename_i hz
            obtain ⟨hz1, hz⟩ := hz
            obtain ⟨h0, he⟩ := tst_some he
            obtain ⟨h1, he⟩ := tst_some he
            simp at he h0; obtain ⟨rfl, rfl⟩ := he
            have h1 := of_decide_eq_true h1
            rcases own_rel hH hb (by simp) vx with ⟨hr, _⟩ | ⟨b, o', n', sz, c, hr, hc, hv, hroom⟩
            · have := none_cells hH hb hr; subst this; simp at h1; omega
            · obtain ⟨C, tC, _, hsz, hn, _⟩ := cells_of hH hb hr
              have hn' : cs.length / j.size = n' := by rw [hn, ← hsz, hz1]; exact Nat.mul_div_cancel _ (by omega)
              rw [hn'] at h1
              rw [hv, run_indexAt_slice hu hj h0 h1]
              refine ⟨rfl, _, rfl, ?_⟩
              simp only [VRel, hr]
              rw [add_plain]
          · simp at he
        · simp at he
      · rename_i β off len ex
        rw [ex] at vx
        split at he
        · rename_i K xs t' hb
          split at he
          · rename_i hK
            obtain ⟨h0, he⟩ := tst_some he
            obtain ⟨h1, he⟩ := tst_some he
            simp at he h0 h1; obtain ⟨rfl, rfl⟩ := he
            simp only [VRel] at vx
            rcases hr : ρ β with _ | _ | _ | ⟨b, o', n', sz⟩ <;> rw [hr] at vx <;> simp only at vx
            · exact absurd hr (live_of hH hb (by simp))
            · obtain ⟨rfl, _⟩ := vx; simp at h1; omega
            · obtain ⟨hle, a', c, hv, hc, h5⟩ := vx
              obtain ⟨hsz, hn, _⟩ := row_of hH hb hr
              rcases h5 with ⟨rfl, _⟩ | ⟨rfl, _⟩
              · simp at h1; omega
              · rw [hv, run_indexAt_slice hu hj h0 h1]
                refine ⟨rfl, _, rfl, ?_⟩
                simp only [VRel, hr]
                rw [add_plain, ← hsz, hK, Nat.add_mul, Nat.add_assoc]; rfl
          · simp at he
        · simp at he
      · simp at he
    · simp at he
  obtain ⟨rfl, u, hr, hv⟩ := key
  exact OpOK.same hH (u := u) (by simp [execOp, hop, hr]) hv

theorem snd_iar {t e : TypeId} {j : TypeInfo} {len : Nat} {x ix : Operand} {sx si : S} (hop : o.op = .indexAddr t x ix) (hu : P.underlying t = some (.array len e)) (hj : P.info? e = some j) (hx : opL x = some sx) (hi : opL ix = some si)
    (ht : TRel ρ w τ a N) (hH : HRel ρ H w) (he : runI T (.iar len j.size sx si) τ H (fun v H => some (v, H)) = some (v, H')) : OpOK P o a m ρ H w v H' := by
  have vx := opL_rel ht hx
  have vi := opL_rel ht hi
  have key : H' = H ∧ ∃ u, (Instr.indexAt t (a.eval x) (a.eval ix)).run P w = .ok u w ∧ VRel ρ w v u := by
    simp only [runI, iarI] at he
    split at he
    · rename_i k n ei
      rw [ei] at vi
      simp only [VRel] at vi
      rw [vi]
      split at he
      · rename_i β off ex
        rw [ex] at vx
        split at he
        · rename_i K xs t' hb
          split at he
          · split at he
            · rename_i hK
              obtain ⟨h0, he⟩ := tst_some he
              obtain ⟨h1, he⟩ := tst_some he
              simp at he h0 h1; obtain ⟨rfl, rfl⟩ := he
              obtain ⟨b, o', n', sz, hr, hv⟩ := ptr_rel hH hb (by simp) vx
              obtain ⟨hsz, hn, _⟩ := row_of hH hb hr
              rw [hv, run_indexAt_array hu hj h0 h1]
              refine ⟨rfl, _, rfl, ?_⟩
              simp only [VRel, hr]
              rw [add_plain, ← hsz, hK]; rfl
            · simp at he
          · simp at he
        · rename_i cs t' z hb
          obtain ⟨h0, he⟩ := tst_some he
          obtain ⟨h1, he⟩ := tst_some he
          simp at he h0 h1; obtain ⟨rfl, rfl⟩ := he
          obtain ⟨b, o', n', sz, hr, hv⟩ := ptr_rel hH hb (by simp) vx
          rw [hv, run_indexAt_array hu hj h0 h1]
          refine ⟨rfl, _, rfl, ?_⟩
          simp only [VRel, hr]
          rw [add_plain, Nat.add_assoc]
        · simp at he
      · simp at he
    · simp at he
  obtain ⟨rfl, u, hr, hv⟩ := key
  exact OpOK.same hH (u := u) (by simp [execOp, hop, hr]) hv

theorem snd_ixa {t e : TypeId} {j : TypeInfo} {len : Nat} {ag : Bool} {x ix : Operand} {sx si : S} (hop : o.op = .index t x ix) (hu : P.underlying t = some (.array len e)) (hj : P.info? e = some j) (ha : isAggL P e = some ag)
    (hs1 : ag = false → j.size = 1) (hx : opL x = some sx) (hi : opL ix = some si)
    (ht : TRel ρ w τ a N) (hH : HRel ρ H w) (he : runI T (.ixa len j.size ag sx si) τ H (fun v H => some (v, H)) = some (v, H')) : OpOK P o a m ρ H w v H' := by
  have vx := opL_rel ht hx
  have vi := opL_rel ht hi
  have key : H' = H ∧ ∃ u, (Instr.index t (a.eval x) (a.eval ix)).run P w = .ok u w ∧ VRel ρ w v u := by
    simp only [runI, ixaI] at he
    split at he
    · rename_i k n ei
      rw [ei] at vi
      simp only [VRel] at vi
      rw [vi]
      split at he
      · rename_i K xs ex
        rw [ex] at vx
        split at he
        · rename_i hK
          obtain ⟨h0, he⟩ := tst_some he
          obtain ⟨h1, he⟩ := tst_some he
          obtain ⟨h2, he⟩ := tst_some he
          simp at h0 h1 h2
          obtain ⟨v', hk, h3, h4⟩ := getC_some he
          simp at hk; obtain ⟨rfl, rfl⟩ := hk
          simp only [VRel] at vx
          obtain ⟨vs, hv, hsz, hel⟩ := vx
          have hn : n.toNat < xs.length := by omega
          obtain ⟨es, h5, h6⟩ := hel n.toNat (xs.getD n.toNat K.dflt) (by simp [List.getD, List.getElem?_eq_getElem hn])
          have hes := enc_rel h5
          have hidx : Instr.index t (.agg vs) (.int k n) = Instr.index t (.agg vs) (.int k n) := rfl
          rw [hv]
          simp only [Instr.index, asIntOf, Sem.run_bind, Sem.run_pure, Result.andThen_ok, run_underlying hu, sizeOf_run hj]
          rw [if_pos ⟨h0, h1⟩]
          simp only [Sem.run_bind, sizeOf_run hj, Result.andThen_ok]
          refine ⟨by first | rfl | trivial, ?_⟩
          unfold part
          simp only [Sem.run_bind, isAggL_run ha, Result.andThen_ok]
          cases ag with
          | false =>
            obtain ⟨u, h7, h8⟩ := hes.get 0 v' (h3 rfl)
            have := h6 0 u h7
            rw [Nat.add_zero, hK] at this
            exact ⟨u, by simp [this], h8⟩
          | true =>
            obtain ⟨h9, rfl⟩ := h4 rfl
            have hel' : (enc K (xs.getD n.toNat K.dflt)).length = j.size := by rw [enc_length, hK]
            refine ⟨.agg (vs.extract (n.toNat * j.size) (n.toNat * j.size + j.size)), by simp [sizeOf_run hj], ?_⟩
            simp only [VRel]
            refine ⟨_, rfl, ?_⟩
            have hle : (n.toNat + 1) * j.size ≤ xs.length * j.size := Nat.mul_le_mul_right _ hn
            rw [Nat.add_mul, Nat.one_mul] at hle
            have hex : (vs.extract (n.toNat * j.size) (n.toNat * j.size + j.size)).toList = es := by
              apply List.ext_getElem?
              intro q
              rw [Array.toList_extract, List.extract_eq_take_drop, List.getElem?_take]
              have hlen := h5.length
              by_cases hq : q < j.size
              · rw [if_pos (by omega), List.getElem?_drop, Array.getElem?_toList]
                have hqe : q < es.length := by omega
                have := h6 q es[q] (List.getElem?_eq_getElem hqe)
                rw [hK] at this
                rw [this, List.getElem?_eq_getElem hqe]
              · rw [if_neg (by omega), List.getElem?_eq_none (by omega)]
            rw [hex, List.drop_zero, List.take_of_length_le (by omega)]
            exact hes
        · simp at he
      · rename_i cs ex
        rw [ex] at vx
        obtain ⟨h0, he⟩ := tst_some he
        obtain ⟨h1, he⟩ := tst_some he
        simp at h0 h1
        obtain ⟨v', hk, h3, h4⟩ := getC_some he
        simp at hk; obtain ⟨rfl, rfl⟩ := hk
        simp only [VRel] at vx
        obtain ⟨vs, hv, hcs⟩ := vx
        rw [hv]
        simp only [Instr.index, asIntOf, Sem.run_bind, Sem.run_pure, Result.andThen_ok, run_underlying hu]
        rw [if_pos ⟨h0, h1⟩]
        simp only [Sem.run_bind, sizeOf_run hj, Result.andThen_ok]
        exact ⟨by first | rfl | trivial, part_run hj ha hs1 hcs h3 h4⟩
      · simp at he
    · simp at he
  obtain ⟨rfl, u, hr, hv⟩ := key
  exact OpOK.same hH (u := u) (by simp [execOp, hop, hr]) hv
end

end Go.Proofs.Ytjnkefbdpcbkmaa.Den
