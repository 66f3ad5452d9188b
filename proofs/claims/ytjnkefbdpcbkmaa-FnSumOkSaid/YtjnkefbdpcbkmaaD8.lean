/- One operation: what is built, made, stored and appended. -/
import Derived.Test.YtjnkefbdpcbkmaaD7
import Derived.ArgAppend
namespace Go.Proofs.Ytjnkefbdpcbkmaa.Den
open Go Go.RowKit
set_option linter.unusedVariables false
set_option linter.unusedSimpArgs false

section
variable {P : Program} {o : Oper} {a : Act} {m : Bool} {ρ : Map} {H H' : Heap} {w : World} {τ : Env} {N : Nat} {T : Tab} {v : SV}

theorem cells_rel {x : SV} {u : Value} {cs : List SV} (h : x.cells? = some cs) (hv : VRel ρ w x u) : VRels ρ w cs u.cells.toList := by
  have one : ∀ {x : SV}, x.oneB = true → VRel ρ w x u → VRels ρ w [x] u.cells.toList := by
    intro x h1 h2
    have h3 := one_of_rel h2 h1
    have h4 : u.cells.toList = [u] := by cases u <;> simp [Value.oneCell'] at h3 <;> rfl
    rw [h4]; exact VRels.single h2
  cases x <;> simp only [SV.cells?, Option.some.injEq, reduceCtorEq] at h <;> subst h
  case agg cs =>
    simp only [VRel] at hv
    obtain ⟨us, rfl, h1⟩ := hv
    exact h1
  all_goals exact one rfl hv

theorem setCells_rel {cs us : List SV} {vs ws : List Value} {off : Nat} (h1 : VRels ρ w cs vs) (h2 : VRels ρ w us ws) : VRels ρ w (setCells cs off us) (vs.take off ++ (ws ++ vs.drop (off + ws.length))) := by
  unfold setCells
  rw [h2.length]
  exact (h1.split).1.append (h2.append (h1.split).2)

theorem fold_set (vs : List Value) : ∀ (off k : Nat) (C : Array Value), off + k + vs.length ≤ C.size →
    ((vs.zipIdx k).foldl (fun cs (x : Value × Nat) => cs.setIfInBounds (off + x.2) x.1) C).toList = C.toList.take (off + k) ++ (vs ++ C.toList.drop (off + k + vs.length)) := by
  induction vs with
  | nil => intro off k C h; simp
  | cons v vs ih =>
    intro off k C h
    simp only [List.zipIdx_cons, List.foldl_cons]
    rw [ih off (k + 1) _ (by simp at h ⊢; omega)]
    have := list_seg_step C.toList (off + k) v vs (by simp at h ⊢; omega)
    simp only [Array.toList_setIfInBounds]
    rw [show off + (k + 1) = off + k + 1 by omega]
    simpa [List.append_assoc] using this

theorem fill_rel {place : Nat → Option (Nat × Nat)} (ht : TRel ρ w τ a N) : ∀ {parts : List (Nat × Operand)} {ps : List (Nat × Nat × S)} {cs cs' : List SV} {C : Array Value},
    partsL P place parts = some ps → fillP τ ps cs = some cs' → VRels ρ w cs C.toList →
    ∃ C', Instr.fill place C (parts.map fun p => (p.1, a.eval p.2)) = some C' ∧ VRels ρ w cs' C'.toList
  | [], ps, cs, cs', C, h1, h2, h3 => by
    simp [partsL] at h1; subst h1
    simp [fillP] at h2; subst h2
    exact ⟨C, rfl, h3⟩
  | (i, x) :: parts, ps, cs, cs', C, h1, h2, h3 => by
    simp only [partsL] at h1
    split at h1
    · rename_i off n s ps' hp hx hps
      simp at h1; subst h1
      simp only [fillP] at h2
      split at h2
      · rename_i us hus
        split at h2
        · rename_i hle
          have hu := cells_rel hus (opL_rel ht hx)
          have hul := hu.length
          have hcl := h3.length
          simp only [Array.length_toList] at hul hcl
          have hcond : ¬ ((a.eval x).cells.size ≠ n ∨ off + (a.eval x).cells.size > C.size) := by omega
          have hf := fold_set (a.eval x).cells.toList off 0 C (by simp; omega)
          have hr := setCells_rel (off := off) h3 hu
          simp only [Nat.add_zero] at hf
          rw [← hf] at hr
          obtain ⟨C', h4, h5⟩ := fill_rel ht hps h2 hr
          refine ⟨C', ?_, h5⟩
          simp only [List.map_cons, Instr.fill, hp]
          have hb : ((decide ((a.eval x).cells.size ≠ n) || decide (off + (a.eval x).cells.size > C.size))) = false := by
            simp; omega
          rw [if_neg (by simpa using hb)]
          rw [← h4]
          congr 1
          rw [← Array.foldl_toList, Array.toList_zipIdx]
        · simp at h2
      · simp at h2
    · simp at h1

theorem mapM_run {α β : Type} (f : α → Sem β) (g : α → β) (w : World) : ∀ (l : List α), (∀ x ∈ l, (f x).run P w = .ok (g x) w) → (l.mapM f).run P w = .ok (l.map g) w
  | [], _ => by simp
  | x :: l, h => by
    rw [List.mapM_cons]
    simp only [Sem.run_bind, h x (by simp), Result.andThen_ok, mapM_run f g w l (fun y hy => h y (by simp [hy])), Sem.run_pure, List.map_cons]

theorem snd_build {t : TypeId} {fs : Array Field} {sz by_ : Nat} {zs : List SV} {parts : Array (Nat × Operand)} {ps : List (Nat × Nat × S)} (hop : o.op = .build t parts) (hu : P.underlying t = some (.struct fs))
    (hz : tinfo P t = some (sz, zs, by_)) (hfs : ∀ f ∈ fs.toList, (P.info? f.type).isSome = true) (hps : partsL P (placeL P fs) parts.toList = some ps) (ht : TRel ρ w τ a N) (hH : HRel ρ H w)
    (he : runI T (.build zs ps) τ H (fun v H => some (v, H)) = some (v, H')) : OpOK P o a m ρ H w v H' := by
  simp only [runI] at he
  split at he
  · rename_i cs hcs
    simp at he; obtain ⟨rfl, rfl⟩ := he
    obtain ⟨i, z, hi, hzz, _, _, hsv, _⟩ := tinfo_spec hz
    obtain ⟨C', h1, h2⟩ := fill_rel (P := P) ht hps hcs (svsOf_rel hsv)
    have hzero : (zeroValue t).run P w = .ok z w := by simp [zeroValue, typeInfo, hi, hzz]
    have hmap : (fs.mapM fun f => do pure (f.offset, ← sizeOf f.type) : Sem (Array (Nat × Nat))).run P w = .ok (fs.map fun f => (f.offset, P.cellsOf f.type)) w := by
      rw [Array.mapM_eq_mapM_toList]
      rw [Sem.run_map, mapM_run _ (fun f : Field => (f.offset, P.cellsOf f.type))]
      · simp only [Result.andThen_ok]; congr 1; apply Array.ext'; simp
      · intro f hf
        obtain ⟨j, hj⟩ := Option.isSome_iff_exists.1 (hfs f hf)
        simp [sizeOf_run hj, Program.cellsOf, hj]
    have hplace : (fun i => (fs.map fun f => (f.offset, P.cellsOf f.type))[i]?) = placeL P fs := by
      funext i
      simp only [placeL, Array.getElem?_map]
      cases hf : fs[i]? with
      | none => rfl
      | some f =>
        obtain ⟨j, hj⟩ := Option.isSome_iff_exists.1 (hfs f (by rw [← Array.getElem?_toList] at hf; exact List.mem_of_getElem? hf))
        simp [hj, Program.cellsOf]
    refine OpOK.same hH (u := .agg C') ?_ (by simp only [VRel]; exact ⟨_, rfl, h2⟩)
    simp only [execOp, hop, Instr.build, Sem.run_bind, hzero, Result.andThen_ok, run_underlying hu, hmap]
    rw [hplace]
    have e : (parts.map fun x => (x.1, a.eval x.2)).toList = parts.toList.map fun p => (p.1, a.eval p.2) := by simp
    rw [e, h1]
    rfl
  · simp at he

theorem snd_buildA {t el : TypeId} {n : Nat} {sz by_ : Nat} {j : TypeInfo} {zs : List SV} {parts : Array (Nat × Operand)} {ps : List (Nat × Nat × S)} (hop : o.op = .build t parts) (hu : P.underlying t = some (.array n el))
    (hz : tinfo P t = some (sz, zs, by_)) (hj : P.info? el = some j) (hps : partsL P (fun i => some (i * j.size, j.size)) parts.toList = some ps) (ht : TRel ρ w τ a N) (hH : HRel ρ H w)
    (he : runI T (.build zs ps) τ H (fun v H => some (v, H)) = some (v, H')) : OpOK P o a m ρ H w v H' := by
  simp only [runI] at he
  split at he
  · rename_i cs hcs
    simp at he; obtain ⟨rfl, rfl⟩ := he
    obtain ⟨i, z, hi, hzz, _, _, hsv, _⟩ := tinfo_spec hz
    obtain ⟨C', h1, h2⟩ := fill_rel (P := P) ht hps hcs (svsOf_rel hsv)
    have hzero : (zeroValue t).run P w = .ok z w := by simp [zeroValue, typeInfo, hi, hzz]
    refine OpOK.same hH (u := .agg C') ?_ (by simp only [VRel]; exact ⟨_, rfl, h2⟩)
    simp only [execOp, hop, Instr.build, Sem.run_bind, hzero, Result.andThen_ok, run_underlying hu, sizeOf_run hj]
    have e : (parts.map fun x => (x.1, a.eval x.2)).toList = parts.toList.map fun p => (p.1, a.eval p.2) := by simp
    rw [e, h1]
    rfl
  · simp at he

/-! ### a new block -/
theorem good_alloc {C : Array Value} {t : TypeId} {n sz : Nat} {x : Blk} {u : Value} (hH : HRel ρ H w) (hu : ρ H.length = .unborn)
    (hx : BRel (ρ.put H.length (.at w.heap.size 0 n sz)) (w.alloc (.cells C t (0, 0))) w.heap.size 0 n sz x) (hv : VRel (ρ.put H.length (.at w.heap.size 0 n sz)) (w.alloc (.cells C t (0, 0))) v u) :
    Good m ρ H w v (H ++ [x]) u (w.alloc (.cells C t (0, 0))) (ρ.put H.length (.at w.heap.size 0 n sz)) where
  step := Step.alloc _ _ _ _ _ hu
  hrel := hH.alloc hu hx
  vrel := hv
  len := by simp
  unb β h1 h2 := by
    have : β ≠ H.length := by rintro rfl; simp at h2; omega
    rw [Map.put_other _ _ this]; exact h1
  mono _ := by
    refine ⟨⟨_, rfl⟩, fun β h2 => ?_, fun b hb => ?_⟩
    · have : β ≠ H.length := by rintro rfl; simp at h2; omega
      exact Map.put_other _ _ this
    · simp only [World.alloc]; rw [Array.getElem?_push, if_neg (by omega)]

theorem brel_cells_new {cs : List SV} {C : Array Value} {t : TypeId} {n sz : Nat} (hu : ρ H.length = .unborn) (hcs : VRels ρ w cs (C.toList.take cs.length)) (hl : cs.length = n * sz) (hC : cs.length ≤ C.size) :
    BRel (ρ.put H.length (.at w.heap.size 0 n sz)) (w.alloc (.cells C t (0, 0))) w.heap.size 0 n sz (.cells cs t sz) := by
  simp only [BRel]
  refine ⟨by first | rfl | trivial, hl, C, t, heap_alloc_new w _, by omega, fun j s hs => ?_⟩
  obtain ⟨u, h1, h2⟩ := hcs.get j s hs
  rw [List.getElem?_take] at h1
  split at h1
  · rw [Array.getElem?_toList] at h1
    exact ⟨u, by rw [Nat.zero_add]; exact h1, h2.step (Step.alloc _ _ _ _ _ hu)⟩
  · simp at h1

theorem brel_arr_new {K : Kd} {xs : List K.T} {C : Array Value} {t : TypeId} (hu : ρ H.length = .unborn) (hC : xs.length * K.sz ≤ C.size) (hrow : RowRel w (Free ρ w) K xs C 0) :
    BRel (ρ.put H.length (.at w.heap.size 0 xs.length K.sz)) (w.alloc (.cells C t (0, 0))) w.heap.size 0 xs.length K.sz (.arr K xs t) := by
  simp only [BRel]
  refine ⟨by first | rfl | trivial, by first | rfl | trivial, C, t, heap_alloc_new w _, by omega, fun i x hx => ?_⟩
  obtain ⟨es, h1, h2⟩ := hrow i x hx
  exact ⟨es, h1.step (Step.alloc _ _ _ _ _ hu), h2⟩

theorem snd_alloc {e : TypeId} {sz by_ : Nat} {zs : List SV} (hop : o.op = .alloc e) (hz : tinfo P e = some (sz, zs, by_)) (hH : HRel ρ H w) (hu : ρ H.length = .unborn)
    (he : runI T (.alloc zs e) τ H (fun v H => some (v, H)) = some (v, H')) : OpOK P o a m ρ H w v H' := by
  simp only [runI] at he
  simp at he; obtain ⟨rfl, rfl⟩ := he
  obtain ⟨i, z, hi, hzz, _, _, hsv, _⟩ := tinfo_spec hz
  have hzero : (zeroValue e).run P w = .ok z w := by simp [zeroValue, typeInfo, hi, hzz]
  have hcs : VRels ρ w zs z.cells.toList := svsOf_rel hsv
  have hl := hcs.length
  simp only [Array.length_toList] at hl
  refine OpOK.value (w' := w.alloc (.cells z.cells e (0, 0))) (u := .pointer (some ⟨w.heap.size, 0, none⟩)) ?_ (good_alloc (n := 1) (sz := zs.length) hH hu ?_ ?_)
  · simp only [execOp, hop, Instr.alloc, Sem.run_bind, hzero, Result.andThen_ok, newVar, newRow, run_newObj, Sem.run_pure]; rfl
  · exact brel_cells_new hu (by rw [hl, List.take_of_length_le (by simp)]; exact hcs) (by simp) (by omega)
  · simp only [VRel, Map.put_same]

theorem snd_box {e : TypeId} {x : Operand} {sx : S} (hop : o.op = .box e x) (hx : opL x = some sx) (ht : TRel ρ w τ a N) (hH : HRel ρ H w) (hu : ρ H.length = .unborn)
    (he : runI T (.box e sx) τ H (fun v H => some (v, H)) = some (v, H')) : OpOK P o a m ρ H w v H' := by
  have vx := opL_rel ht hx
  have hrun : (execOp a.eval o).run P w = .ok (.value (.pointer (some ⟨w.heap.size, 0, none⟩))) (w.alloc (.cells (a.eval x).cells e (0, 0))) := by
    simp only [execOp, hop, Instr.box, Sem.run_bind, newVar, newRow, run_newObj, Result.andThen_ok, Sem.run_pure]; rfl
  simp only [runI] at he
  split at he
  · rename_i K xs ex
    rw [ex] at vx
    simp at he; obtain ⟨rfl, rfl⟩ := he
    simp only [VRel] at vx
    obtain ⟨vs, hv, hsz, hel⟩ := vx
    refine OpOK.value hrun (good_alloc (n := xs.length) (sz := K.sz) hH hu ?_ ?_)
    · refine brel_arr_new hu (by rw [hv]; simp [Value.cells, hsz]) fun i y hy => ?_
      obtain ⟨es, h1, h2⟩ := hel i y hy
      refine ⟨es, h1, fun j u hj => ?_⟩
      rw [hv, Nat.zero_add]; exact h2 j u hj
    · simp only [VRel, Map.put_same]
  · split at he
    · rename_i cs hcs
      simp at he; obtain ⟨rfl, rfl⟩ := he
      have hc := cells_rel hcs vx
      have hl := hc.length
      simp only [Array.length_toList] at hl
      refine OpOK.value hrun (good_alloc (n := 1) (sz := cs.length) hH hu ?_ ?_)
      · exact brel_cells_new hu (by rw [hl, List.take_of_length_le (by simp)]; exact hc) (by simp) (by omega)
      · simp only [VRel, Map.put_same]
    · simp at he

theorem snd_allocA {e : TypeId} {n : Nat} {by_ : Nat} {zs : List SV} (hop : o.op = .alloc e) (hz : tinfo P e = some (n, zs, by_)) (h0 : (zs.all fun x => isZero (.int .i64) [x]) = true) (hH : HRel ρ H w) (hu : ρ H.length = .unborn)
    (he : runI T (.allocA (.int .i64) n e) τ H (fun v H => some (v, H)) = some (v, H')) : OpOK P o a m ρ H w v H' := by
  simp only [runI] at he
  simp at he; obtain ⟨rfl, rfl⟩ := he
  obtain ⟨i, z, hi, hzz, _, _, hsv, hl'⟩ := tinfo_spec hz
  have hzero : (zeroValue e).run P w = .ok z w := by simp [zeroValue, typeInfo, hi, hzz]
  have hcs : VRels ρ w zs z.cells.toList := svsOf_rel hsv
  have hl := hcs.length
  simp only [Array.length_toList] at hl
  have hlen : (List.replicate n (Kd.dflt (.int .i64))).length = n := by simp
  refine OpOK.value (w' := w.alloc (.cells z.cells e (0, 0))) (u := .pointer (some ⟨w.heap.size, 0, none⟩)) ?_ (good_alloc (n := (List.replicate n (Kd.dflt (.int .i64))).length) (sz := Kd.sz (.int .i64)) hH hu ?_ ?_)
  · simp only [execOp, hop, Instr.alloc, Sem.run_bind, hzero, Result.andThen_ok, newVar, newRow, run_newObj, Sem.run_pure]; rfl
  · refine brel_arr_new hu (by rw [hlen]; simp [Kd.sz]; omega) fun i x hx => ?_
    have hin : i < n := by have := (List.getElem?_eq_some_iff.1 hx).1; simpa using this
    have hx0 : x = (0 : Int) := by
      rw [List.getElem?_replicate, if_pos hin] at hx
      exact (Option.some.inj hx).symm
    subst hx0
    refine ⟨[.int .i64 0], rfl, fun j u hj => ?_⟩
    cases j with
    | succ j => simp at hj
    | zero =>
      simp at hj; subst hj
      have hzi : i < zs.length := by omega
      obtain ⟨u, h1, h2⟩ := hcs.get i zs[i] (List.getElem?_eq_getElem hzi)
      have h3 := List.all_eq_true.1 h0 zs[i] (List.getElem_mem hzi)
      have h4 : zs[i] = .int .i64 0 := by
        simp only [isZero] at h3
        split at h3
        · rename_i k' heq
          simp at heq h3
          rw [heq, h3]
        · simp at h3
      rw [h4] at h2
      simp only [VRel] at h2
      subst h2
      rw [Array.getElem?_toList] at h1
      simpa [Kd.sz] using h1
  · simp only [VRel, Map.put_same]

/-! ### stores -/
theorem take_drop_get {α : Type} (l us : List α) (k j : Nat) (h : k + us.length ≤ l.length) :
    (l.take k ++ us ++ l.drop (k + us.length))[j]? = if k ≤ j ∧ j < k + us.length then us[j - k]? else l[j]? := by
  rw [List.append_assoc, List.getElem?_append, List.length_take, Nat.min_eq_left (by omega)]
  by_cases h1 : j < k
  · rw [if_pos h1, if_neg (by omega), List.getElem?_take, if_pos h1]
  · rw [if_neg h1, List.getElem?_append]
    by_cases h2 : j - k < us.length
    · rw [if_pos h2, if_pos (by omega)]
    · rw [if_neg h2, if_neg (by omega), List.getElem?_drop]
      congr 1; omega

theorem run_storeVar {t : TypeId} {i : TypeInfo} {b o' : Nat} {C : Array Value} {t' : TypeId} {u : Value} (hi : P.info? t = some i) (hs : u.cells.size = i.size) (hb : w.heap[b]? = some (.cells C t' (0, 0))) (hle : o' + i.size ≤ C.size)
    (h1 : ∀ x ∈ u.cells.toList, x.oneCell' = true) :
    (Instr.storeAt t (.pointer (some ⟨b, o', none⟩)) u).run P w = .ok () (w.setRow b (C.toList.take o' ++ u.cells.toList ++ C.toList.drop (o' + u.cells.toList.length)).toArray) := by
  have := run_storeCells_at (P := P) b o' t' u.cells.toList 0 C w hb (by simp; omega) h1
  simp only [Nat.add_zero] at this
  simp [Instr.storeAt, Instr.sureAddr, storeVar, sizeOf_run hi, hs, this]

theorem good_store {β b o' n sz : Nat} {C C' : Array Value} {t : TypeId} {x : Blk} (hH : HRel ρ H w) (hl : β < H.length) (hr : ρ β = .at b o' n sz) (hb : w.heap[b]? = some (.cells C t (0, 0))) (hs : C'.size = C.size)
    (hx : BRel ρ (w.setRow b C') b o' n sz x) : Good false ρ H w .junk (H.set β x) undef (w.setRow b C') ρ where
  step := Step.setRow hr hb hs
  hrel := hH.setRow hl hr hb hs hx
  vrel := by simp [VRel]
  len := by simp
  unb β h1 h2 := h1
  mono h := by simp at h

theorem one_all {us : List SV} {vs : List Value} (h : VRels ρ w us vs) (h1 : us.all SV.oneB = true) : ∀ x ∈ vs, x.oneCell' = true := by
  intro x hx
  obtain ⟨j, hj⟩ := List.mem_iff_getElem?.1 hx
  have hlt : j < vs.length := (List.getElem?_eq_some_iff.1 hj).1
  have hlu : j < us.length := by rw [h.length]; exact hlt
  obtain ⟨u, h2, h3⟩ := h.get j us[j] (List.getElem?_eq_getElem hlu)
  rw [hj] at h2; cases h2
  exact one_of_rel h3 (List.all_eq_true.1 h1 _ (List.getElem_mem hlu))

theorem row_raw {β b o n sz : Nat} {K : Kd} {xs : List K.T} {t : TypeId} (hH : HRel ρ H w) (hb : H[β]? = some (.arr K xs t)) (hr : ρ β = .at b o n sz) :
    xs.length = n ∧ K.sz = sz ∧ ∃ C tC, w.heap[b]? = some (.cells C tC (0, 0)) ∧ o + n * sz ≤ C.size ∧ RowRel w (Free ρ w) K xs C o := by
  have hl : β < H.length := (List.getElem?_eq_some_iff.1 hb).1
  obtain ⟨x, h1, h2⟩ := hH.at_ β hl _ _ _ _ hr
  rw [hb] at h1; simp at h1; subst h1
  simpa only [BRel] using h2

theorem enc_refs : ∀ {K : Kd} (x : K.T), SV.refsL (enc K x) = []
  | .int _, _ => rfl
  | .bool, _ => rfl
  | .unit, _ => rfl
  | .pair a b, x => by simp [enc, refsL_append, enc_refs x.1, enc_refs x.2]
  | .list e, _ => rfl

theorem refsL_mem {γ : Nat} : ∀ {cs : List SV}, γ ∈ SV.refsL cs ↔ ∃ c ∈ cs, γ ∈ c.refs
  | [] => by simp [SV.refsL]
  | c :: cs => by simp [SV.refsL, refsL_mem (cs := cs)]

theorem setCells_refs {K : Kd} {x : K.T} {j : Nat} {us : List SV} {γ : Nat} (h : γ ∈ SV.refsL (setCells (enc K x) j us)) : γ ∈ SV.refsL us := by
  rw [refsL_mem] at h ⊢
  obtain ⟨c, hc, hg⟩ := h
  unfold setCells at hc
  have hno : ∀ c ∈ enc K x, γ ∉ c.refs := fun c hc hg => by
    have : γ ∈ SV.refsL (enc K x) := refsL_mem.2 ⟨c, hc, hg⟩
    rw [enc_refs] at this; cases this
  rcases List.mem_append.1 hc with h1 | h1
  · exact absurd hg (hno c (List.mem_of_mem_take h1))
  · rcases List.mem_append.1 h1 with h2 | h2
    · exact ⟨c, h2, hg⟩
    · exact absurd hg (hno c (List.mem_of_mem_drop h2))

theorem free_kill (hH : HRel ρ H w) {rs : List Nat} {γ b o n sz : Nat} (hg : γ ∈ rs) (hr : ρ γ = .at b o n sz) : Free (ρ.kill rs) w b := by
  refine ⟨hH.lt _ _ _ _ _ hr, hH.resf _ _ _ _ _ hr, fun β o' n' sz' h => ?_⟩
  simp only [Map.kill] at h
  split at h
  · cases h
  · rename_i hn
    have := hH.inj _ _ _ _ _ _ _ _ _ hr h
    subst this
    exact hn ⟨hg, by rw [hr]; rfl⟩

theorem kill_at {rs : List Nat} {β : Nat} (h : β ∉ rs) : (ρ.kill rs) β = ρ β := by
  simp only [Map.kill]; rw [if_neg (fun h2 => h h2.1)]

theorem snd_st {t : TypeId} {i : TypeInfo} {x y : Operand} {sx sy : S} (hop : o.op = .store t x y) (hi : P.info? t = some i) (hx : opL x = some sx) (hy : opL y = some sy) (ht : TRel ρ w τ a N) (hH : HRel ρ H w)
    (he : runI T (.st i.size sx sy) τ H (fun v H => some (v, H)) = some (v, H')) : OpOK P o a false ρ H w v H' := by
  have vx := opL_rel ht hx
  have vy := opL_rel ht hy
  simp only [runI, stI] at he
  split at he
  · simp at he
  · rename_i vs hvs
    have hc := cells_rel hvs vy
    have hcl := hc.length
    simp only [Array.length_toList] at hcl
    split at he
    · rename_i hlen
      split at he
      · rename_i β off ex
        rw [ex] at vx
        split at he
        · rename_i cs t' z hb
          split at he
          · rename_i hle
            obtain ⟨hle, hone⟩ := hle
            simp at he; obtain ⟨rfl, rfl⟩ := he
            obtain ⟨b, o', n, sz, hr, hu⟩ := ptr_rel hH hb (by simp) vx
            obtain ⟨C, tC, hC, hz, hn, hsz, hcs, hm⟩ := cells_of hH hb hr
            have hlt : β < H.length := (List.getElem?_eq_some_iff.1 hb).1
            have hone' := one_all hc hone
            have hul : (a.eval y).cells.toList.length = i.size := by simp; omega
            have hs' : ((C.toList.take (o' + off) ++ (a.eval y).cells.toList ++ C.toList.drop (o' + off + (a.eval y).cells.toList.length)).toArray).size = C.size := by
              simp only [List.size_toArray, List.length_append, List.length_take, List.length_drop, Array.length_toList] at hul ⊢; omega
            refine OpOK.skip (w' := w.setRow b _) (by
              simp only [execOp, hop, Sem.run_bind, hu, run_storeVar (o' := o' + off) hi (by omega) hC (by omega) hone', Result.andThen_ok, Sem.run_pure]) (good_store hH hlt hr hC hs' ?_)
            simp only [BRel]
            refine ⟨hz, by rw [setCells_length (by omega)]; exact hn, _, _, setRow_heap w b C _ tC _ hC, by rw [hs']; exact hsz, fun j s hs => ?_⟩
            rw [setCells_get (by omega)] at hs
            have hst := Step.setRow (C' := (C.toList.take (o' + off) ++ (a.eval y).cells.toList ++ C.toList.drop (o' + off + (a.eval y).cells.toList.length)).toArray) hr hC hs'
            rw [List.getElem?_toArray, take_drop_get _ _ _ _ (by simp only [Array.length_toList] at hul ⊢; omega)]
            split at hs
            · rename_i hj
              obtain ⟨u, h1, h2⟩ := hc.get _ _ hs
              refine ⟨u, ?_, h2.step hst⟩
              rw [if_pos (by omega), ← h1]; congr 1; omega
            · rename_i hj
              obtain ⟨u, h1, h2⟩ := hcs.get _ _ hs
              rw [List.getElem?_take] at h1
              split at h1
              · rw [List.getElem?_drop] at h1
                refine ⟨u, ?_, h2.step hst⟩
                rw [if_neg (by omega)]; exact h1
              · simp at h1
          · simp at he
        · simp at he
      · rename_i β k j ex
        rw [ex] at vx
        split at he
        · rename_i K xs t' hb
          split at he
          · simp at he
          · rename_i hnc
            split at he
            · rename_i y' hdec
              split at he
              · rename_i hle
                obtain ⟨hle, hone⟩ := hle
                obtain ⟨hk, he⟩ := tst_some he
                simp at he; obtain ⟨rfl, rfl⟩ := he
                have hk : k < xs.length := by simpa using hk
                obtain ⟨b, o', n, sz, hr, hu⟩ := aptr_rel hH hb (by simp) vx
                have hlt : β < H.length := (List.getElem?_eq_some_iff.1 hb).1
                have hβ : β ∉ SV.refsL vs := by simpa using hnc
                obtain ⟨hn, hsz, C, tC, hC, hCs, hrow⟩ := row_raw hH hb hr
                subst hn; subst hsz
                obtain ⟨es, he1, he2⟩ := hrow k (xs.getD k K.dflt) (by simp [List.getD, List.getElem?_eq_getElem hk])
                have hel := he1.length
                have hul : (a.eval y).cells.toList.length = i.size := by simp; omega
                have hkz : (k + 1) * K.sz ≤ xs.length * K.sz := Nat.mul_le_mul_right _ hk
                rw [Nat.add_mul, Nat.one_mul] at hkz
                have hone' := one_all hc hone
                have hs' : ((C.toList.take (o' + k * K.sz + j) ++ (a.eval y).cells.toList ++ C.toList.drop (o' + k * K.sz + j + (a.eval y).cells.toList.length)).toArray).size = C.size := by
                  simp only [List.size_toArray, List.length_append, List.length_take, List.length_drop, Array.length_toList] at hul ⊢; omega
                have hr1 : (ρ.kill (SV.refsL vs)) β = .at b o' xs.length K.sz := by rw [kill_at hβ]; exact hr
                have hst := (Step.kill (ρ := ρ) (w := w) (SV.refsL vs)).trans (Step.setRow (C' := (C.toList.take (o' + k * K.sz + j) ++ (a.eval y).cells.toList ++ C.toList.drop (o' + k * K.sz + j + (a.eval y).cells.toList.length)).toArray) hr1 hC hs')
                have hdr := decH_rel (B := fun b'' => Free ρ w b'' ∨ ∃ γ ∈ SV.refsL vs, ∃ o n sz, ρ γ = .at b'' o n sz) hH (fun _ h => .inl h)
                  (fun γ b'' o n sz hg hrg => .inr ⟨γ, setCells_refs (hg.resolve_left (by simp)), o, n, sz, hrg⟩) hdec (setCells_rel (off := j) (enc_rel he1) hc)
                have hB : ∀ b'', (Free ρ w b'' ∨ ∃ γ ∈ SV.refsL vs, ∃ o n sz, ρ γ = .at b'' o n sz) → Free (ρ.kill (SV.refsL vs)) w b'' ∧ b'' ≠ b := by
                  rintro b'' (h | ⟨γ, hg, o1, n1, sz1, hrg⟩)
                  · exact ⟨h.step (Step.kill _), fun e => h.2.2 _ _ _ _ (by rw [e]; exact hr)⟩
                  · refine ⟨free_kill hH hg hrg, fun e => ?_⟩
                    subst e
                    have := hH.inj _ _ _ _ _ _ _ _ _ hrg hr
                    subst this; exact hβ hg
                refine OpOK.skip (w' := w.setRow b _) (by
                  simp only [execOp, hop, Sem.run_bind, hu, run_storeVar (o' := o' + k * K.sz + j) hi (by omega) hC (by omega) hone', Result.andThen_ok, Sem.run_pure])
                  ⟨hst, (hH.kill _).setRow (by rw [kill_length]; exact hlt) hr1 hC hs' ?_, by simp [VRel], by simp [kill_length], fun γ h1 h2 => kill_reborn h1, by simp⟩
                simp only [BRel]
                refine ⟨by simp, by first | rfl | trivial, _, _, setRow_heap w b C _ tC _ hC, by rw [hs']; exact hCs, fun q z hq => ?_⟩
                rw [List.getElem?_set] at hq
                split at hq
                · rename_i hkq
                  subst hkq
                  simp [hk] at hq; subst hq
                  refine ⟨_, CRel.mono (w' := w.setRow b _) (fun b'' h => (hB b'' h).1.step (Step.setRow hr1 hC hs')) (fun b'' h => ?_) hdr, fun jj u hu' => ?_⟩
                  · simp only [World.setRow]; rw [Array.getElem?_modify, if_neg (hB b'' h).2.symm]
                  · rw [List.getElem?_toArray, take_drop_get _ _ _ _ (by simp only [Array.length_toList] at hul ⊢; omega)]
                    rw [← List.append_assoc, take_drop_get _ _ _ _ (by omega)] at hu'
                    split at hu'
                    · rw [if_pos (by omega), ← hu']; congr 1; omega
                    · rename_i hjj
                      have hjl : jj < es.length := (List.getElem?_eq_some_iff.1 hu').1
                      rw [if_neg (by omega), Array.getElem?_toList]
                      exact he2 jj u hu'
                · rename_i hkq
                  obtain ⟨es', h1, h2⟩ := hrow q z hq
                  refine ⟨es', h1.step hst, fun jj u hu' => ?_⟩
                  have hjl : jj < K.sz := by rw [← h1.length]; exact (List.getElem?_eq_some_iff.1 hu').1
                  have hne : q * K.sz + jj < k * K.sz ∨ (k + 1) * K.sz ≤ q * K.sz + jj := by
                    rcases Nat.lt_or_gt_of_ne hkq with h3 | h3
                    · right; have : (k + 1) * K.sz ≤ q * K.sz := Nat.mul_le_mul_right _ h3; omega
                    · left; have : (q + 1) * K.sz ≤ k * K.sz := Nat.mul_le_mul_right _ h3; rw [Nat.add_mul, Nat.one_mul] at this; omega
                  rw [Nat.add_mul, Nat.one_mul] at hne
                  rw [List.getElem?_toArray, take_drop_get _ _ _ _ (by simp only [Array.length_toList] at hul ⊢; omega), if_neg (by omega), Array.getElem?_toList]
                  exact h2 jj u hu'
              · simp at he
            · simp at he
        · simp at he
      · simp at he
    · simp at he

end
end Go.Proofs.Ytjnkefbdpcbkmaa.Den
