/- Part 3 of the texts behind the row. -/
import Derived.Test.YtmkekjmckdkcnaaAER2
import Derived.ArgAppend
set_option linter.unusedVariables false
set_option linter.unusedSimpArgs false
namespace Go.Proofs.Ytmkekjmckdkcnaa.Den
open Go Go.RowKit
section
variable {P : Program} {o : Oper} {a : Act} {m : Bool} {ρ : Map} {H H' : Heap} {w : World} {τ : Env} {N : Nat} {T : Tab} {v : SV}
theorem ziT {x : SV} {u : Value} {cs : List SV} (h : x.cells? = some cs) (hv : VRel ρ w x u) : VRels ρ w cs u.cells.toList := by
  have one : ∀ {x : SV}, x.oneB = true → VRel ρ w x u → VRels ρ w [x] u.cells.toList := by
    intro x h1 h2
    have h3 := znW h2 h1
    have h4 : u.cells.toList = [u] := by cases u <;> simp [Value.oneCell'] at h3 <;> rfl
    rw [h4]; exact VRels.single h2
  cases x <;> simp only [SV.cells?, Option.some.injEq, reduceCtorEq] at h <;> subst h
  case agg cs =>
    simp only [VRel] at hv
    obtain ⟨us, rfl, h1⟩ := hv
    exact h1
  all_goals exact one rfl hv
theorem zn3 {cs us : List SV} {vs ws : List Value} {off : Nat} (h1 : VRels ρ w cs vs) (h2 : VRels ρ w us ws) : VRels ρ w (setCells cs off us) (vs.take off ++ (ws ++ vs.drop (off + ws.length))) := by
  unfold setCells
  rw [h2.length]
  exact (h1.split).1.append (h2.append (h1.split).2)
theorem zuQ (vs : List Value) : ∀ (off k : Nat) (C : Array Value), off + k + vs.length ≤ C.size →
    ((vs.zipIdx k).foldl (fun cs (x : Value × Nat) => cs.setIfInBounds (off + x.2) x.1) C).toList = C.toList.take (off + k) ++ (vs ++ C.toList.drop (off + k + vs.length)) := by
  induction vs with
  | nil => intro off k C h; simp
  | cons v vs ih =>
    intro off k C h
    simp only [List.zipIdx_cons, List.foldl_cons]
    rw [ih off (k + 1) _ (by simp at h ⊢; omega)]
    have := list_seg_step C.toList (off + k) v vs (by simp at h ⊢; omega)
    simp only [Array.toList_setIfInBounds]
    rw [show off + (k + 1) = off + k + 1 by omega]
    simpa [List.append_assoc] using this
theorem zd0 {place : Nat → Option (Nat × Nat)} (ht : TRel ρ w τ a N) : ∀ {parts : List (Nat × Operand)} {ps : List (Nat × Nat × S)} {cs cs' : List SV} {C : Array Value},
    partsL P place parts = some ps → fillP τ ps cs = some cs' → VRels ρ w cs C.toList →
    ∃ C', Instr.fill place C (parts.map fun p => (p.1, a.eval p.2)) = some C' ∧ VRels ρ w cs' C'.toList
  | [], ps, cs, cs', C, h1, h2, h3 => by
    simp [partsL] at h1; subst h1
    simp [fillP] at h2; subst h2
    exact ⟨C, rfl, h3⟩
  | (i, x) :: parts, ps, cs, cs', C, h1, h2, h3 => by
    simp only [partsL] at h1
    split at h1
    · rename_i off n s ps' hp hx hps
      simp at h1; subst h1
      simp only [fillP] at h2
      split at h2
      · rename_i us hus
        split at h2
        · rename_i hle
          have hu := ziT hus (opL_rel ht hx)
          have hul := hu.length
          have hcl := h3.length
          simp only [Array.length_toList] at hul hcl
          have hcond : ¬ ((a.eval x).cells.size ≠ n ∨ off + (a.eval x).cells.size > C.size) := by omega
          have hf := zuQ (a.eval x).cells.toList off 0 C (by simp; omega)
          have hr := zn3 (off := off) h3 hu
          simp only [Nat.add_zero] at hf
          rw [← hf] at hr
          obtain ⟨C', h4, h5⟩ := zd0 ht hps h2 hr
          refine ⟨C', ?_, h5⟩
          simp only [List.map_cons, Instr.fill, hp]
          have hb : ((decide ((a.eval x).cells.size ≠ n) || decide (off + (a.eval x).cells.size > C.size))) = false := by
            simp; omega
          rw [if_neg (by simpa using hb)]
          rw [← h4]
          congr 1
          rw [← Array.foldl_toList, Array.toList_zipIdx]
        · simp at h2
      · simp at h2
    · simp at h1
theorem zn4 {α β : Type} (f : α → Sem β) (g : α → β) (w : World) : ∀ (l : List α), (∀ x ∈ l, (f x).run P w = .ok (g x) w) → (l.mapM f).run P w = .ok (l.map g) w
  | [], _ => by simp
  | x :: l, h => by
    rw [List.mapM_cons]
    simp only [Sem.run_bind, h x (by simp), Result.andThen_ok, zn4 f g w l (fun y hy => h y (by simp [hy])), Sem.run_pure, List.map_cons]
theorem zuR {t : TypeId} {fs : Array Field} {sz by_ : Nat} {zs : List SV} {parts : Array (Nat × Operand)} {ps : List (Nat × Nat × S)} (hop : o.op = .build t parts) (hu : P.underlying t = some (.struct fs))
    (hz : tinfo P t = some (sz, zs, by_)) (hfs : ∀ f ∈ fs.toList, (P.info? f.type).isSome = true) (hps : partsL P (placeL P fs) parts.toList = some ps) (ht : TRel ρ w τ a N) (hH : HRel ρ H w)
    (he : runI T (.build zs ps) τ H (fun v H => some (v, H)) = some (v, H')) : OpOK P o a m ρ H w v H' := by
  simp only [runI] at he
  split at he
  · rename_i cs hcs
    simp at he; obtain ⟨rfl, rfl⟩ := he
    obtain ⟨i, z, hi, hzz, _, _, hsv, _⟩ := zL hz
    obtain ⟨C', h1, h2⟩ := zd0 (P := P) ht hps hcs (svsOf_rel hsv)
    have hzero : (zeroValue t).run P w = .ok z w := by simp [zeroValue, typeInfo, hi, hzz]
    have hmap : (fs.mapM fun f => do pure (f.offset, ← sizeOf f.type) : Sem (Array (Nat × Nat))).run P w = .ok (fs.map fun f => (f.offset, P.cellsOf f.type)) w := by
      rw [Array.mapM_eq_mapM_toList]
      rw [Sem.run_map, zn4 _ (fun f : Field => (f.offset, P.cellsOf f.type))]
      · simp only [Result.andThen_ok]; congr 1; apply Array.ext'; simp
      · intro f hf
        obtain ⟨j, hj⟩ := Option.isSome_iff_exists.1 (hfs f hf)
        simp [zi hj, Program.cellsOf, hj]
    have hplace : (fun i => (fs.map fun f => (f.offset, P.cellsOf f.type))[i]?) = placeL P fs := by
      funext i
      simp only [placeL, Array.getElem?_map]
      cases hf : fs[i]? with
      | none => rfl
      | some f =>
        obtain ⟨j, hj⟩ := Option.isSome_iff_exists.1 (hfs f (by rw [← Array.getElem?_toList] at hf; exact List.mem_of_getElem? hf))
        simp [hj, Program.cellsOf]
    refine OpOK.same hH (u := .agg C') ?_ (by simp only [VRel]; exact ⟨_, rfl, h2⟩)
    simp only [execOp, hop, Instr.build, Sem.run_bind, hzero, Result.andThen_ok, run_underlying hu, hmap]
    rw [hplace]
    have e : (parts.map fun x => (x.1, a.eval x.2)).toList = parts.toList.map fun p => (p.1, a.eval p.2) := by simp
    rw [e, h1]
    rfl
  · simp at he
theorem zuS {t el : TypeId} {n : Nat} {sz by_ : Nat} {j : TypeInfo} {zs : List SV} {parts : Array (Nat × Operand)} {ps : List (Nat × Nat × S)} (hop : o.op = .build t parts) (hu : P.underlying t = some (.array n el))
    (hz : tinfo P t = some (sz, zs, by_)) (hj : P.info? el = some j) (hps : partsL P (fun i => some (i * j.size, j.size)) parts.toList = some ps) (ht : TRel ρ w τ a N) (hH : HRel ρ H w)
    (he : runI T (.build zs ps) τ H (fun v H => some (v, H)) = some (v, H')) : OpOK P o a m ρ H w v H' := by
  simp only [runI] at he
  split at he
  · rename_i cs hcs
    simp at he; obtain ⟨rfl, rfl⟩ := he
    obtain ⟨i, z, hi, hzz, _, _, hsv, _⟩ := zL hz
    obtain ⟨C', h1, h2⟩ := zd0 (P := P) ht hps hcs (svsOf_rel hsv)
    have hzero : (zeroValue t).run P w = .ok z w := by simp [zeroValue, typeInfo, hi, hzz]
    refine OpOK.same hH (u := .agg C') ?_ (by simp only [VRel]; exact ⟨_, rfl, h2⟩)
    simp only [execOp, hop, Instr.build, Sem.run_bind, hzero, Result.andThen_ok, run_underlying hu, zi hj]
    have e : (parts.map fun x => (x.1, a.eval x.2)).toList = parts.toList.map fun p => (p.1, a.eval p.2) := by simp
    rw [e, h1]
    rfl
  · simp at he
theorem zab {C : Array Value} {t : TypeId} {n sz : Nat} {x : Blk} {u : Value} (hH : HRel ρ H w) (hu : ρ H.length = .unborn)
    (hx : BRel (ρ.put H.length (.at w.heap.size 0 n sz)) (w.alloc (.cells C t (0, 0))) w.heap.size 0 n sz x) (hv : VRel (ρ.put H.length (.at w.heap.size 0 n sz)) (w.alloc (.cells C t (0, 0))) v u) :
    Good m ρ H w v (H ++ [x]) u (w.alloc (.cells C t (0, 0))) (ρ.put H.length (.at w.heap.size 0 n sz)) where
  step := Step.alloc _ _ _ _ _ hu
  hrel := hH.alloc hu hx
  vrel := hv
  len := by simp
  unb β h1 h2 := by
    have : β ≠ H.length := by rw [List.length_append, List.length_singleton] at h2; omega
    rw [Map.put_other _ _ this]; exact h1
  mono _ := by
    refine ⟨⟨_, rfl⟩, fun β h2 => ?_, fun b hb => ?_⟩
    · have : β ≠ H.length := by rintro rfl; simp at h2; omega
      exact Map.put_other _ _ this
    · simp only [World.alloc]; rw [Array.getElem?_push, if_neg (by omega)]
theorem ziU {cs : List SV} {C : Array Value} {t : TypeId} {n sz : Nat} (hu : ρ H.length = .unborn) (hcs : VRels ρ w cs (C.toList.take cs.length)) (hl : cs.length = n * sz) (hC : cs.length ≤ C.size) :
    BRel (ρ.put H.length (.at w.heap.size 0 n sz)) (w.alloc (.cells C t (0, 0))) w.heap.size 0 n sz (.cells cs t sz) := by
  simp only [BRel]
  refine ⟨by first | rfl | trivial, hl, C, t, heap_alloc_new w _, by omega, fun j s hs => ?_⟩
  obtain ⟨u, h1, h2⟩ := hcs.get j s hs
  rw [List.getElem?_take] at h1
  split at h1
  · rw [Array.getElem?_toList] at h1
    exact ⟨u, by rw [Nat.zero_add]; exact h1, h2.step (Step.alloc _ _ _ _ _ hu)⟩
  · simp at h1
theorem ziV {K : Kd} {xs : List K.T} {C : Array Value} {t : TypeId} (hu : ρ H.length = .unborn) (hC : xs.length * K.sz ≤ C.size) (hrow : RowRel w (Free ρ w) K xs C 0) :
    BRel (ρ.put H.length (.at w.heap.size 0 xs.length K.sz)) (w.alloc (.cells C t (0, 0))) w.heap.size 0 xs.length K.sz (.arr K xs t) := by
  simp only [BRel]
  refine ⟨by first | rfl | trivial, by first | rfl | trivial, C, t, heap_alloc_new w _, by omega, fun i x hx => ?_⟩
  obtain ⟨es, h1, h2⟩ := hrow i x hx
  exact ⟨es, h1.step (Step.alloc _ _ _ _ _ hu), h2⟩
theorem zuT {e : TypeId} {sz by_ : Nat} {zs : List SV} (hop : o.op = .alloc e) (hz : tinfo P e = some (sz, zs, by_)) (hH : HRel ρ H w) (hu : ρ H.length = .unborn)
    (he : runI T (.alloc zs e) τ H (fun v H => some (v, H)) = some (v, H')) : OpOK P o a m ρ H w v H' := by
  simp only [runI] at he
  simp at he; obtain ⟨rfl, rfl⟩ := he
  obtain ⟨i, z, hi, hzz, _, _, hsv, _⟩ := zL hz
  have hzero : (zeroValue e).run P w = .ok z w := by simp [zeroValue, typeInfo, hi, hzz]
  have hcs : VRels ρ w zs z.cells.toList := svsOf_rel hsv
  have hl := hcs.length
  simp only [Array.length_toList] at hl
  refine OpOK.value (w' := w.alloc (.cells z.cells e (0, 0))) (u := .pointer (some ⟨w.heap.size, 0, none⟩)) ?_ (zab (n := 1) (sz := zs.length) hH hu ?_ ?_)
  · simp only [execOp, hop, Instr.alloc, Sem.run_bind, hzero, Result.andThen_ok, newVar, newRow, run_newObj, Sem.run_pure]; rfl
  · exact ziU hu (by rw [hl, List.take_of_length_le (by simp)]; exact hcs) (by simp) (by omega)
  · simp only [VRel, Map.put_same]
theorem snd_box {e : TypeId} {x : Operand} {sx : S} (hop : o.op = .box e x) (hx : opL x = some sx) (ht : TRel ρ w τ a N) (hH : HRel ρ H w) (hu : ρ H.length = .unborn)
    (he : runI T (.box e sx) τ H (fun v H => some (v, H)) = some (v, H')) : OpOK P o a m ρ H w v H' := by
  have vx := opL_rel ht hx
  have hrun : (execOp a.eval o).run P w = .ok (.value (.pointer (some ⟨w.heap.size, 0, none⟩))) (w.alloc (.cells (a.eval x).cells e (0, 0))) := by
    simp only [execOp, hop, Instr.box, Sem.run_bind, newVar, newRow, run_newObj, Result.andThen_ok, Sem.run_pure]; rfl
  simp only [runI] at he
  split at he
  · rename_i K xs ex
    rw [ex] at vx
    simp at he; obtain ⟨rfl, rfl⟩ := he
    simp only [VRel] at vx
    obtain ⟨vs, hv, hsz, hel⟩ := vx
    refine OpOK.value hrun (zab (n := xs.length) (sz := K.sz) hH hu ?_ ?_)
    · refine ziV hu (by rw [hv]; simp [Value.cells, hsz]) fun i y hy => ?_
      obtain ⟨es, h1, h2⟩ := hel i y hy
      refine ⟨es, h1, fun j u hj => ?_⟩
      rw [hv, Nat.zero_add]; exact h2 j u hj
    · simp only [VRel, Map.put_same]
  · split at he
    · rename_i cs hcs
      simp at he; obtain ⟨rfl, rfl⟩ := he
      have hc := ziT hcs vx
      have hl := hc.length
      simp only [Array.length_toList] at hl
      refine OpOK.value hrun (zab (n := 1) (sz := cs.length) hH hu ?_ ?_)
      · exact ziU hu (by rw [hl, List.take_of_length_le (by simp)]; exact hc) (by simp) (by omega)
      · simp only [VRel, Map.put_same]
    · simp at he
theorem zuU {e : TypeId} {n : Nat} {by_ : Nat} {zs : List SV} {K : Kd} (hK : K = .int .i64 ∨ K = .bool) (hop : o.op = .alloc e) (hz : tinfo P e = some (n, zs, by_)) (h0 : (zs.all fun x => isZero K [x]) = true) (hH : HRel ρ H w) (hu : ρ H.length = .unborn)
    (he : runI T (.allocA K n e) τ H (fun v H => some (v, H)) = some (v, H')) : OpOK P o a m ρ H w v H' := by
  rcases hK with rfl | rfl
  · simp only [runI] at he
    simp at he; obtain ⟨rfl, rfl⟩ := he
    obtain ⟨i, z, hi, hzz, _, _, hsv, hl'⟩ := zL hz
    have hzero : (zeroValue e).run P w = .ok z w := by simp [zeroValue, typeInfo, hi, hzz]
    have hcs : VRels ρ w zs z.cells.toList := svsOf_rel hsv
    have hl := hcs.length
    simp only [Array.length_toList] at hl
    have hlen : (List.replicate n (Kd.dflt (.int .i64))).length = n := by simp
    refine OpOK.value (w' := w.alloc (.cells z.cells e (0, 0))) (u := .pointer (some ⟨w.heap.size, 0, none⟩)) ?_ (zab (n := (List.replicate n (Kd.dflt (.int .i64))).length) (sz := Kd.sz (.int .i64)) hH hu ?_ ?_)
    · simp only [execOp, hop, Instr.alloc, Sem.run_bind, hzero, Result.andThen_ok, newVar, newRow, run_newObj, Sem.run_pure]; rfl
    · refine ziV hu (by rw [hlen]; simp [Kd.sz]; omega) fun i x hx => ?_
      have hin : i < n := by have := (List.getElem?_eq_some_iff.1 hx).1; simpa using this
      have hx0 : x = (0 : Int) := by
        rw [List.getElem?_replicate, if_pos hin] at hx
        exact (Option.some.inj hx).symm
      subst hx0
      refine ⟨[.int .i64 0], rfl, fun j u hj => ?_⟩
      cases j with
      | succ j => simp at hj
      | zero =>
        simp at hj; subst hj
        have hzi : i < zs.length := by omega
        obtain ⟨u, h1, h2⟩ := hcs.get i zs[i] (List.getElem?_eq_getElem hzi)
        have h3 := List.all_eq_true.1 h0 zs[i] (List.getElem_mem hzi)
        have h4 : zs[i] = .int .i64 0 := by
          simp only [isZero] at h3
          split at h3
          · rename_i k' heq
            simp at heq h3
            rw [heq, h3]
          · simp at h3
        rw [h4] at h2
        simp only [VRel] at h2
        subst h2
        rw [Array.getElem?_toList] at h1
        simpa [Kd.sz] using h1
    · simp only [VRel, Map.put_same]
  · simp only [runI] at he
    simp at he; obtain ⟨rfl, rfl⟩ := he
    obtain ⟨i, z, hi, hzz, _, _, hsv, hl'⟩ := zL hz
    have hzero : (zeroValue e).run P w = .ok z w := by simp [zeroValue, typeInfo, hi, hzz]
    have hcs : VRels ρ w zs z.cells.toList := svsOf_rel hsv
    have hl := hcs.length
    simp only [Array.length_toList] at hl
    have hlen : (List.replicate n (Kd.dflt .bool)).length = n := by simp
    refine OpOK.value (w' := w.alloc (.cells z.cells e (0, 0))) (u := .pointer (some ⟨w.heap.size, 0, none⟩)) ?_ (zab (n := (List.replicate n (Kd.dflt .bool)).length) (sz := Kd.sz .bool) hH hu ?_ ?_)
    · simp only [execOp, hop, Instr.alloc, Sem.run_bind, hzero, Result.andThen_ok, newVar, newRow, run_newObj, Sem.run_pure]; rfl
    · refine ziV hu (by rw [hlen]; simp [Kd.sz]; omega) fun i x hx => ?_
      have hin : i < n := by have := (List.getElem?_eq_some_iff.1 hx).1; simpa using this
      have hx0 : x = false := by
        rw [List.getElem?_replicate, if_pos hin] at hx
        exact (Option.some.inj hx).symm
      subst hx0
      refine ⟨[.bool false], rfl, fun j u hj => ?_⟩
      cases j with
      | succ j => simp at hj
      | zero =>
        simp at hj; subst hj
        have hzi : i < zs.length := by omega
        obtain ⟨u, h1, h2⟩ := hcs.get i zs[i] (List.getElem?_eq_getElem hzi)
        have h3 := List.all_eq_true.1 h0 zs[i] (List.getElem_mem hzi)
        have h4 : zs[i] = .bool false := by
          simp only [isZero] at h3
          split at h3
          · rename_i heq
            simpa using heq
          · simp at h3
        rw [h4] at h2
        simp only [VRel] at h2
        subst h2
        rw [Array.getElem?_toList] at h1
        simpa [Kd.sz] using h1
    · simp only [VRel, Map.put_same]
theorem zd1 {α : Type} (l us : List α) (k j : Nat) (h : k + us.length ≤ l.length) :
    (l.take k ++ us ++ l.drop (k + us.length))[j]? = if k ≤ j ∧ j < k + us.length then us[j - k]? else l[j]? := by
  rw [List.append_assoc, List.getElem?_append, List.length_take, Nat.min_eq_left (by omega)]
  by_cases h1 : j < k
  · rw [if_pos h1, if_neg (by omega), List.getElem?_take, if_pos h1]
  · rw [if_neg h1, List.getElem?_append]
    by_cases h2 : j - k < us.length
    · rw [if_pos h2, if_pos (by omega)]
    · rw [if_neg h2, if_neg (by omega), List.getElem?_drop]
      congr 1; omega
theorem zn5 {t : TypeId} {i : TypeInfo} {b o' : Nat} {C : Array Value} {t' : TypeId} {u : Value} (hi : P.info? t = some i) (hs : u.cells.size = i.size) (hb : w.heap[b]? = some (.cells C t' (0, 0))) (hle : o' + i.size ≤ C.size)
    (h1 : ∀ x ∈ u.cells.toList, x.oneCell' = true) :
    (Instr.storeAt t (.pointer (some ⟨b, o', none⟩)) u).run P w = .ok () (w.setRow b (C.toList.take o' ++ u.cells.toList ++ C.toList.drop (o' + u.cells.toList.length)).toArray) := by
  have := run_storeCells_at (P := P) b o' t' u.cells.toList 0 C w hb (by simp; omega) h1
  simp only [Nat.add_zero] at this
  simp [Instr.storeAt, Instr.sureAddr, storeVar, zi hi, hs, this]
theorem zuV {β b o' n sz : Nat} {C C' : Array Value} {t : TypeId} {x : Blk} (hH : HRel ρ H w) (hl : β < H.length) (hr : ρ β = .at b o' n sz) (hb : w.heap[b]? = some (.cells C t (0, 0))) (hs : C'.size = C.size)
    (hx : BRel ρ (w.setRow b C') b o' n sz x) : Good false ρ H w .junk (H.set β x) undef (w.setRow b C') ρ where
  step := Step.setRow hr hb hs
  hrel := hH.setRow hl hr hb hs hx
  vrel := by simp [VRel]
  len := by simp
  unb β h1 h2 := h1
  mono h := by simp at h
theorem one_all {us : List SV} {vs : List Value} (h : VRels ρ w us vs) (h1 : us.all SV.oneB = true) : ∀ x ∈ vs, x.oneCell' = true := by
  intro x hx
  obtain ⟨j, hj⟩ := List.mem_iff_getElem?.1 hx
  have hlt : j < vs.length := (List.getElem?_eq_some_iff.1 hj).1
  have hlu : j < us.length := by rw [h.length]; exact hlt
  obtain ⟨u, h2, h3⟩ := h.get j us[j] (List.getElem?_eq_getElem hlu)
  rw [hj] at h2; cases h2
  exact znW h3 (List.all_eq_true.1 h1 _ (List.getElem_mem hlu))
theorem row_raw {β b o n sz : Nat} {K : Kd} {xs : List K.T} {t : TypeId} (hH : HRel ρ H w) (hb : H[β]? = some (.arr K xs t)) (hr : ρ β = .at b o n sz) :
    xs.length = n ∧ K.sz = sz ∧ ∃ C tC, w.heap[b]? = some (.cells C tC (0, 0)) ∧ o + n * sz ≤ C.size ∧ RowRel w (Free ρ w) K xs C o := by
  have hl : β < H.length := (List.getElem?_eq_some_iff.1 hb).1
  obtain ⟨x, h1, h2⟩ := hH.at_ β hl _ _ _ _ hr
  rw [hb] at h1; simp at h1; subst h1
  simpa only [BRel] using h2
theorem ziW : ∀ {K : Kd} (x : K.T), SV.refsL (enc K x) = []
  | .int _, _ => rfl
  | .bool, _ => rfl
  | .unit, _ => rfl
  | .pair a b, x => by simp [enc, zV, ziW x.1, ziW x.2]
  | .list e, _ => rfl
theorem ziX {γ : Nat} : ∀ {cs : List SV}, γ ∈ SV.refsL cs ↔ ∃ c ∈ cs, γ ∈ c.refs
  | [] => by simp [SV.refsL]
  | c :: cs => by simp [SV.refsL, ziX (cs := cs)]
theorem zuW {K : Kd} {x : K.T} {j : Nat} {us : List SV} {γ : Nat} (h : γ ∈ SV.refsL (setCells (enc K x) j us)) : γ ∈ SV.refsL us := by
  rw [ziX] at h ⊢
  obtain ⟨c, hc, hg⟩ := h
  unfold setCells at hc
  have hno : ∀ c ∈ enc K x, γ ∉ c.refs := fun c hc hg => by
    have : γ ∈ SV.refsL (enc K x) := ziX.2 ⟨c, hc, hg⟩
    rw [ziW] at this; cases this
  rcases List.mem_append.1 hc with h1 | h1
  · exact absurd hg (hno c (List.mem_of_mem_take h1))
  · rcases List.mem_append.1 h1 with h2 | h2
    · exact ⟨c, h2, hg⟩
    · exact absurd hg (hno c (List.mem_of_mem_drop h2))
theorem zf0 (hH : HRel ρ H w) {rs : List Nat} {γ b o n sz : Nat} (hg : γ ∈ rs) (hr : ρ γ = .at b o n sz) : Free (ρ.kill rs) w b := by
  refine ⟨hH.lt _ _ _ _ _ hr, hH.resf _ _ _ _ _ hr, fun β o' n' sz' h => ?_⟩
  simp only [Map.kill] at h
  split at h
  · cases h
  · rename_i hn
    have := hH.inj _ _ _ _ _ _ _ _ _ hr h
    subst this
    exact hn ⟨hg, by rw [hr]; rfl⟩
theorem kill_at {rs : List Nat} {β : Nat} (h : β ∉ rs) : (ρ.kill rs) β = ρ β := by
  simp only [Map.kill]; rw [if_neg (fun h2 => h h2.1)]
theorem snd_st {t : TypeId} {i : TypeInfo} {x y : Operand} {sx sy : S} (hop : o.op = .store t x y) (hi : P.info? t = some i) (hx : opL x = some sx) (hy : opL y = some sy) (ht : TRel ρ w τ a N) (hH : HRel ρ H w)
    (he : runI T (.st i.size sx sy) τ H (fun v H => some (v, H)) = some (v, H')) : OpOK P o a false ρ H w v H' := by
  have vx := opL_rel ht hx
  have vy := opL_rel ht hy
  simp only [runI, stI] at he
  split at he
  · simp at he
  · rename_i vs hvs
    have hc := ziT hvs vy
    have hcl := hc.length
    simp only [Array.length_toList] at hcl
    split at he
    · rename_i hlen
      split at he
      · rename_i β off ex
        rw [ex] at vx
        split at he
        · rename_i cs t' z hb
          split at he
          · rename_i hle
            obtain ⟨hle, hone⟩ := hle
            simp at he; obtain ⟨rfl, rfl⟩ := he
            obtain ⟨b, o', n, sz, hr, hu⟩ := ptr_rel hH hb (by simp) vx
            obtain ⟨C, tC, hC, hz, hn, hsz, hcs, hm⟩ := zy hH hb hr
            have hlt : β < H.length := (List.getElem?_eq_some_iff.1 hb).1
            have hone' := one_all hc hone
            have hul : (a.eval y).cells.toList.length = i.size := by simp; omega
            have hs' : ((C.toList.take (o' + off) ++ (a.eval y).cells.toList ++ C.toList.drop (o' + off + (a.eval y).cells.toList.length)).toArray).size = C.size := by
              simp only [List.size_toArray, List.length_append, List.length_take, List.length_drop, Array.length_toList] at hul ⊢; omega
            refine OpOK.skip (w' := w.setRow b _) (by
              simp only [execOp, hop, Sem.run_bind, hu, zn5 (o' := o' + off) hi (by omega) hC (by omega) hone', Result.andThen_ok, Sem.run_pure]) (zuV hH hlt hr hC hs' ?_)
            simp only [BRel]
            refine ⟨hz, by rw [znX (by omega)]; exact hn, _, _, setRow_heap w b C _ tC _ hC, by rw [hs']; exact hsz, fun j s hs => ?_⟩
            rw [zuG (by omega)] at hs
            have hst := Step.setRow (C' := (C.toList.take (o' + off) ++ (a.eval y).cells.toList ++ C.toList.drop (o' + off + (a.eval y).cells.toList.length)).toArray) hr hC hs'
            rw [List.getElem?_toArray, zd1 _ _ _ _ (by simp only [Array.length_toList] at hul ⊢; omega)]
            split at hs
            · rename_i hj
              obtain ⟨u, h1, h2⟩ := hc.get _ _ hs
              refine ⟨u, ?_, h2.step hst⟩
              rw [if_pos (by omega), ← h1]; congr 1; omega
            · rename_i hj
              obtain ⟨u, h1, h2⟩ := hcs.get _ _ hs
              rw [List.getElem?_take] at h1
              split at h1
              · rw [List.getElem?_drop] at h1
                refine ⟨u, ?_, h2.step hst⟩
                rw [if_neg (by omega)]; exact h1
              · simp at h1
          · simp at he
        · simp at he
      · rename_i β k j ex
        rw [ex] at vx
        split at he
        · rename_i K xs t' hb
          split at he
          · simp at he
          · rename_i hnc
            split at he
            · rename_i y' hdec
              split at he
              · rename_i hle
                obtain ⟨hle, hone⟩ := hle
                obtain ⟨hk, he⟩ := za he
                simp at he; obtain ⟨rfl, rfl⟩ := he
                have hk : k < xs.length := by simpa using hk
                obtain ⟨b, o', n, sz, hr, hu⟩ := ziS hH hb (by simp) vx
                have hlt : β < H.length := (List.getElem?_eq_some_iff.1 hb).1
                have hβ : β ∉ SV.refsL vs := by simpa using hnc
                obtain ⟨hn, hsz, C, tC, hC, hCs, hrow⟩ := row_raw hH hb hr
                subst hn; subst hsz
                obtain ⟨es, he1, he2⟩ := hrow k (xs.getD k K.dflt) (by simp [List.getD, List.getElem?_eq_getElem hk])
                have hel := he1.length
                have hul : (a.eval y).cells.toList.length = i.size := by simp; omega
                have hkz : (k + 1) * K.sz ≤ xs.length * K.sz := Nat.mul_le_mul_right _ hk
                rw [Nat.add_mul, Nat.one_mul] at hkz
                have hone' := one_all hc hone
                have hs' : ((C.toList.take (o' + k * K.sz + j) ++ (a.eval y).cells.toList ++ C.toList.drop (o' + k * K.sz + j + (a.eval y).cells.toList.length)).toArray).size = C.size := by
                  simp only [List.size_toArray, List.length_append, List.length_take, List.length_drop, Array.length_toList] at hul ⊢; omega
                have hr1 : (ρ.kill (SV.refsL vs)) β = .at b o' xs.length K.sz := by rw [kill_at hβ]; exact hr
                have hst := (Step.kill (ρ := ρ) (w := w) (SV.refsL vs)).trans (Step.setRow (C' := (C.toList.take (o' + k * K.sz + j) ++ (a.eval y).cells.toList ++ C.toList.drop (o' + k * K.sz + j + (a.eval y).cells.toList.length)).toArray) hr1 hC hs')
                have hdr := zC (dp := false) (B := fun b'' => Free ρ w b'' ∨ ∃ γ ∈ SV.refsL vs, ∃ o n sz, ρ γ = .at b'' o n sz) hH (fun _ h => .inl h) (fun h => by cases h)
                  (fun γ b'' o n sz hg hrg => .inr ⟨γ, zuW (hg.resolve_left (by simp)), o, n, sz, hrg⟩) hdec (zn3 (off := j) (enc_rel he1) hc)
                have hB : ∀ b'', (Free ρ w b'' ∨ ∃ γ ∈ SV.refsL vs, ∃ o n sz, ρ γ = .at b'' o n sz) → Free (ρ.kill (SV.refsL vs)) w b'' ∧ b'' ≠ b := by
                  rintro b'' (h | ⟨γ, hg, o1, n1, sz1, hrg⟩)
                  · exact ⟨h.step (Step.kill _), fun e => h.2.2 _ _ _ _ (by rw [e]; exact hr)⟩
                  · refine ⟨zf0 hH hg hrg, fun e => ?_⟩
                    subst e
                    have := hH.inj _ _ _ _ _ _ _ _ _ hrg hr
                    subst this; exact hβ hg
                refine OpOK.skip (w' := w.setRow b _) (by
                  simp only [execOp, hop, Sem.run_bind, hu, zn5 (o' := o' + k * K.sz + j) hi (by omega) hC (by omega) hone', Result.andThen_ok, Sem.run_pure])
                  ⟨hst, (hH.kill _).setRow (by rw [zk]; exact hlt) hr1 hC hs' ?_, by simp [VRel], by simp [zk], fun γ h1 h2 => zD h1, by simp⟩
                simp only [BRel]
                refine ⟨by simp, by first | rfl | trivial, _, _, setRow_heap w b C _ tC _ hC, by rw [hs']; exact hCs, fun q z hq => ?_⟩
                rw [List.getElem?_set] at hq
                split at hq
                · rename_i hkq
                  subst hkq
                  simp [hk] at hq; subst hq
                  refine ⟨_, CRel.mono (w' := w.setRow b _) (fun b'' h => (hB b'' h).1.step (Step.setRow hr1 hC hs')) (fun b'' h => ?_) hdr, fun jj u hu' => ?_⟩
                  · simp only [World.setRow]; rw [Array.getElem?_modify, if_neg (hB b'' h).2.symm]
                  · rw [List.getElem?_toArray, zd1 _ _ _ _ (by simp only [Array.length_toList] at hul ⊢; omega)]
                    rw [← List.append_assoc, zd1 _ _ _ _ (by omega)] at hu'
                    split at hu'
                    · rw [if_pos (by omega), ← hu']; congr 1; omega
                    · rename_i hjj
                      have hjl : jj < es.length := (List.getElem?_eq_some_iff.1 hu').1
                      rw [if_neg (by omega), Array.getElem?_toList]
                      exact he2 jj u hu'
                · rename_i hkq
                  obtain ⟨es', h1, h2⟩ := hrow q z hq
                  refine ⟨es', h1.step hst, fun jj u hu' => ?_⟩
                  have hjl : jj < K.sz := by rw [← h1.length]; exact (List.getElem?_eq_some_iff.1 hu').1
                  have hne : q * K.sz + jj < k * K.sz ∨ (k + 1) * K.sz ≤ q * K.sz + jj := by
                    rcases Nat.lt_or_gt_of_ne hkq with h3 | h3
                    · right; have : (k + 1) * K.sz ≤ q * K.sz := Nat.mul_le_mul_right _ h3; omega
                    · left; have : (q + 1) * K.sz ≤ k * K.sz := Nat.mul_le_mul_right _ h3; rw [Nat.add_mul, Nat.one_mul] at this; omega
                  rw [Nat.add_mul, Nat.one_mul] at hne
                  rw [List.getElem?_toArray, zd1 _ _ _ _ (by simp only [Array.length_toList] at hul ⊢; omega), if_neg (by omega), Array.getElem?_toList]
                  exact h2 jj u hu'
              · simp at he
            · simp at he
        · simp at he
      · simp at he
    · simp at he
end
end Go.Proofs.Ytmkekjmckdkcnaa.Den
namespace Go.Proofs.Ytmkekjmckdkcnaa.Den
open Go Go.RowKit
section
variable {P : Program} {o : Oper} {a : Act} {m : Bool} {ρ : Map} {H H' : Heap} {w w' : World} {τ : Env} {N : Nat} {T : Tab} {v : SV}
theorem zuX (h : HRel ρ H w) {rs : List Nat} {m : Img} {x : Blk} (hu : ρ H.length = .unborn) (hs : Step ρ w ((ρ.kill rs).put H.length m) w')
    (hheap : ∀ β b o n sz, β ∉ rs → ρ β = .at b o n sz → w'.heap[b]? = w.heap[b]?) (hvlt : ∀ b t, ρ.vl b = some t → w'.heap[b]? = w.heap[b]?)
    (hm : (m = .none_ ∧ ((∃ K t, x = .arr K [] t) ∨ ∃ t z, x = .cells [] t z)) ∨ ∃ b o n sz, m = .at b o n sz ∧ b < w'.heap.size ∧ ¬ ρ.res b ∧ (∀ γ o' n' sz', γ ∉ rs → ρ γ ≠ .at b o' n' sz') ∧ BRel ((ρ.kill rs).put H.length m) w' b o n sz x) :
    HRel ((ρ.kill rs).put H.length m) (kill rs H ++ [x]) w' := by
  have hk := h.kill rs
  have hlen : (kill rs H).length = H.length := zk rs H
  have old : ∀ {β b o n sz}, β ≠ H.length → ((ρ.kill rs).put H.length m) β = .at b o n sz → β ∉ rs ∧ ρ β = .at b o n sz := by
    intro β b o n sz e hr
    rw [Map.put_other _ _ e] at hr
    simp only [Map.kill] at hr
    split at hr
    · cases hr
    · rename_i hn; exact ⟨fun hβ => hn ⟨hβ, by rw [hr]; rfl⟩, hr⟩
  constructor
  · intro β hl hr
    by_cases e : β = H.length
    · subst e; rw [Map.put_same] at hr
      rcases hm with ⟨rfl, _⟩ | ⟨_, _, _, _, rfl, _⟩ <;> cases hr
    · rw [Map.put_other _ _ e] at hr
      have hl' : β < (kill rs H).length := by simp at hl; omega
      rw [List.getElem?_append_left hl']; exact hk.dead β hl' hr
  · intro β hl hr
    by_cases e : β = H.length
    · subst e; rw [Map.put_same] at hr
      rcases hm with ⟨rfl, h1⟩ | ⟨_, _, _, _, rfl, _⟩
      · rcases h1 with ⟨K, t, rfl⟩ | ⟨t, z, rfl⟩
        · exact .inl ⟨K, t, by rw [← hlen]; simp⟩
        · exact .inr (.inl ⟨t, z, by rw [← hlen]; simp⟩)
      · cases hr
    · rw [Map.put_other _ _ e] at hr
      have hl' : β < (kill rs H).length := by simp at hl; omega
      rw [List.getElem?_append_left hl']; exact hk.none_ β hl' hr
  · intro β hl b o n' sz' hr
    by_cases e : β = H.length
    · subst e; rw [Map.put_same] at hr
      rcases hm with ⟨rfl, _⟩ | ⟨_, _, _, _, rfl, _, _, _, hx⟩
      · cases hr
      · injection hr with h1 h2 h3 h4
        subst h1; subst h2; subst h3; subst h4
        exact ⟨x, by rw [← hlen]; simp, hx⟩
    · obtain ⟨hn, hr'⟩ := old e hr
      have hl' : β < (kill rs H).length := by simp at hl; omega
      obtain ⟨y, h1, h2⟩ := h.at_ β (by omega) _ _ _ _ hr'
      exact ⟨y, by rw [List.getElem?_append_left hl', zbt, if_neg (fun h => hn h.1)]; exact h1, h2.keep hs (hheap _ _ _ _ _ hn hr') fun b' hb' => ⟨h.vlt hb', hvlt b' b hb'⟩⟩
  · intro β γ b o n1 sz1 o' n2 sz2 h1 h2
    by_cases e : β = H.length <;> by_cases e2 : γ = H.length
    · omega
    · subst e; rw [Map.put_same] at h1
      obtain ⟨hn, hr⟩ := old e2 h2
      rcases hm with ⟨rfl, _⟩ | ⟨_, _, _, _, rfl, _, _, hno, _⟩
      · cases h1
      · injection h1 with h1; subst h1; exact absurd hr (hno _ _ _ _ hn)
    · subst e2; rw [Map.put_same] at h2
      obtain ⟨hn, hr⟩ := old e h1
      rcases hm with ⟨rfl, _⟩ | ⟨_, _, _, _, rfl, _, _, hno, _⟩
      · cases h2
      · injection h2 with h2; subst h2; exact absurd hr (hno _ _ _ _ hn)
    · exact h.inj _ _ _ _ _ _ _ _ _ (old e h1).2 (old e2 h2).2
  · intro β b o n' sz' hr
    by_cases e : β = H.length
    · subst e; rw [Map.put_same] at hr
      rcases hm with ⟨rfl, _⟩ | ⟨_, _, _, _, rfl, hb, _⟩
      · cases hr
      · injection hr with h1; omega
    · have := h.lt _ _ _ _ _ (old e hr).2
      have := hs.size
      omega
  · intro b hb; have := h.resl b hb; have := hs.size; omega
  · intro β b o n' sz' hr hb
    by_cases e : β = H.length
    · subst e; rw [Map.put_same] at hr
      rcases hm with ⟨rfl, _⟩ | ⟨_, _, _, _, rfl, _, hb', _⟩
      · cases hr
      · injection hr with h1; subst h1; exact hb' hb
    · exact h.resf _ _ _ _ _ (old e hr).2 hb
theorem zM (h : HRel ρ H w) {rs : List Nat} {m : Img} {x : Blk} {u : Value} (hu : ρ H.length = .unborn) (hs : Step ρ w ((ρ.kill rs).put H.length m) w')
    (hheap : ∀ β b o n sz, β ∉ rs → ρ β = .at b o n sz → w'.heap[b]? = w.heap[b]?) (hvlt : ∀ b t, ρ.vl b = some t → w'.heap[b]? = w.heap[b]?)
    (hm : (m = .none_ ∧ ((∃ K t, x = .arr K [] t) ∨ ∃ t z, x = .cells [] t z)) ∨ ∃ b o n sz, m = .at b o n sz ∧ b < w'.heap.size ∧ ¬ ρ.res b ∧ (∀ γ o' n' sz', γ ∉ rs → ρ γ ≠ .at b o' n' sz') ∧ BRel ((ρ.kill rs).put H.length m) w' b o n sz x)
    {mo : Bool} (hmo : mo = true → rs = [] ∧ ∀ b, b < w.heap.size → w'.heap[b]? = w.heap[b]?)
    (hv : VRel ((ρ.kill rs).put H.length m) w' v u) : Good mo ρ H w v (kill rs H ++ [x]) u w' ((ρ.kill rs).put H.length m) where
  step := hs
  hrel := zuX h hu hs hheap hvlt hm
  vrel := hv
  len := by simp [zk]
  unb β h1 h2 := by
    have : β ≠ H.length := by rw [List.length_append, List.length_singleton, zk] at h2; omega
    rw [Map.put_other _ _ this]; exact zD h1
  mono h := by
    obtain ⟨rfl, hw⟩ := hmo h
    refine ⟨⟨[x], rfl⟩, fun β h2 => ?_, hw⟩
    have : β ≠ H.length := by rintro rfl; simp [zk] at h2; omega
    rw [Map.put_other _ _ this]; simp [Map.kill]
theorem Step.realloc {rs : List Nat} (C : Array Value) (t : TypeId) (n sz : Nat) (hu : ρ H.length = .unborn) :
    Step ρ w ((ρ.kill rs).put H.length (.at w.heap.size 0 n sz)) (w.drew.alloc (.cells C t (0, 0))) :=
  ((Step.kill rs).trans Step.drew).trans (Step.alloc (w := w.drew) H.length C t n sz (zD hu))
theorem Step.inplace {rs : List Nat} {β b o n sz : Nat} {C C' : Array Value} {t : TypeId} (o' n' sz' : Nat) (hr : ρ β = .at b o n sz) (hu : ρ H.length = .unborn) (hb : w.heap[b]? = some (.cells C t (0, 0))) (hs : C'.size = C.size) :
    Step ρ w ((ρ.kill rs).put H.length (.at b o' n' sz')) (w.setRow b C') := by
  have h1 := Step.setRow hr hb hs
  exact {
    os := rfl, tape := rfl, output := rfl
    size := h1.size
    kept := h1.kept
    shape := h1.shape
    img := fun γ b1 o1 n1 sz1 hg => by
      by_cases e : γ = H.length
      · subst e; rw [Map.put_same] at hg; injection hg with h2; subst h2; exact .inl ⟨β, o, n, sz, hr⟩
      · rw [Map.put_other _ _ e] at hg
        simp only [Map.kill] at hg
        split at hg
        · cases hg
        · exact .inl ⟨γ, o1, n1, sz1, hg⟩
    ref := fun γ hg => by
      have e : γ ≠ H.length := by rintro rfl; exact hg hu
      rw [Map.put_other _ _ e]
      simp only [Map.kill]
      split
      · exact .inr rfl
      · exact .inl rfl
    res := rfl
    vl := fun _ _ => rfl }
def RowsAt (w : World) (B : Nat → Prop) (K : Kd) (ys : List K.T) (ad : Addr) : Prop :=
  ∀ (i : Nat) (y : K.T), ys[i]? = some y → ∃ es, CRel w B K y es ∧ ∀ (j : Nat) (u : Value), es[j]? = some u → w.cell? (ad.add (i * K.sz + j)) = some u
def RowL (w : World) (B : Nat → Prop) (K : Kd) (ys : List K.T) (cs : List Value) : Prop :=
  ∀ (i : Nat) (y : K.T), ys[i]? = some y → ∃ es, CRel w B K y es ∧ ∀ (j : Nat) (u : Value), es[j]? = some u → cs[i * K.sz + j]? = some u
theorem flat_of {B : Nat → Prop} {K : Kd} : ∀ {ys : List K.T} {ad : Addr}, RowsAt w B K ys ad →
    ∃ cs : List Value, cs.length = ys.length * K.sz ∧ (∀ j u, cs[j]? = some u → w.cell? (ad.add j) = some u) ∧ (∀ u ∈ cs, u.oneCell' = true) ∧ RowL w B K ys cs
  | [], ad, _ => ⟨[], by simp, by simp, by simp, fun i y h => by simp at h⟩
  | y :: ys, ad, h => by
    obtain ⟨es, h1, h2⟩ := h 0 y rfl
    have ht : RowsAt w B K ys (ad.add K.sz) := fun i z hz => by
      obtain ⟨es', h3, h4⟩ := h (i + 1) z (by simpa using hz)
      exact ⟨es', h3, fun j u hu => by rw [add_add, ← h4 j u hu]; congr 2; rw [Nat.add_mul]; omega⟩
    obtain ⟨cs, h3, h4, h5, h6⟩ := flat_of ht
    have hl := h1.length
    refine ⟨es ++ cs, by simp [h3, hl, Nat.add_mul]; omega, fun j u hu => ?_, fun u hu => ?_, fun i z hz => ?_⟩
    · rw [List.getElem?_append] at hu
      split at hu
      · have := h2 j u hu; simpa using this
      · have := h4 _ u hu; rw [add_add] at this; rw [← this]; congr 2; omega
    · rcases List.mem_append.1 hu with h7 | h7
      · exact ziP h1 u h7
      · exact h5 u h7
    · cases i with
      | zero =>
        simp at hz; subst hz
        exact ⟨es, h1, fun j u hu => by
          have : j < es.length := (List.getElem?_eq_some_iff.1 hu).1
          rw [Nat.zero_mul, Nat.zero_add, List.getElem?_append_left this]; exact hu⟩
      | succ i =>
        obtain ⟨es', h7, h8⟩ := h6 i z (by simpa using hz)
        refine ⟨es', h7, fun j u hu => ?_⟩
        rw [List.getElem?_append_right (by rw [hl, Nat.add_mul]; omega), ← h8 j u hu]
        congr 1; rw [hl, Nat.add_mul]; omega
theorem RowL.append {B : Nat → Prop} {K : Kd} {xs ys : List K.T} {cs ds : List Value} (h1 : RowL w B K xs cs) (hl : cs.length = xs.length * K.sz) (h2 : RowL w B K ys ds) : RowL w B K (xs ++ ys) (cs ++ ds) := by
  intro i y hy
  rw [List.getElem?_append] at hy
  split at hy
  · rename_i hi
    obtain ⟨es, h3, h4⟩ := h1 i y hy
    refine ⟨es, h3, fun j u hu => ?_⟩
    have := h4 j u hu
    rw [List.getElem?_append_left (List.getElem?_eq_some_iff.1 this).1]; exact this
  · rename_i hi
    obtain ⟨es, h3, h4⟩ := h2 _ y hy
    refine ⟨es, h3, fun j u hu => ?_⟩
    have hle : xs.length * K.sz ≤ i * K.sz := Nat.mul_le_mul_right _ (by omega)
    rw [List.getElem?_append_right (by omega), ← h4 j u hu]
    congr 1
    rw [hl, Nat.sub_mul]; omega
theorem RowL.rel {B : Nat → Prop} {K : Kd} {xs : List K.T} {cs : List Value} {C : Array Value} {o : Nat} (h : RowL w B K xs cs) (hc : ∀ j u, cs[j]? = some u → C[o + j]? = some u) : RowRel w B K xs C o := by
  intro i x hx
  obtain ⟨es, h1, h2⟩ := h i x hx
  exact ⟨es, h1, fun j u hu => by rw [Nat.add_assoc]; exact hc _ u (h2 j u hu)⟩
theorem RowL.mono {B B' : Nat → Prop} {K : Kd} {xs : List K.T} {cs : List Value} (hB : ∀ b, B b → B' b) (hw : ∀ b, B b → w'.heap[b]? = w.heap[b]?) (h : RowL w B K xs cs) : RowL w' B' K xs cs := by
  intro i x hx
  obtain ⟨es, h1, h2⟩ := h i x hx
  exact ⟨es, CRel.mono hB hw h1, h2⟩
theorem zn6 (hH : HRel ρ H w) {x : SV} {u : Value} {K : Kd} {ys : List K.T} (h : decH false H (.list K) [x] = some ys) (hv : VRel ρ w x u) :
    ∃ ad c, u = .slice ad ys.length c ∧ ys.length ≤ c ∧ (0 < ys.length → ∃ a', ad = some a' ∧ RowsAt w (Free ρ w) K ys a') ∧
      ((x = .nils ∨ (∃ β, x = .own β) ∨ ∃ β o l, x = .sub β o l) → (ys = [] ∧ c = 0 ∧ ∀ β ∈ x.refs, β < H.length) ∨ ∃ β b o0 n0 o1, x.refs = [β] ∧ β < H.length ∧ ρ β = .at b o0 n0 K.sz ∧ ad = some ⟨b, o1, none⟩ ∧ Room w b (o1 + c * K.sz)) := by
  unfold decH at h
  split at h
  · rename_i e' xs heq
    simp at heq; subst heq
    split at h
    · rename_i he
      subst he
      simp at h; subst h
      simp only [VRel, CRel] at hv
      obtain ⟨ad, c, e1, hc, hx⟩ := hv
      simp at e1
      exact ⟨ad, c, e1, hc, fun h0 => by
        obtain ⟨a', e2, _, h3⟩ := hx h0
        exact ⟨a', e2, h3⟩, fun h => by simp at h⟩
    · simp at h
  · rename_i heq
    simp at heq; subst heq
    simp at h; subst h
    simp only [VRel] at hv
    obtain ⟨ad, rfl⟩ := hv
    exact ⟨ad, 0, rfl, Nat.le_refl _, fun h => by simp at h, fun _ => .inl ⟨rfl, rfl, by simp [SV.refs]⟩⟩
  · rename_i β heq
    simp at heq; subst heq
    split at h
    · rename_i e' xs t hb
      have hlt : β < H.length := (List.getElem?_eq_some_iff.1 hb).1
      split at h
      · rename_i he
        subst he
        simp at h; subst h
        rcases own_rel hH hb (by simp) hv with ⟨hr, ad, rfl⟩ | ⟨b, o, n, sz, c, hr, hc, rfl, hroom⟩
        · have := zbu hH hb hr; subst this
          exact ⟨ad, 0, rfl, Nat.le_refl _, fun h => by simp at h, fun _ => .inl ⟨rfl, rfl, by simp [SV.refs, hlt]⟩⟩
        · obtain ⟨rfl, rfl, C, tC, hC, _, hrow⟩ := row_raw hH hb hr
          refine ⟨_, c, rfl, hc, fun _ => ⟨_, rfl, fun i y hy => ?_⟩, fun _ => .inr ⟨β, b, o, _, o, by simp [SV.refs], hlt, hr, rfl, hroom⟩⟩
          obtain ⟨es, h1, h2⟩ := hrow i y hy
          exact ⟨es, h1, fun j u hu => by rw [zc, zq hC, ← Nat.add_assoc]; exact h2 j u hu⟩
      · simp at h
    · rename_i ds t z hb
      have hlt : β < H.length := (List.getElem?_eq_some_iff.1 hb).1
      split at h
      · rename_i hz
        obtain ⟨rfl, hz0⟩ := hz
        simp only [cond] at h
        rcases own_rel hH hb (by simp) hv with ⟨hr, ad, rfl⟩ | ⟨b, o, n, sz, c, hr, hc, rfl, hroom⟩
        · have := zbv hH hb hr; subst this
          simp [decRows] at h; subst h
          exact ⟨ad, 0, rfl, Nat.le_refl _, fun h => by simp at h, fun _ => .inl ⟨rfl, rfl, by simp [SV.refs, hlt]⟩⟩
        · obtain ⟨C, tC, hC, hsz, hn, hle, hcs, hm⟩ := zy hH hb hr
          subst hsz
          have hrows := zbr (fun cs x vs h1 h2 => zr h1 h2) K.sz _ _ _ _ h hcs
          have hn' : ds.length / K.sz = n := by rw [hn]; exact Nat.mul_div_cancel _ (by omega)
          rw [hn'] at hrows
          refine ⟨_, c, by rw [hrows.1], by rw [hrows.1]; exact hc, fun _ => ⟨_, rfl, fun i y hy => ?_⟩, fun _ => .inr ⟨β, b, o, n, o, by simp [SV.refs], hlt, hr, rfl, hroom⟩⟩
          refine ⟨_, hrows.2 i y hy, fun j u hu => ?_⟩
          rw [List.getElem?_take] at hu
          split at hu
          · rw [List.getElem?_drop] at hu
            have := hm _ u hu
            exact this
          · simp at hu
      · simp at h
    · split at h
      · split at h
        · rename_i hd; cases hd
        · simp at h
      · simp at h
    · simp at h
  · rename_i β off len heq
    simp at heq; subst heq
    split at h
    · rename_i e' xs t hb
      have hlt : β < H.length := (List.getElem?_eq_some_iff.1 hb).1
      split at h
      · rename_i he
        subst he
        simp at h; subst h
        simp only [VRel] at hv
        rcases hr : ρ β with _ | _ | _ | ⟨b, o, n, sz⟩ <;> rw [hr] at hv <;> simp only at hv
        · exact absurd hr (live_of hH hb (by simp))
        · obtain ⟨rfl, ad, rfl⟩ := hv
          exact ⟨ad, 0, by simp, by simp, fun h => by simp at h, fun _ => .inl ⟨by simp, rfl, by simp [SV.refs, hlt]⟩⟩
        · obtain ⟨hn, ad, c, rfl, hc, ha⟩ := hv
          obtain ⟨rfl, rfl, C, tC, hC, _, hrow⟩ := row_raw hH hb hr
          have hl : ((xs.drop off).take len).length = len := by simp; omega
          refine ⟨ad, c, by rw [hl], by rw [hl]; exact hc, fun h0 => ?_, fun _ => ?_⟩
          · rcases ha with ⟨h3, _⟩ | ⟨rfl, _⟩
            · rw [hl] at h0; omega
            · refine ⟨_, rfl, fun i y hy => ?_⟩
              rw [List.getElem?_take] at hy
              split at hy
              · rw [List.getElem?_drop] at hy
                obtain ⟨es, h3, h4⟩ := hrow _ y hy
                refine ⟨es, h3, fun j u hu => ?_⟩
                rw [zc, zq hC, ← h4 j u hu]
                congr 1; rw [Nat.add_mul]; omega
              · simp at hy
          · rcases ha with ⟨rfl, rfl⟩ | ⟨rfl, hroom⟩
            · exact .inl ⟨by simp, rfl, by simp [SV.refs, hlt]⟩
            · exact .inr ⟨β, b, o, _, _, by simp [SV.refs], hlt, hr, rfl, hroom⟩
      · simp at h
    · split at h
      · rename_i hz; cases hz.1
      · simp at h
    · simp at h
  · simp at h
theorem cellsN {e : TypeId} {i : TypeInfo} {z : Value} (hi : P.info? e = some i) (hz : i.zero = some z) (w : World) : (zeroValue e).run P w = .ok z w := by simp [zeroValue, typeInfo, hi, hz]
theorem zd2 {sz n cx : Nat} {ax : Option Addr} {news : List Value} (hl : news.length = n * sz) (hn : 0 < n → ∃ ad, ax = some ad ∧ ∀ j u, news[j]? = some u → w.cell? (ad.add j) = some u) :
    (Builtin.firstCells sz n (.slice ax n cx)).run P w = .ok news.toArray w := by
  rcases Nat.eq_zero_or_pos n with h0 | h0
  · subst h0
    have : news = [] := List.eq_nil_of_length_eq_zero (by simpa using hl)
    subst this
    cases ax with
    | none => exact run_firstCells_none w _ _ _ _
    | some ad => exact run_firstCells_some w _ _ _ _ _ [] (by simp) (by simp)
  · obtain ⟨ad, rfl, h⟩ := hn h0
    exact run_firstCells_some w _ _ _ _ _ news hl h
theorem zuY {t ty e : TypeId} {i : TypeInfo} {b o' n c m cx : Nat} {ax : Option Addr} {news : List Value} {C : Array Value} {t' : TypeId} (ht : P.underlying t = some (.slice e)) (hi : P.info? e = some i)
    (hC : w.heap[b]? = some (.cells C t' (0, 0))) (hroom : o' + c * i.size ≤ C.size) (hfit : n + m ≤ c) (hl : news.length = m * i.size)
    (hn : 0 < m → ∃ ad, ax = some ad ∧ ∀ j u, news[j]? = some u → w.cell? (ad.add j) = some u) (h1 : ∀ u ∈ news, u.oneCell' = true) :
    (Builtin.append_ #[t, t] ty #[.slice (some ⟨b, o', none⟩) n c, .slice ax m cx]).run P w =
      .ok (.slice (some ⟨b, o', none⟩) (n + m) c) (w.setRow b (C.toList.take (o' + n * i.size) ++ news ++ C.toList.drop (o' + n * i.size + news.length)).toArray) := by
  have hf := zd2 (P := P) (w := w) (cx := cx) hl hn
  have hle : (n + m) * i.size ≤ c * i.size := Nat.mul_le_mul_right _ hfit
  rw [Nat.add_mul] at hle
  have hs := run_storeCells_at (P := P) b (o' + n * i.size) t' news 0 C w hC (by omega) h1
  simp only [Nat.add_zero] at hs
  simp [Builtin.append_, run_underlying ht, sizeOf, typeInfo, hi, Builtin.lenOf, hfit, hf, zc, hs]
theorem zuZ {t ty e : TypeId} {i : TypeInfo} {as ax : Option Addr} {cx : Nat} (ht : P.underlying t = some (.slice e)) (hi : P.info? e = some i) :
    (Builtin.append_ #[t, t] ty #[.slice as 0 0, .slice ax 0 cx]).run P w = .ok (.slice as 0 0) w := by
  have hf := zd2 (P := P) (w := w) (sz := i.size) (n := 0) (cx := cx) (ax := ax) (news := []) (by simp) (by simp)
  cases as with
  | none => simp [Builtin.append_, run_underlying ht, sizeOf, typeInfo, hi, Builtin.lenOf, hf]
  | some ad => simp [Builtin.append_, run_underlying ht, sizeOf, typeInfo, hi, Builtin.lenOf, hf, storeCells]
theorem zu0 {t ty e : TypeId} {i : TypeInfo} {z : Value} {as ax : Option Addr} {n c m cx : Nat} {olds news : List Value} (ht : P.underlying t = some (.slice e)) (hi : P.info? e = some i) (hz : i.zero = some z) (hzs : z.cells.size = i.size)
    (hlo : olds.length = n * i.size) (ho : 0 < n → ∃ ad, as = some ad ∧ ∀ j u, olds[j]? = some u → w.cell? (ad.add j) = some u)
    (hl : news.length = m * i.size) (hn : 0 < m → ∃ ad, ax = some ad ∧ ∀ j u, news[j]? = some u → w.cell? (ad.add j) = some u)
    (hg : c < n + m) (hlim : n + m < LIM) (hb : i.bytes ≤ 32768) :
    ∃ (cap : Nat) (C : Array Value), n + m ≤ cap ∧ C.size = cap * i.size ∧ (∀ (j : Nat) (u : Value), (olds ++ news)[j]? = some u → C[j]? = some u) ∧
      (Builtin.append_ #[t, t] ty #[.slice as n c, .slice ax m cx]).run P w = .ok (.slice (some ⟨w.heap.size, 0, none⟩) (n + m) cap) (w.drew.alloc (.cells C e (0, 0))) := by
  have hf := zd2 (P := P) (w := w.drew) (cx := cx) hl (by simpa using hn)
  have hfo := zd2 (P := P) (w := w.drew) (cx := c) hlo (by simpa using ho)
  have hnn : ¬ (n + m ≤ c) := by omega
  have hcap : n + m ≤ grownCap w (n + m) c e := by unfold grownCap Question.cut; simp
  have h63 : ¬ (9223372036854775807 < ((n : Int) + (m : Int))) := by simp only [LIM] at hlim; omega
  have h48 : ¬ (281474976710656 < Builtin.nextslicecap (n + m) c * i.bytes) := by
    have h1 := nextslicecap_le hg
    have h2 : Builtin.nextslicecap (n + m) c * i.bytes ≤ (2 * (n + m)) * 32768 := Nat.mul_le_mul h1 hb
    simp only [LIM] at hlim
    omega
  refine ⟨grownCap w (n + m) c e, olds.toArray ++ news.toArray ++ Builtin.zeroCells z.cells (grownCap w (n + m) c e - (n + m)), hcap, ?_, ?_, ?_⟩
  · simp [Builtin.zeroCells, hlo, hl, hzs, ← Nat.add_mul]
    congr 1; omega
  · intro j u hu
    rw [Array.getElem?_append_left (by have := (List.getElem?_eq_some_iff.1 hu).1; simpa using this)]
    simpa using hu
  · simp [Builtin.append_, run_underlying ht, sizeOf, typeInfo, zeroValue, hi, hz, Builtin.lenOf, hnn, h63, h48, Question.forced, hf, hfo, newRow, grownCap]
    congr 2
    apply Array.ext'
    simp [List.append_assoc]
theorem zn7 {t ty e : TypeId} {sz by_ : Nat} {zs : List SV} {rs : List Nat} {as ax : Option Addr} {n c m cx : Nat} {olds news : List Value} {x : Blk} (ht : P.underlying t = some (.slice e)) (hz : tinfo P e = some (sz, zs, by_)) (hb : by_ ≤ 32768)
    (hH : HRel ρ H w) (hu : ρ H.length = .unborn) (hlim : n + m < LIM) (hnc : n ≤ c)
    (hlo : olds.length = n * sz) (ho : 0 < n → ∃ ad, as = some ad ∧ ∀ (j : Nat) (u : Value), olds[j]? = some u → w.cell? (ad.add j) = some u)
    (hl : news.length = m * sz) (hn : 0 < m → ∃ ad, ax = some ad ∧ ∀ (j : Nat) (u : Value), news[j]? = some u → w.cell? (ad.add j) = some u) (h1 : ∀ u ∈ news, u.oneCell' = true)
    (hs : (n = 0 ∧ c = 0) ∨ ∃ β b o0 n0 o1, rs = [β] ∧ ρ β = .at b o0 n0 sz ∧ as = some ⟨b, o1, none⟩ ∧ Room w b (o1 + c * sz))
    (h0 : n = 0 → m = 0 → (∃ K t, x = .arr K [] t) ∨ ∃ t z, x = .cells [] t z) {mo : Bool} (hmo : mo = true → rs = [])
    (hx : ∀ (ρ' : Map) (w' : World) (b o1 : Nat) (C : Array Value) (tC : TypeId), Step ρ w ρ' w' → w'.heap[b]? = some (.cells C tC (0, 0)) → o1 + (n + m) * sz ≤ C.size → (∀ (j : Nat) (u : Value), (olds ++ news)[j]? = some u → C[o1 + j]? = some u) →
      BRel ρ' w' b o1 (n + m) sz x) :
    ∃ u w' ρ', (Builtin.append_ #[t, t] ty #[.slice as n c, .slice ax m cx]).run P w = .ok u w' ∧ Good mo ρ H w (.own H.length) (kill rs H ++ [x]) u w' ρ' := by
  obtain ⟨i, z, hi, hzz, rfl, rfl, hsv, hzl⟩ := zL hz
  have hzs : z.cells.size = i.size := by
    have := (svsOf_rel (ρ := ρ) (w := w) hsv).length
    simp only [Array.length_toList] at this; omega
  by_cases hfit : n + m ≤ c
  · rcases hs with ⟨rfl, rfl⟩ | ⟨β, b, o0, n0, o1, rfl, hr, rfl, C, tC, hC, hroom⟩
    · obtain rfl : m = 0 := by omega
      refine ⟨_, w, (ρ.kill rs).put H.length .none_, zuZ ht hi, zM hH hu ((Step.kill rs).trans (Step.ghost _ _ (by simp) (zD hu))) (fun _ _ _ _ _ _ _ => rfl) (fun _ _ _ => rfl) (.inl ⟨rfl, h0 rfl rfl⟩) (fun h => ⟨hmo h, fun _ _ => rfl⟩) ?_⟩
      simp only [VRel, Map.put_same]
      exact ⟨_, rfl⟩
    · have hmul : (n + m) * i.size ≤ c * i.size := Nat.mul_le_mul_right _ hfit
      have hmul' := hmul
      rw [Nat.add_mul] at hmul'
      have hlast : (C.toList.take (o1 + n * i.size) ++ news ++ C.toList.drop (o1 + n * i.size + news.length)).toArray.size = C.size := by
        simp; omega
      have hst := Step.inplace (rs := [β]) o1 (n + m) i.size hr hu hC hlast
      refine ⟨_, w.setRow b _, _, zuY ht hi hC hroom hfit hl hn h1, zM hH hu hst (fun γ b' o' n' sz' hγ hr' => ?_) (fun b2 t2 hv2 => by have : b ≠ b2 := (by rintro rfl; exact hH.resf _ _ _ _ _ hr (.inr (by rw [hv2]; simp))); simp only [World.setRow]; rw [Array.getElem?_modify, if_neg this]) (.inr ⟨b, o1, n + m, i.size, rfl, ?_, hH.resf _ _ _ _ _ hr, fun γ o' n' sz' hγ hr' => ?_, ?_⟩) (fun h => by have := hmo h; simp at this) ?_⟩
      · have : b ≠ b' := by
          rintro rfl
          have := hH.inj _ _ _ _ _ _ _ _ _ hr hr'
          subst this; simp at hγ
        simp only [World.setRow]; rw [Array.getElem?_modify, if_neg this]
      · have := hH.lt _ _ _ _ _ hr; simpa [World.setRow] using this
      · have := hH.inj _ _ _ _ _ _ _ _ _ hr hr'
        subst this; simp at hγ
      · refine hx _ _ b o1 _ tC hst (setRow_heap w b C _ tC _ hC) (by rw [hlast]; omega) fun j u hj => ?_
        rw [List.getElem?_toArray, zd1 _ _ _ _ (by simp; omega)]
        rw [List.getElem?_append] at hj
        split at hj
        · rename_i hjl
          rw [if_neg (by omega), Array.getElem?_toList]
          have hn0 : 0 < n := by
            rcases Nat.eq_zero_or_pos n with h | h
            · subst h; omega
            · exact h
          obtain ⟨ad, e1, h3⟩ := ho hn0
          simp at e1; subst e1
          have := h3 j u hj
          rw [zc, zq hC] at this; exact this
        · rename_i hjl
          have := (List.getElem?_eq_some_iff.1 hj).1
          rw [if_pos (by omega), ← hj]; congr 1; omega
      · simp only [VRel, Map.put_same]
        exact ⟨c, hfit, rfl, _, tC, setRow_heap w b C _ tC _ hC, by rw [hlast]; exact hroom⟩
  · obtain ⟨cap, C, hcap, hCs, hCc, hrun⟩ := zu0 (P := P) (ty := ty) (cx := cx) (c := c) ht hi hzz hzs hlo ho hl hn (show c < n + m by omega) hlim hb
    have hst := Step.realloc (ρ := ρ) (w := w) (rs := rs) C e (n + m) i.size hu
    have hmul : (n + m) * i.size ≤ cap * i.size := Nat.mul_le_mul_right _ hcap
    have hnew : (w.drew.alloc (.cells C e (0, 0))).heap[w.heap.size]? = some (.cells C e (0, 0)) := heap_alloc_new w.drew _
    refine ⟨_, _, _, hrun, zM hH hu hst (fun γ b' o' n' sz' hγ hr' => ?_) (fun b2 t2 hv2 => by first | exact zbs (hH.vlt hv2) | exact ziQ (hH.vlt hv2)) (.inr ⟨w.heap.size, 0, n + m, i.size, rfl, by simp, fun h => ?_, fun γ o' n' sz' hγ hr' => ?_, ?_⟩) (fun h => ⟨hmo h, fun b hb => by simp only [World.alloc]; rw [Array.getElem?_push, if_neg (by simp; omega)]; rfl⟩) ?_⟩
    · have := hH.lt _ _ _ _ _ hr'
      simp only [World.alloc]; rw [Array.getElem?_push, if_neg (by simp; omega)]; rfl
    · have := hH.resl _ h; omega
    · have := hH.lt _ _ _ _ _ hr'; omega
    · exact hx _ _ _ 0 C e hst hnew (by omega) (fun j u hj => by rw [Nat.zero_add]; exact hCc j u hj)
    · simp only [VRel, Map.put_same]
      exact ⟨cap, hcap, rfl, C, e, hnew, by omega⟩
theorem zn8 (hH : HRel ρ H w) {sz : Nat} {x : SV} {u : Value} {cs : List SV} (hz : sz ≠ 0) (h : cellsOfRow H sz x = some cs) (hv : VRel ρ w x u) :
    ∃ ad n c vs, cs.length = n * sz ∧ u = .slice ad n c ∧ n ≤ c ∧ VRels ρ w cs vs ∧ (0 < n → ∃ a', ad = some a' ∧ ∀ (j : Nat) (u : Value), vs[j]? = some u → w.cell? (a'.add j) = some u) ∧
      ((n = 0 ∧ c = 0) ∨ ∃ β b o0 n0 o1, x.refs = [β] ∧ ρ β = .at b o0 n0 sz ∧ ad = some ⟨b, o1, none⟩ ∧ Room w b (o1 + c * sz)) := by
  unfold cellsOfRow at h
  split at h
  · simp at h; subst h
    simp only [VRel] at hv
    obtain ⟨ad, rfl⟩ := hv
    exact ⟨ad, 0, 0, [], by simp, rfl, Nat.le_refl _, by simp [VRels], by simp, .inl ⟨rfl, rfl⟩⟩
  · rename_i β
    split at h
    · rename_i cs' t z hb
      split at h
      · rename_i hzz
        simp at h; subst h; subst hzz
        rcases own_rel hH hb (by simp) hv with ⟨hr, ad, rfl⟩ | ⟨b, o, n, sz, c, hr, hc, rfl, hroom⟩
        · have := zbv hH hb hr; subst this
          exact ⟨ad, 0, 0, [], by simp, rfl, Nat.le_refl _, by simp [VRels], by simp, .inl ⟨rfl, rfl⟩⟩
        · obtain ⟨C, tC, hC, rfl, hn, hle, hcs, hm⟩ := zy hH hb hr
          exact ⟨_, n, c, _, hn, rfl, hc, hcs, fun _ => ⟨_, rfl, hm⟩, .inr ⟨β, b, o, n, o, by simp [SV.refs], hr, rfl, hroom⟩⟩
      · simp at h
    · simp at h
  · simp at h
theorem snd_app {c : Call} {t e : TypeId} {s x : Operand} {ss sx : S} {K : Option Kd} {sz by_ : Nat} {zs : List SV} (hop : o.op = .call c) (hc : c.callee = .builtin .append) (hargs : c.args = #[s, x]) (hty : c.argTypes = #[t, t])
    (hu : P.underlying t = some (.slice e)) (hz : tinfo P e = some (sz, zs, by_)) (hb : by_ ≤ 32768) (hs : opL s = some ss) (hx : opL x = some sx) (ht : TRel ρ w τ a N) (hH : HRel ρ H w) (hun : ρ H.length = .unborn)
    (hmo : m = true → (ss.ev τ).refs = []) (he : appI H K sz e (ss.ev τ) (sx.ev τ) (fun v H => some (v, H)) = some (v, H')) : OpOK P o a m ρ H w v H' := by
  have vs := opL_rel ht hs
  have vx := opL_rel ht hx
  have fin : ∀ {u : Value} {w' : World} {ρ' : Map}, (Builtin.append_ #[t, t] o.type #[a.eval s, a.eval x]).run P w = .ok u w' → Good m ρ H w v H' u w' ρ' → OpOK P o a m ρ H w v H' := by
    intro u w' ρ' hr hg
    refine OpOK.value ?_ hg
    simp [execOp, hop, resolve, hc, hargs, hty, invoke, builtin, hr]
  have typed : ∀ {K : Kd} {base ys : List K.T}, (ss.ev τ = .nils ∨ (∃ β, ss.ev τ = .own β) ∨ ∃ β o l, ss.ev τ = .sub β o l) → decH false H (.list K) [ss.ev τ] = some base → decH false H (.list K) [sx.ev τ] = some ys → K.sz = sz → base.length + ys.length < LIM →
      v = .own H.length → H' = kill (ss.ev τ).refs H ++ [.arr K (base ++ ys) e] → OpOK P o a m ρ H w v H' := by
    intro K base ys hform h1 h2 hKs hlim hv hH'
    subst hv; subst hH'
    obtain ⟨as, cs, e1, hcs, ha, hform'⟩ := zn6 hH h1 vs
    obtain ⟨ax, cx, e2, hcx, hax, _⟩ := zn6 hH h2 vx
    have olds : ∃ olds : List Value, olds.length = base.length * K.sz ∧ (0 < base.length → ∃ ad, as = some ad ∧ ∀ (j : Nat) (u : Value), olds[j]? = some u → w.cell? (ad.add j) = some u) ∧ (∀ u ∈ olds, u.oneCell' = true) ∧ RowL w (Free ρ w) K base olds := by
      rcases Nat.eq_zero_or_pos base.length with h0 | h0
      · exact ⟨[], by simp [h0], fun h => by omega, by simp, fun i y hy => by rw [List.eq_nil_of_length_eq_zero h0] at hy; simp at hy⟩
      · obtain ⟨ad, e3, h3⟩ := ha h0
        obtain ⟨cs', h4, h5, h6, h7⟩ := flat_of h3
        exact ⟨cs', h4, fun _ => ⟨ad, e3, h5⟩, h6, h7⟩
    have news : ∃ news : List Value, news.length = ys.length * K.sz ∧ (0 < ys.length → ∃ ad, ax = some ad ∧ ∀ (j : Nat) (u : Value), news[j]? = some u → w.cell? (ad.add j) = some u) ∧ (∀ u ∈ news, u.oneCell' = true) ∧ RowL w (Free ρ w) K ys news := by
      rcases Nat.eq_zero_or_pos ys.length with h0 | h0
      · exact ⟨[], by simp [h0], fun h => by omega, by simp, fun i y hy => by rw [List.eq_nil_of_length_eq_zero h0] at hy; simp at hy⟩
      · obtain ⟨ad, e3, h3⟩ := hax h0
        obtain ⟨cs', h4, h5, h6, h7⟩ := flat_of h3
        exact ⟨cs', h4, fun _ => ⟨ad, e3, h5⟩, h6, h7⟩
    obtain ⟨olds, ho1, ho2, ho3, ho4⟩ := olds
    obtain ⟨news, hn1, hn2, hn3, hn4⟩ := news
    obtain ⟨u, w', ρ', hr, hg⟩ := zn7 (mo := m) (P := P) (ty := o.type) (x := .arr K (base ++ ys) e) (rs := (ss.ev τ).refs) (hmo := hmo) (cx := cx) hu hz hb hH hun hlim hcs (by rw [ho1, hKs]) ho2 (by rw [hn1, hKs]) hn2 hn3
      (by
        rcases hform' hform with ⟨h3, h4, _⟩ | ⟨β, b, o0, n0, o1, h3, _, h4, h5, h6⟩
        · exact .inl ⟨by rw [h3]; rfl, h4⟩
        · exact .inr ⟨β, b, o0, n0, o1, h3, by rw [h4, hKs], h5, by rw [← hKs]; exact h6⟩)
      (fun h3 h4 => .inl ⟨K, e, by rw [List.eq_nil_of_length_eq_zero h3, List.eq_nil_of_length_eq_zero h4]; rfl⟩)
      (fun ρ' w' b o1 C tC hst hC hle hcell => by
        simp only [BRel]
        refine ⟨by simp, hKs, C, tC, hC, hle, ?_⟩
        exact RowL.rel (RowL.mono (fun _ hb => hb.step hst) (fun b hb => hst.free b hb) (ho4.append ho1 hn4)) hcell)
    rw [← e1, ← e2] at hr
    exact fin hr hg
  have cellsCase : ∀ {cs ds : List SV}, cellsOfRow H sz (ss.ev τ) = some cs → cellsOfRow H sz (sx.ev τ) = some ds → cs.length + ds.length < 65536 → sz ≠ 0 → ds.all SV.oneB = true → v = .own H.length → H' = kill (ss.ev τ).refs H ++ [.cells (cs ++ ds) e sz] → OpOK P o a m ρ H w v H' := by
    intro cs ds h1 h2 hlim hsz hone hv hH'
    subst hv; subst hH'
    obtain ⟨as, n, c1, vs1, hl1, e1, hc1, hr1, hm1, hform⟩ := zn8 hH hsz h1 vs
    obtain ⟨ax, n2, c2, vs2, hl2, e2, hc2, hr2, hm2, _⟩ := zn8 hH hsz h2 vx
    have hn1 : n ≤ n * sz := Nat.le_mul_of_pos_right _ (by omega)
    have hn2 : n2 ≤ n2 * sz := Nat.le_mul_of_pos_right _ (by omega)
    obtain ⟨u, w', ρ', hr, hg⟩ := zn7 (mo := m) (P := P) (ty := o.type) (x := .cells (cs ++ ds) e sz) (rs := (ss.ev τ).refs) (hmo := hmo) (cx := c2) (olds := vs1) (news := vs2) (m := n2) hu hz hb hH hun (by simp only [LIM]; omega) hc1 (by rw [← hr1.length]; exact hl1) hm1 (by rw [← hr2.length]; exact hl2) hm2 (one_all hr2 hone) hform
      (fun h3 h4 => .inr ⟨e, sz, by
        subst h3; subst h4
        rw [List.eq_nil_of_length_eq_zero (l := cs) (by simpa using hl1), List.eq_nil_of_length_eq_zero (l := ds) (by simpa using hl2)]; rfl⟩)
      (fun ρ' w' b o1 C tC hst hC hle hcell => by
        simp only [BRel]
        refine ⟨by first | rfl | trivial, by simp [hl1, hl2, Nat.add_mul], C, tC, hC, hle, fun j s hj => ?_⟩
        obtain ⟨u, h3, h4⟩ := (hr1.append hr2).get j s hj
        exact ⟨u, hcell j u h3, h4.step hst⟩)
    rw [← e1, ← e2] at hr
    exact fin hr hg
  unfold appI at he
  have ⟨hrow, he2⟩ := (zd he).resolve_right (by simp)
  have hforms : (ss.ev τ = .nils ∨ (∃ β, ss.ev τ = .own β) ∨ ∃ β o l, ss.ev τ = .sub β o l) := by
    unfold SV.row at hrow
    split at hrow
    · rename_i h; exact .inl h
    · rename_i h; exact .inr (.inl ⟨_, h⟩)
    · rename_i h; exact .inr (.inr ⟨_, _, _, h⟩)
    · simp at hrow
  clear he
  unfold appB at he2
  split at he2
  · split at he2
    · rename_i base ys h1 h2
      split at he2
      · rename_i hKs
        obtain ⟨hlim, he2⟩ := za he2
        simp only [Option.some.injEq, Prod.mk.injEq] at he2
        exact typed hforms h1 h2 hKs (by simpa using hlim) he2.1.symm he2.2.symm
      · simp at he2
    · split at he2
      · rename_i cs ds h1 h2
        split at he2
        · rename_i hcond
          simp only [Option.some.injEq, Prod.mk.injEq] at he2
          exact cellsCase h1 h2 hcond.1 hcond.2.1 hcond.2.2 he2.1.symm he2.2.symm
        · simp at he2
      · simp at he2
  · split at he2
    · rename_i cs ds h1 h2
      split at he2
      · rename_i hcond
        simp only [Option.some.injEq, Prod.mk.injEq] at he2
        exact cellsCase h1 h2 hcond.1 hcond.2.1 hcond.2.2 he2.1.symm he2.2.symm
      · simp at he2
    · simp at he2
end
end Go.Proofs.Ytmkekjmckdkcnaa.Den
namespace Go.Proofs.Ytmkekjmckdkcnaa.Den
open Go Go.RowKit
section
variable {P : Program} {o : Oper} {a : Act} {m : Bool} {ρ : Map} {H H' : Heap} {w w' : World} {τ : Env} {N : Nat} {T : Tab} {v : SV}
theorem zf1 {B : Nat → Prop} : ∀ {K : Kd} {cs : List SV} {vs : List Value}, isZero K cs = true → VRels ρ w cs vs → CRel w B K K.dflt vs
  | .int k, cs, vs, h, hv => by
    simp only [isZero] at h
    split at h
    · obtain ⟨u, rfl, hu⟩ := hv.single'
      simp at h; subst h
      simp only [VRel] at hu; subst hu; rfl
    · simp at h
  | .bool, cs, vs, h, hv => by
    simp only [isZero] at h
    split at h
    · obtain ⟨u, rfl, hu⟩ := hv.single'
      simp only [VRel] at hu; subst hu; rfl
    · simp at h
  | .unit, cs, vs, h, hv => by
    simp only [isZero] at h
    split at h
    · simp only [VRels] at hv; subst hv; rfl
    · simp at h
  | .pair a b, cs, vs, h, hv => by
    simp only [isZero, Bool.and_eq_true] at h
    have hs := hv.split (n := a.sz)
    exact ⟨_, _, (List.take_append_drop a.sz vs).symm, zf1 h.1 hs.1, zf1 h.2 hs.2⟩
  | .list e, cs, vs, h, hv => by
    simp only [isZero] at h
    split at h
    · obtain ⟨u, rfl, hu⟩ := hv.single'
      simp only [VRel] at hu
      obtain ⟨a, rfl⟩ := hu
      exact ⟨a, 0, rfl, Nat.le_refl _, fun h => absurd h (by simp [Kd.dflt])⟩
    · simp at h
theorem ziY {α : Type} {zs : List α} : ∀ (m i : Nat), i < m * zs.length → ((List.replicate m zs).flatten)[i]? = zs[i % zs.length]?
  | 0, i, h => by simp at h
  | m + 1, i, h => by
    rw [List.replicate_succ, List.flatten_cons, List.getElem?_append]
    split
    · rename_i hi; rw [Nat.mod_eq_of_lt hi]
    · rename_i hi
      rw [ziY m _ (by rw [Nat.add_mul] at h; omega), ← Nat.mod_eq_sub_mod (by omega)]
theorem ziZ {α : Type} {zs : List α} (m : Nat) : ((List.replicate m zs).flatten).length = m * zs.length := by
  simp
theorem zi0 {z : Array Value} {n i : Nat} (h : i < n) (hz : 0 < z.size) : (madeCells z n)[i]? = z[i % z.size]? := by
  simp [madeCells, h, Nat.mod_lt _ hz]
theorem zn9 {zs : List SV} {z : Array Value} (h : VRels ρ w zs z.toList) (m : Nat) : VRels ρ w ((List.replicate m zs).flatten) (madeCells z (m * zs.length)).toList := by
  have hl := h.length
  simp only [Array.length_toList] at hl
  refine VRels.of (by simp [size_madeCells]) fun i s u h1 h2 => ?_
  have hi : i < m * zs.length := by rw [← ziZ]; exact (List.getElem?_eq_some_iff.1 h1).1
  have hpos : 0 < zs.length := Nat.pos_of_ne_zero fun h0 => by rw [h0] at hi; simp at hi
  rw [ziY _ _ hi] at h1
  rw [Array.getElem?_toList, zi0 hi (by omega), ← hl] at h2
  obtain ⟨u', h3, h4⟩ := h.get _ _ h1
  rw [Array.getElem?_toList, h2] at h3
  cases h3; exact h4
theorem zu1 {K : Kd} {zs : List SV} {z : Array Value} (h : VRels ρ w zs z.toList) (h0 : isZero K zs = true) (hK : K.sz = zs.length) {m c : Nat} (hmc : m ≤ c) :
    RowRel w (Free ρ w) K (List.replicate m K.dflt) (madeCells z (c * zs.length)) 0 := by
  intro i x hx
  have hl := h.length
  simp only [Array.length_toList] at hl
  have hi : i < m := by have := (List.getElem?_eq_some_iff.1 hx).1; simpa using this
  rw [List.getElem?_replicate, if_pos hi] at hx
  cases hx
  refine ⟨z.toList, zf1 h0 h, fun j u hu => ?_⟩
  have hj : j < zs.length := by rw [hl]; have := (List.getElem?_eq_some_iff.1 hu).1; simpa using this
  have hle : (i + 1) * zs.length ≤ c * zs.length := Nat.mul_le_mul_right _ (by omega)
  rw [Nat.add_mul] at hle
  rw [Nat.zero_add, hK, zi0 (by omega) (by omega), ← hl, Nat.mul_comm, Nat.mul_add_mod, Nat.mod_eq_of_lt hj]
  simpa using hu
theorem snd_mk {t e : TypeId} {l c : Operand} {sl sc : S} {sz by_ : Nat} {zs : List SV} {K : Option Kd} (hop : o.op = .makeSlice t l c) (hu : P.underlying t = some (.slice e)) (hz : tinfo P e = some (sz, zs, by_)) (hb : by_ ≤ 32768) (hsz : sz ≠ 0)
    (hK : ∀ k, K = some k → k.sz = sz ∧ isZero k zs = true) (hl : opL l = some sl) (hc : opL c = some sc) (ht : TRel ρ w τ a N) (hH : HRel ρ H w) (hun : ρ H.length = .unborn)
    (he : runI T (.mk K zs e sl (some sc)) τ H (fun v H => some (v, H)) = some (v, H')) : OpOK P o a m ρ H w v H' := by
  have vl := opL_rel ht hl
  have vc := opL_rel ht hc
  obtain ⟨i, z, hi, hzz, rfl, rfl, hsv, hzl⟩ := zL hz
  have hzr : VRels ρ w zs z.cells.toList := svsOf_rel hsv
  simp only [runI, mkI, Option.map_some] at he
  split at he
  · rename_i kl ml e1
    rw [e1] at vl
    simp only [VRel] at vl
    have fin : ∀ {kc : IntKind} {cc : Int} {x : Blk}, a.eval c = .int kc cc → 0 ≤ ml → ml ≤ cc → cc < (LIM : Int) → v = .own H.length → H' = H ++ [x] →
        BRel (ρ.put H.length (.at w.heap.size 0 ml.toNat i.size)) (w.alloc (.cells (madeCells z.cells (cc.toNat * i.size)) e (0, 0))) w.heap.size 0 ml.toNat i.size x → OpOK P o a m ρ H w v H' := by
      intro kc cc x e2 h0 h1 h2 hv hH' hx
      subst hv; subst hH'
      refine OpOK.value (w' := w.alloc (.cells (madeCells z.cells (cc.toNat * i.size)) e (0, 0))) (u := .slice (some ⟨w.heap.size, 0, none⟩) ml.toNat cc.toNat) ?_ (zab (n := ml.toNat) (sz := i.size) hH hun hx ?_)
      · simp only [LIM] at h2
        have hbb : (i.bytes : Int) * cc ≤ 281474976710656 := by
          have h3 : (i.bytes : Int) * cc ≤ 32768 * cc := Int.mul_le_mul_of_nonneg_right (by omega) (by omega)
          omega
        simp [execOp, hop, vl, e2, run_make w t e i z hu hi hzz kl kc ml cc h0 h1 hbb (by omega)]
      · simp only [VRel, Map.put_same]
        exact ⟨cc.toNat, by omega, rfl, _, e, heap_alloc_new w _, by simp [size_madeCells]⟩
    split at he
    · rename_i e2
      simp at e2
    · rename_i k2 cc e2
      simp at e2
      rw [e2] at vc
      simp only [VRel] at vc
      split at he
      · rename_i k
        obtain ⟨hk1, hk2⟩ := hK k rfl
        obtain ⟨h0, he⟩ := za he
        obtain ⟨h1, he⟩ := za he
        obtain ⟨h2, he⟩ := za he
        simp only [Option.some.injEq, Prod.mk.injEq] at he
        simp only [decide_eq_true_eq] at h0 h1 h2
        refine fin vc h0 h1 (by simp only [LIM] at h2 ⊢; omega) he.1.symm he.2.symm ?_
        have hst := Step.alloc (ρ := ρ) (w := w) H.length (madeCells z.cells (cc.toNat * i.size)) e ml.toNat i.size hun
        simp only [BRel]
        refine ⟨by simp, hk1, _, e, heap_alloc_new w _, ?_, ?_⟩
        · simp only [size_madeCells, Nat.zero_add]
          exact Nat.mul_le_mul_right _ (by omega)
        · have hr := zu1 (m := ml.toNat) (c := cc.toNat) hzr hk2 (by omega) (by omega)
          rw [hzl] at hr
          intro j x hx
          obtain ⟨es, h3, h4⟩ := hr j x hx
          exact ⟨es, h3.step hst, h4⟩
      · split at he
        · rename_i m0 c0
          split at he
          · rename_i hc0
            simp only [Option.some.injEq, Prod.mk.injEq] at he
            refine fin (cc := (Int.ofNat c0)) vc (by simp) (by simpa using hc0.1) (by have h9 := hc0.2; simp only [LIM] at h9 ⊢; simp; omega) he.1.symm he.2.symm ?_
            have hst := Step.alloc (ρ := ρ) (w := w) H.length (madeCells z.cells (c0 * i.size)) e m0 i.size hun
            have hle : m0 * i.size ≤ c0 * i.size := Nat.mul_le_mul_right _ hc0.1
            simp only [BRel]
            refine ⟨hzl, by rw [ziZ, hzl]; rfl, _, e, heap_alloc_new w _, by rw [size_madeCells, Nat.zero_add]; exact hle, fun j s hj => ?_⟩
            have hj' : j < m0 * zs.length := by rw [← ziZ]; exact (List.getElem?_eq_some_iff.1 hj).1
            rw [ziY _ _ hj'] at hj
            obtain ⟨u, h3, h4⟩ := hzr.get _ _ hj
            refine ⟨u, ?_, h4.step hst⟩
            have hpos : 0 < i.size := Nat.pos_of_ne_zero hsz
            have hcs : z.cells.size = zs.length := by have := hzr.length; simpa using this.symm
            show (madeCells z.cells (c0 * i.size))[0 + j]? = some u
            rw [Nat.zero_add, zi0 (by rw [hzl] at hj'; omega) (by omega), hcs, ← Array.getElem?_toList]
            exact h3
          · simp at he
        · simp at he
    · simp at he
  · simp at he
theorem zoa {B : Nat → Prop} {G : Nat → Prop} {K : Kd} {f : List SV → Option K.T} (hf : ∀ cs x vs, (∀ γ ∈ SV.refsL cs, G γ) → f cs = some x → VRels ρ w cs vs → CRel w B K x vs) (sz : Nat) :
    ∀ (n : Nat) (cs : List SV) (xs : List K.T) (vs : List Value), (∀ γ ∈ SV.refsL cs, G γ) → decRows f sz n cs = some xs → VRels ρ w cs vs →
      xs.length = n ∧ ∀ (i : Nat) (x : K.T), xs[i]? = some x → CRel w B K x ((vs.drop (i * sz)).take sz)
  | 0, cs, xs, vs, hG, h, hv => by
    cases cs <;> simp [decRows] at h
    subst h; simp
  | n + 1, cs, xs, vs, hG, h, hv => by
    simp only [decRows] at h
    have hr : SV.refsL cs = SV.refsL (cs.take sz) ++ SV.refsL (cs.drop sz) := by
      rw [← zV, List.take_append_drop]
    split at h
    · rename_i x r h1 h2
      simp at h; subst h
      have hs := hv.split (n := sz)
      have ih := zoa hf sz n _ _ _ (fun γ hg => hG γ (by rw [hr]; exact List.mem_append.2 (.inr hg))) h2 hs.2
      refine ⟨by simp [ih.1], fun i y hy => ?_⟩
      cases i with
      | zero => simp at hy; subst hy; simpa using hf _ _ _ (fun γ hg => hG γ (by rw [hr]; exact List.mem_append.2 (.inl hg))) h1 hs.1
      | succ i =>
        simp at hy
        have := ih.2 i y hy
        rw [List.drop_drop] at this
        rw [Nat.add_mul, Nat.one_mul, Nat.add_comm]; exact this
    · simp at h
theorem zi1 : ∀ {ps : List (Nat × Nat × S)} {cs cs' : List SV}, fillP τ ps cs = some cs' → cs'.length = cs.length
  | [], cs, cs', h => by simp [fillP] at h; rw [h]
  | (off, n, x) :: r, cs, cs', h => by
    simp only [fillP] at h
    split at h
    · split at h
      · rename_i hc
        rw [zi1 h, znX (by omega)]
      · simp at h
    · simp at h
theorem zf2 : ∀ {xs : List Operand} {ss : List S}, opsL xs = some ss → ss.length = xs.length
  | [], _, h => by simp [opsL] at h; subst h; rfl
  | x :: r, _, h => by
    simp only [opsL] at h
    split at h
    · rename_i p q h1 h2
      simp at h; subst h
      simp [zf2 h2]
    · simp at h
theorem Step.junk {x : Obj} : Step ρ w ρ (w.alloc x) where
  os := rfl
  tape := rfl
  output := rfl
  size := by simp
  kept b hb _ _ := by simp only [World.alloc]; rw [Array.getElem?_push, if_neg (by omega)]
  shape b C t fr h := ⟨C, by
    have : b < w.heap.size := (Array.getElem?_eq_some_iff.1 h).1
    simp only [World.alloc]; rw [Array.getElem?_push, if_neg (by omega)]; exact h, rfl⟩
  img β b o n sz h := .inl ⟨β, o, n, sz, h⟩
  ref β h := .inl rfl
  res := rfl
  vl _ _ := rfl
theorem HRel.junk (h : HRel ρ H w) {x : Obj} : HRel ρ H (w.alloc x) where
  dead := h.dead
  none_ := h.none_
  at_ β hl b o n sz hr := by
    obtain ⟨y, h1, h2⟩ := h.at_ β hl b o n sz hr
    have hb := h.lt _ _ _ _ _ hr
    exact ⟨y, h1, h2.keep Step.junk (zbs hb) fun b' hb' => ⟨h.vlt hb', zbs (h.vlt hb')⟩⟩
  inj := h.inj
  lt β b o n sz hr := by have := h.lt _ _ _ _ _ hr; simp; omega
  resl b hb := by have := h.resl b hb; simp; omega
  resf := h.resf
theorem partsB {sz : Nat} : ∀ {parts : List (Nat × Operand)} {xs : List S}, opsL (parts.map (·.2)) = some xs →
    partsL P (fun i => some (i * sz, sz)) parts = some (((parts.map (·.1)).zip xs).map fun p => (p.1 * sz, sz, p.2))
  | [], xs, h => by simp [opsL] at h; subst h; rfl
  | (i, x) :: r, xs, h => by
    simp only [List.map_cons, opsL] at h
    split at h
    · rename_i p q h1 h2
      simp at h; subst h
      simp [partsL, h1, partsB h2]
    · simp at h
theorem snd_bsl {t e : TypeId} {len : Nat} {parts : Array (Nat × Operand)} {xs : List S} {sz by_ : Nat} {zs : List SV} {K : Option Kd} {frz : Bool} (hop : o.op = .buildSlice t len parts) (hu : P.underlying t = some (.slice e)) (hz : tinfo P e = some (sz, zs, by_))
    (hxs : opsL (parts.toList.map (·.2)) = some xs) (hle : len * sz ≤ 16777216) (hsz : sz ≠ 0) (hfm : frz = true → m = false) (ht : TRel ρ w τ a N) (hH : HRel ρ H w) (hun0 : H.length < H'.length → ρ H.length = .unborn)
    (he : runI T (.bsl K frz sz len zs e ((parts.toList.map (·.1)).zip xs)) τ H (fun v H => some (v, H)) = some (v, H')) : OpOK P o a m ρ H w v H' := by
  obtain ⟨i, z, hi, hzz, rfl, rfl, hsv, hzl⟩ := zL hz
  have hzr : VRels ρ w zs z.cells.toList := svsOf_rel hsv
  simp only [runI] at he
  unfold bslI at he
  split at he
  · simp only [Option.some.injEq, Prod.mk.injEq] at he
    obtain ⟨rfl, rfl⟩ := he
    rename_i hpz
    have hpl := zf2 hxs
    have hp0 : parts.toList = [] := by
      have h3 := congrArg List.length hpz
      rw [List.length_zip, List.length_map, List.length_nil] at h3
      rw [List.length_map] at hpl
      exact List.eq_nil_of_length_eq_zero (by omega)
    have hrun : (execOp a.eval o).run P w = .ok (.value (.slice (some ⟨w.heap.size, 0, none⟩) 0 0)) (w.alloc (.cells #[] e (0, 0))) := by
      have e1 : (parts.map fun x => (x.1, a.eval x.2)).toList = [] := by simp [hp0]
      simp [execOp, hop, Instr.buildSlice, run_underlying hu, zi hi, newRow, Array.range_zero', hp0, Instr.fill]
    refine OpOK.value hrun ⟨Step.junk, hH.junk, ?_, Nat.le_refl _, fun _ h _ => h, fun _ => ⟨⟨[], by simp⟩, fun _ _ => rfl, fun b hb => ?_⟩⟩
    · simp only [VRel]; exact ⟨_, rfl⟩
    · simp only [World.alloc]; rw [Array.getElem?_push, if_neg (by omega)]
  · simp at he
  rename_i len0
  simp only [Nat.succ_eq_add_one] at hop hle
  generalize len0 + 1 = len at *
  have hun : ρ H.length = .unborn := by
    refine hun0 ?_
    split at he
    · simp at he
    · split at he
      · split at he
        · split at he
          · simp only [Option.some.injEq, Prod.mk.injEq] at he
            rw [← he.2]; simp [zk]
          · simp at he
        · simp only [Option.some.injEq, Prod.mk.injEq] at he
          rw [← he.2]; simp
      · simp only [Option.some.injEq, Prod.mk.injEq] at he
        rw [← he.2]; simp
  split at he
  · simp at he
  · rename_i cs hcs
    obtain ⟨C, h1, h2⟩ := zd0 (P := P) ht (partsB hxs) hcs (zn9 hzr _)
    have hcl : C.size = len * i.size := by
      have h3 := h2.length
      have h4 := zi1 hcs
      simp only [Array.length_toList] at h3
      rw [← h3, h4]; simp [hzl]
    have hrun : (execOp a.eval o).run P w = .ok (.value (.slice (some ⟨w.heap.size, 0, none⟩) len len)) (w.alloc (.cells C e (0, 0))) := by
      have e1 : (parts.map fun x => (x.1, a.eval x.2)).toList = parts.toList.map fun p => (p.1, a.eval p.2) := by simp
      have n1 : ¬ (2 ^ 24 < len * i.size) := by omega
      rw [hzl] at h1
      by_cases hn : len * i.size = 0
      · have e2 : madeCells z.cells (len * i.size) = #[] := by rw [hn]; simp [madeCells, Array.range_zero']
        rw [e2] at h1
        simp [execOp, hop, Instr.buildSlice, run_underlying hu, zi hi, hn, newRow, Array.range_zero', h1]
      · have e2 : (Array.range (len * i.size)).map (z.cells[· % z.cells.size]!) = madeCells z.cells (len * i.size) := rfl
        simp only [execOp, hop, Instr.buildSlice, Sem.run_bind, run_underlying hu, Result.andThen_ok, zi hi, n1, if_false, hn, cellsN hi hzz, Sem.run_pure, e1, e2, h1, newRow]
        simp
    have cellsCase : v = .own H.length → H' = H ++ [.cells cs e i.size] → OpOK P o a m ρ H w v H' := by
      intro hv hH'
      subst hv; subst hH'
      have h3 := h2.length
      simp only [Array.length_toList] at h3
      refine OpOK.value hrun (zab (n := len) (sz := i.size) hH hun ?_ ?_)
      · exact ziU hun (by rw [h3, List.take_of_length_le (by simp)]; exact h2) (by omega) (by omega)
      · simp only [VRel, Map.put_same]
        exact ⟨len, Nat.le_refl _, rfl, C, e, heap_alloc_new w _, by omega⟩
    split at he
    · rename_i k
      split at he
      · rename_i ys hdec
        split at he
        · rename_i hk
          simp only [Option.some.injEq, Prod.mk.injEq] at he
          obtain ⟨rfl, rfl⟩ := he
          cases frz with
          | false =>
            simp only [cond] at hdec
            rw [hk] at hdec
            have hrows := zbr (f := decH false [] k) (B := Free ρ w) (fun cs x vs h3 h4 => zr h3 h4) i.size _ _ _ _ hdec h2
            have hst := Step.alloc (ρ := ρ) (w := w) H.length C e len i.size hun
            refine OpOK.value hrun (zab (n := len) (sz := i.size) hH hun ?_ ?_)
            · simp only [BRel]
              refine ⟨hrows.1, hk, C, e, heap_alloc_new w _, by omega, fun q y hq => ⟨_, (hrows.2 q y hq).step hst, fun j u hu => ?_⟩⟩
              rw [List.getElem?_take] at hu
              split at hu
              · rw [List.getElem?_drop, Array.getElem?_toList] at hu
                rw [Nat.zero_add, hk]; exact hu
              · simp at hu
            · simp only [VRel, Map.put_same]
              exact ⟨len, Nat.le_refl _, rfl, C, e, heap_alloc_new w _, by omega⟩
          | true =>
            obtain rfl := hfm rfl
            simp only [cond] at hdec ⊢
            rw [hk] at hdec
            have hrows := zoa (f := decH false H k) (B := fun b'' => Free ρ w b'' ∨ ∃ γ ∈ SV.refsL cs, ∃ o n sz, ρ γ = .at b'' o n sz) (G := fun γ => γ ∈ SV.refsL cs)
              (fun cs' x vs hG h3 h4 => zC (dp := false) hH (fun _ h => .inl h) (fun h => by cases h) (fun γ b'' o n sz hg hrg => .inr ⟨γ, hG γ (hg.resolve_left (by simp)), o, n, sz, hrg⟩) h3 h4) i.size _ _ _ _ (fun γ hg => hg) hdec h2
            have hst := (Step.kill (ρ := ρ) (w := w) (SV.refsL cs)).trans (Step.alloc (w := w) H.length C e len i.size (zD hun))
            refine OpOK.value hrun (zM hH hun hst (fun γ b' o' n' sz' hγ hr' => ?_) (fun b2 t2 hv2 => by first | exact zbs (hH.vlt hv2) | exact ziQ (hH.vlt hv2)) (.inr ⟨w.heap.size, 0, len, i.size, rfl, (Array.getElem?_eq_some_iff.1 (heap_alloc_new w (.cells C e (0, 0)))).1, fun h => ?_, fun γ o' n' sz' hγ hr' => ?_, ?_⟩) (by simp) ?_)
            · have := hH.lt _ _ _ _ _ hr'
              simp only [World.alloc]; rw [Array.getElem?_push, if_neg (by omega)]
            · have := hH.resl _ h; omega
            · have := hH.lt _ _ _ _ _ hr'; omega
            · simp only [BRel]
              refine ⟨hrows.1, hk, C, e, heap_alloc_new w _, by omega, fun q y hq => ⟨_, CRel.mono (w' := w.alloc (.cells C e (0, 0))) (fun b'' h => ?_) (fun b'' h => ?_) (hrows.2 q y hq), fun j u hu => ?_⟩⟩
              · rcases h with h | ⟨γ, hg, o1, n1, sz1, hrg⟩
                · exact h.step hst
                · exact (zf0 hH hg hrg).step (Step.alloc (w := w) H.length C e len i.size (zD hun))
              · have : b'' < w.heap.size := by
                  rcases h with h | ⟨γ, hg, o1, n1, sz1, hrg⟩
                  · exact h.1
                  · exact hH.lt _ _ _ _ _ hrg
                simp only [World.alloc]; rw [Array.getElem?_push, if_neg (by omega)]
              · rw [List.getElem?_take] at hu
                split at hu
                · rw [List.getElem?_drop, Array.getElem?_toList] at hu
                  rw [Nat.zero_add, hk]; exact hu
                · simp at hu
            · simp only [VRel, Map.put_same]
              exact ⟨len, Nat.le_refl _, rfl, C, e, heap_alloc_new w _, by omega⟩
        · simp at he
      · simp only [Option.some.injEq, Prod.mk.injEq] at he
        exact cellsCase he.1.symm he.2.symm
    · simp only [Option.some.injEq, Prod.mk.injEq] at he
      exact cellsCase he.1.symm he.2.symm
theorem snd_bse {t e : TypeId} {len : Nat} {parts : Array (Nat × Operand)} {xs : List S} {sz by_ : Nat} {zs : List SV} {k : Kd} (hop : o.op = .buildSlice t len parts) (hu : P.underlying t = some (.slice e)) (hz : tinfo P e = some (sz, zs, by_))
    (hxs : opsL (parts.toList.map (·.2)) = some xs) (hle : len * sz ≤ 16777216) (hsz : sz ≠ 0) (ht : TRel ρ w τ a N) (hH : HRel ρ H w)
    (he : runI T (.bse k sz len zs ((parts.toList.map (·.1)).zip xs)) τ H (fun v H => some (v, H)) = some (v, H')) : OpOK P o a m ρ H w v H' := by
  obtain ⟨i, z, hi, hzz, rfl, rfl, hsv, hzl⟩ := zL hz
  have hzr : VRels ρ w zs z.cells.toList := svsOf_rel hsv
  simp only [runI] at he
  split at he
  · rename_i cs hcs
    obtain ⟨C, h1, h2⟩ := zd0 (P := P) ht (partsB hxs) hcs (zn9 hzr _)
    have hcl : C.size = len * i.size := by
      have h3 := h2.length
      have h4 := zi1 hcs
      simp only [Array.length_toList] at h3
      rw [← h3, h4]; simp [hzl]
    have hrun : (execOp a.eval o).run P w = .ok (.value (.slice (some ⟨w.heap.size, 0, none⟩) len len)) (w.alloc (.cells C e (0, 0))) := by
      have e1 : (parts.map fun x => (x.1, a.eval x.2)).toList = parts.toList.map fun p => (p.1, a.eval p.2) := by simp
      have n1 : ¬ (2 ^ 24 < len * i.size) := by omega
      rw [hzl] at h1
      by_cases hn : len * i.size = 0
      · have e2 : madeCells z.cells (len * i.size) = #[] := by rw [hn]; simp [madeCells, Array.range_zero']
        rw [e2] at h1
        simp [execOp, hop, Instr.buildSlice, run_underlying hu, zi hi, hn, newRow, Array.range_zero', h1]
      · have e2 : (Array.range (len * i.size)).map (z.cells[· % z.cells.size]!) = madeCells z.cells (len * i.size) := rfl
        simp only [execOp, hop, Instr.buildSlice, Sem.run_bind, run_underlying hu, Result.andThen_ok, zi hi, n1, if_false, hn, cellsN hi hzz, Sem.run_pure, e1, e2, h1, newRow]
        simp
    split at he
    · rename_i ys hdec
      split at he
      · rename_i hk
        simp only [Option.some.injEq, Prod.mk.injEq] at he
        obtain ⟨rfl, rfl⟩ := he
        rw [hk] at hdec
        have hrows := zbr (f := decH false [] k) (B := Free ρ w) (fun cs x vs h3 h4 => zr h3 h4) i.size _ _ _ _ hdec h2
        refine OpOK.value hrun ⟨Step.junk, hH.junk, ?_, Nat.le_refl _, fun _ h _ => h, fun _ => ⟨⟨[], by simp⟩, fun _ _ => rfl, fun b hb => ?_⟩⟩
        · simp only [VRel, CRel]
          refine ⟨some ⟨w.heap.size, 0, none⟩, len, by rw [hrows.1], by rw [hrows.1]; exact Nat.le_refl _, fun h0 => ⟨⟨w.heap.size, 0, none⟩, rfl, ⟨by simp, fun h => ?_, fun β o n sz h => ?_⟩, fun q y hq => ⟨_, (hrows.2 q y hq).step Step.junk, fun j u hu => ?_⟩⟩⟩
          · have := hH.resl _ h; simp only at this; omega
          · have := hH.lt _ _ _ _ _ h; simp only at this; omega
          · rw [List.getElem?_take] at hu
            split at hu
            · rw [List.getElem?_drop, Array.getElem?_toList] at hu
              rw [zc, zq (heap_alloc_new w _), Nat.zero_add, hk]; exact hu
            · simp at hu
        · simp only [World.alloc]; rw [Array.getElem?_push, if_neg (by omega)]
      · simp at he
    · simp at he
  · simp at he
end
end Go.Proofs.Ytmkekjmckdkcnaa.Den
namespace Go.Proofs.Ytmkekjmckdkcnaa.Den
open Go Go.RowKit
section
variable {P : Program} {o : Oper} {a : Act} {m : Bool} {ρ : Map} {H H' : Heap} {w w' : World} {τ : Env} {N : Nat} {T : Tab} {v : SV}
theorem zu2 {x : Operand} (h : opL x = some (.c .nils)) : a.eval x = .slice none 0 0 := by
  cases x with
  | tmp t => simp [opL] at h
  | const v =>
    simp only [opL, Option.map_eq_some_iff] at h
    obtain ⟨s', h1, h2⟩ := h
    cases h2
    unfold svOf at h1
    split at h1 <;> first | rfl | (simp at h1; done) | skip
    split at h1 <;> simp at h1
  | global g => simp [opL] at h
  | func f => simp [opL] at h
theorem zu3 {x : SV} {u : Value} {l : Nat} (hH : HRel ρ H w) (h : lenOf H x = some l) (h0 : 0 < l) (hv : VRel ρ w x u) : ∃ ad c, u = .slice (some ad) l c := by
  unfold lenOf at h
  split at h
  · simp at h; subst h
    simp only [VRel, CRel] at hv
    obtain ⟨a, c, e, hc, hx⟩ := hv
    obtain ⟨ad, rfl, _⟩ := hx h0
    simp at e
    exact ⟨ad, c, e⟩
  · simp at h; omega
  · rename_i β off l'
    have key : ∃ x, H[β]? = some x ∧ x ≠ .dead ∧ l = l' := by
      split at h
      · rename_i hb; simp at h; exact ⟨_, hb, by simp, h.symm⟩
      · rename_i hb; simp at h; exact ⟨_, hb, by simp, h.symm⟩
      · simp at h
    obtain ⟨x, hb, hx, rfl⟩ := key
    simp only [VRel] at hv
    rcases hr : ρ β with _ | _ | _ | ⟨b, o, n, sz⟩ <;> rw [hr] at hv <;> simp only at hv
    · exact absurd hr (live_of hH hb hx)
    · obtain ⟨rfl, a, rfl⟩ := hv; omega
    · obtain ⟨_, a, c, rfl, hc, h4⟩ := hv
      rcases h4 with ⟨rfl, _⟩ | ⟨rfl, _⟩
      · omega
      · exact ⟨_, c, rfl⟩
  · rename_i β
    split at h
    · rename_i K xs t hb
      simp at h; subst h
      rcases own_rel hH hb (by simp) hv with ⟨hr, a, rfl⟩ | ⟨b, o, n, sz, c, hr, hc, rfl, _⟩
      · have := zbu hH hb hr; subst this; simp at h0
      · obtain ⟨_, hn, _⟩ := row_of hH hb hr
        exact ⟨_, c, by rw [hn]⟩
    · rename_i cs t z hb
      split at h
      · simp at h
      · rename_i hz
        simp at h; subst h
        rcases own_rel hH hb (by simp) hv with ⟨hr, a, rfl⟩ | ⟨b, o, n, sz, c, hr, hc, rfl, _⟩
        · have := zbv hH hb hr; subst this; simp at h0
        · obtain ⟨C, tC, _, hsz, hn, _⟩ := zy hH hb hr
          have : cs.length / z = n := by rw [hn, ← hsz]; exact Nat.mul_div_cancel _ (by omega)
          exact ⟨_, c, by rw [this]⟩
    · simp at h
  · simp at h
theorem zob {op : BinOp} {neg : Bool} {t e yt : TypeId} {x y : Operand} {sx : S} (hop : o.op = .binOp op t x y yt) (hn : (op = .eql ∧ neg = false) ∨ (op = .neq ∧ neg = true)) (hu : P.underlying t = some (.slice e))
    (hx : opL x = some sx) (hy : opL y = some (.c .nils))
    (ht : TRel ρ w τ a N) (hH : HRel ρ H w) (he : runI T (.nilt neg sx) τ H (fun v H => some (v, H)) = some (v, H')) : OpOK P o a m ρ H w v H' := by
  have vx := opL_rel ht hx
  have vy := zu2 (a := a) hy
  simp only [runI] at he
  split at he
  · rename_i l hl
    obtain ⟨h0, he⟩ := za he
    simp at he h0; obtain ⟨rfl, rfl⟩ := he
    obtain ⟨ad, c, e1⟩ := zu3 hH hl h0 vx
    have hg : ∀ w : World, (eqGuard op t x y (.slice (some ad) l c) (.slice none 0 0)).run P w = .ok () w := by
      intro w; unfold eqGuard; split <;> rfl
    have heq : (Op.equal t (.slice (some ad) l c) (.slice none 0 0)).run P w = .ok false w := by
      show (Op.equalIn (9999 + 1) t (.slice (some ad) l c) (.slice none 0 0)).run P w = .ok false w
      unfold Op.equalIn
      simp [run_underlying hu]
    refine OpOK.same hH (u := .bool neg) ?_ (by simp [VRel])
    rcases hn with ⟨rfl, rfl⟩ | ⟨rfl, rfl⟩ <;> simp [execOp, hop, e1, vy, hg, binOp, heq]
  · simp at he
theorem snd_ixs {t : TypeId} {s : ByteArray} {ix : Operand} {si : S} (hop : o.op = .index t (.const (.string s)) ix) (hu : P.underlying t = some .string) (hi : opL ix = some si)
    (ht : TRel ρ w τ a N) (hH : HRel ρ H w) (he : runI T (.ixs (s.data.toList.map UInt8.toNat) si) τ H (fun v H => some (v, H)) = some (v, H')) : OpOK P o a m ρ H w v H' := by
  have vi := opL_rel ht hi
  simp only [runI] at he
  split at he
  · rename_i k n e1
    rw [e1] at vi
    simp only [VRel] at vi
    obtain ⟨h0, he⟩ := za he
    obtain ⟨h1, he⟩ := za he
    simp only [decide_eq_true_eq, List.length_map, Array.length_toList] at h0 h1
    simp only [Option.some.injEq, Prod.mk.injEq] at he
    obtain ⟨rfl, rfl⟩ := he
    have hlt : n.toNat < s.data.size := by omega
    have hg : s[n.toNat]? = some s.data[n.toNat] := by
      show (if h : n.toNat < s.size then some s[n.toNat] else none) = _
      rw [dif_pos (show n.toNat < s.size from hlt)]; rfl
    have hd : (s.data.toList.map UInt8.toNat).getD n.toNat 0 = s.data[n.toNat].toNat := by
      rw [List.getD_eq_getElem?_getD, List.getElem?_map, Array.getElem?_toList, Array.getElem?_eq_getElem hlt]; rfl
    refine OpOK.same hH (u := .int .u8 (s.data[n.toNat].toNat : Int)) ?_ (by simp only [VRel]; rw [hd])
    have e0 : a.eval (.const (.string s)) = .string s := rfl
    simp [execOp, hop, Instr.index, e0, vi, asIntOf, run_underlying hu, h0, hg]
  · simp at he
theorem zu4 {x : Operand} {sx : S} {c : Call} {t e : TypeId} (hop : o.op = .call c) (hc : c.callee = .builtin .cap) (hargs : c.args = #[x]) (hty : c.argTypes = #[t]) (hu : P.underlying t = some (.slice e))
    (hx : opL x = some sx) (ht : TRel ρ w τ a N) (hH : HRel ρ H w) (he : runI T (.cap0 sx) τ H (fun v H => some (v, H)) = some (v, H')) : OpOK P o a m ρ H w v H' := by
  have vx := opL_rel ht hx
  simp only [runI] at he
  split at he
  · rename_i hl
    simp at he; obtain ⟨rfl, rfl⟩ := he
    rw [hl] at vx
    simp only [VRel] at vx
    obtain ⟨ad, hv⟩ := vx
    refine OpOK.same hH (u := .int .i64 0) ?_ (by simp [VRel])
    simp [execOp, hop, resolve, hc, hargs, hty, invoke, builtin, Builtin.cap_, run_underlying hu, hv, goInt]
  · simp at he
theorem zu5 {z : Array Value} {n k : Nat} (h : k < n * z.size) : (Builtin.zeroCells z n)[k]? = z[k % z.size]? := by
  have hz : 0 < z.size := by
    rcases Nat.eq_zero_or_pos z.size with h0 | h0
    · rw [h0] at h; omega
    · exact h0
  have hm : k % z.size < z.size := Nat.mod_lt _ hz
  unfold Builtin.zeroCells
  rw [Array.getElem?_map, Array.getElem?_range, if_pos h]
  simp [hm]
theorem zu6 {t t' ty e : TypeId} {i : TypeInfo} {z : Value} {k k' : IntKind} {as : Option Addr} {n : Nat} (ht : P.underlying t = some (.slice e)) (ht' : P.underlying t' = some (.int k')) (hi : P.info? e = some i) (hz : i.zero = some z) (hzs : z.cells.size = i.size) (hsz : i.size ≠ 0)
    (h0 : 0 < n) (hlim : n < LIM) (hb : i.bytes ≤ 32768) :
    ∃ (cap : Nat) (C : Array Value), n ≤ cap ∧ C.size = cap * i.size ∧ (∀ (j : Nat), j < n * i.size → C[j]? = z.cells[j % i.size]?) ∧
      (Builtin.append_ #[t, t'] ty #[.slice as 0 0, .int k (n : Int)]).run P w = .ok (.slice (some ⟨w.heap.size, 0, none⟩) n cap) (w.drew.alloc (.cells C e (0, 0))) := by
  have hfo := zd2 (P := P) (w := w.drew) (sz := i.size) (n := 0) (cx := 0) (ax := as) (news := []) (by simp) (by simp)
  have hcap : n ≤ grownCap w (0 + n) 0 e := by unfold grownCap Question.cut; simp
  have hn63 : (n : Int) < 4294967296 := by simp only [LIM] at hlim; omega
  have hw : IntKind.i64.wrap (n : Int) = (n : Int) := by
    unfold IntKind.wrap
    simp only [show IntKind.i64.bits = 64 from rfl, show IntKind.i64.signed = true from rfl, Bool.true_and, decide_eq_true_eq]
    rw [show (2 : Int) ^ 64 = 18446744073709551616 from by decide, show (2 : Int) ^ (64 - 1) = 9223372036854775808 from by decide]
    split <;> omega
  have hnn : n ≠ 0 := by omega
  have hneg : ¬ ((n : Int) < 0) := by omega
  have hbig : ¬ (281474976710656 < (n : Int) * (i.bytes : Int)) := by
    have h1 : n * i.bytes ≤ n * 32768 := Nat.mul_le_mul_left _ hb
    have h2 : (n : Int) * (i.bytes : Int) = ((n * i.bytes : Nat) : Int) := by simp
    rw [h2]; omega
  have h63 : ¬ (9223372036854775807 < (n : Int)) := by omega
  have h48 : ¬ (281474976710656 < Builtin.nextslicecap n 0 * i.bytes) := by
    have h1 := nextslicecap_le (need := n) (old := 0) h0
    have h2 : Builtin.nextslicecap n 0 * i.bytes ≤ (2 * n) * 32768 := Nat.mul_le_mul h1 hb
    simp only [LIM] at hlim
    omega
  have hns : ¬ (n = 0 ∨ i.size = 0) := by omega
  refine ⟨grownCap w (0 + n) 0 e, Builtin.zeroCells z.cells n ++ Builtin.zeroCells z.cells (grownCap w (0 + n) 0 e - n), hcap, ?_, ?_, ?_⟩
  · simp only [Array.size_append, Builtin.zeroCells, Array.size_map, Array.size_range, hzs, ← Nat.add_mul]
    congr 1; omega
  · intro j hj
    rw [Array.getElem?_append_left (by simp [Builtin.zeroCells, hzs]; exact hj), zu5 (by rw [hzs]; exact hj), hzs]
  · simp [Builtin.append_, run_underlying ht, run_underlying ht', sizeOf, typeInfo, zeroValue, hi, hz, Builtin.lenOf, asInt, asIntOf, hw, hneg, hbig, hnn, h63, h48, hns, hsz, Question.forced, hfo, newRow, grownCap]
    intro h
    rcases Nat.mul_eq_zero.1 h with h | h <;> omega
theorem zu7 {t t' ty e : TypeId} {i : TypeInfo} {k k' : IntKind} {as : Option Addr} (ht : P.underlying t = some (.slice e)) (ht' : P.underlying t' = some (.int k')) (hi : P.info? e = some i) :
    (Builtin.append_ #[t, t'] ty #[.slice as 0 0, .int k 0]).run P w = .ok (.slice as 0 0) w := by
  have hw : IntKind.i64.wrap 0 = 0 := by decide
  cases as with
  | none => simp [Builtin.append_, run_underlying ht, run_underlying ht', sizeOf, typeInfo, hi, Builtin.lenOf, asInt, asIntOf, hw]
  | some ad => simp [Builtin.append_, run_underlying ht, run_underlying ht', sizeOf, typeInfo, hi, Builtin.lenOf, asInt, asIntOf, hw, storeCells]
theorem zu8 {c : Call} {t t' e : TypeId} {s x : Operand} {ss sx : S} {K : Kd} {k' : IntKind} {sz by_ : Nat} {zs : List SV} (hop : o.op = .call c) (hc : c.callee = .builtin .append) (hargs : c.args = #[s, x]) (hty : c.argTypes = #[t, t'])
    (hu : P.underlying t = some (.slice e)) (hu' : P.underlying t' = some (.int k')) (hz : tinfo P e = some (sz, zs, by_)) (hb : by_ ≤ 32768) (hK : K.sz = sz) (h0 : isZero K zs = true) (hsz : sz ≠ 0)
    (hs : opL s = some ss) (hx : opL x = some sx) (ht : TRel ρ w τ a N) (hH : HRel ρ H w) (hun : ρ H.length = .unborn)
    (he : runI T (.appz K e ss sx) τ H (fun v H => some (v, H)) = some (v, H')) : OpOK P o a m ρ H w v H' := by
  have vs := opL_rel ht hs
  have vx := opL_rel ht hx
  obtain ⟨i, z, hi, hzz, rfl, rfl, hsv, hzl⟩ := zL hz
  have hzr : VRels ρ w zs z.cells.toList := svsOf_rel hsv
  have hzs : z.cells.size = i.size := by
    have := hzr.length
    simp only [Array.length_toList] at this; omega
  simp only [runI] at he
  split at he
  · rename_i k n e1 e2
    rw [e1] at vs; rw [e2] at vx
    simp only [VRel] at vs vx
    obtain ⟨as, hva⟩ := vs
    obtain ⟨g0, he⟩ := za he
    obtain ⟨g1, he⟩ := za he
    simp only [decide_eq_true_eq] at g0 g1
    simp only [Option.some.injEq, Prod.mk.injEq] at he
    obtain ⟨rfl, rfl⟩ := he
    obtain ⟨n, rfl⟩ : ∃ j : Nat, n = (j : Int) := ⟨n.toNat, by omega⟩
    simp only [Int.toNat_natCast] at g1 ⊢
    have fin : ∀ {u : Value} {w' : World} {ρ' : Map}, (Builtin.append_ #[t, t'] o.type #[a.eval s, a.eval x]).run P w = .ok u w' → Good m ρ H w (.own H.length) (kill [] H ++ [.arr K (List.replicate n K.dflt) e]) u w' ρ' → OpOK P o a m ρ H w (.own H.length) (H ++ [.arr K (List.replicate n K.dflt) e]) := by
      intro u w' ρ' hr hg
      refine OpOK.value ?_ hg
      simp [execOp, hop, resolve, hc, hargs, hty, invoke, builtin, hr]
    rw [hva, vx] at fin
    rcases Nat.eq_zero_or_pos n with hn | hn
    · subst hn
      refine fin (zu7 hu hu' hi) (zM (rs := []) hH hun ((Step.kill []).trans (Step.ghost H.length .none_ (by simp) (zD hun))) (fun _ _ _ _ _ _ _ => rfl) (fun _ _ _ => rfl) (.inl ⟨rfl, .inl ⟨K, e, rfl⟩⟩) (fun h => ⟨rfl, fun _ _ => rfl⟩) ?_)
      simp only [VRel, Map.put_same]
      exact ⟨_, rfl⟩
    · obtain ⟨cap, C, hcap, hCs, hCz, hrun⟩ := zu6 (P := P) (w := w) (ty := o.type) (k := k) (as := as) hu hu' hi hzz hzs hsz hn g1 hb
      have hst := Step.realloc (ρ := ρ) (w := w) (rs := []) C e n i.size hun
      have hmul : n * i.size ≤ cap * i.size := Nat.mul_le_mul_right _ hcap
      have hnew : (w.drew.alloc (.cells C e (0, 0))).heap[w.heap.size]? = some (.cells C e (0, 0)) := heap_alloc_new w.drew _
      refine fin hrun (zM (rs := []) hH hun hst (fun γ b' o' n' sz' hγ hr' => ?_) (fun b2 t2 hv2 => by first | exact zbs (hH.vlt hv2) | exact ziQ (hH.vlt hv2)) (.inr ⟨w.heap.size, 0, n, i.size, rfl, by simp, fun h => ?_, fun γ o' n' sz' hγ hr' => ?_, ?_⟩) (fun h => ⟨rfl, fun b hb => by simp only [World.alloc]; rw [Array.getElem?_push, if_neg (by simp; omega)]; rfl⟩) ?_)
      · have := hH.lt _ _ _ _ _ hr'
        simp only [World.alloc]; rw [Array.getElem?_push, if_neg (by simp; omega)]; rfl
      · have := hH.resl _ h; omega
      · have := hH.lt _ _ _ _ _ hr'; omega
      · simp only [BRel]
        refine ⟨by simp, hK, C, e, hnew, by omega, fun j x hx => ?_⟩
        have hj : j < n := by have := (List.getElem?_eq_some_iff.1 hx).1; simpa using this
        rw [List.getElem?_replicate, if_pos hj] at hx
        cases hx
        refine ⟨z.cells.toList, (zf1 h0 hzr).step hst, fun q u hq => ?_⟩
        have hq' : q < i.size := by have := (List.getElem?_eq_some_iff.1 hq).1; simp at this; omega
        have hle : (j + 1) * i.size ≤ n * i.size := Nat.mul_le_mul_right _ (by omega)
        rw [Nat.add_mul] at hle
        rw [Nat.zero_add, hK, hCz _ (by omega), Nat.mul_comm, Nat.mul_add_mod, Nat.mod_eq_of_lt hq']
        simpa using hq
      · simp only [VRel, Map.put_same]
        exact ⟨cap, hcap, rfl, C, e, hnew, by omega⟩
  · simp at he
mutual
theorem frzV_sound {R : Type} {r : R} : ∀ (v : SV) {u : Value} {ρ : Map} {H : Heap} {k : SV → Heap → Option R}, HRel ρ H w → VRel ρ w v u → frzV v H k = some r →
    ∃ v' H' ρ', k v' H' = some r ∧ HRel ρ' H' w ∧ VRel ρ' w v' u ∧ Step ρ w ρ' w ∧ H'.length = H.length ∧ ∀ β, ρ β = .unborn → ρ' β = .unborn
  | .own β, u, ρ, H, k, hH, hv, he => by
    simp only [frzV] at he
    split at he
    · rename_i e xs t hb
      have hd : decH false H (.list e) [.own β] = some xs := by simp [decH, hb]
      refine ⟨_, _, ρ.kill [β], he, hH.kill _, ?_, Step.kill _, by simp [zk], fun γ h => zD h⟩
      simp only [VRel]
      exact zC (dp := false) (B := Free (ρ.kill [β]) w) hH (fun b h => h.step (Step.kill _)) (fun h => by cases h) (fun γ b o n sz hg hr => zf0 hH (by simpa [SV.refsL, SV.refs] using hg) hr) hd (VRels.single hv)
    · exact ⟨_, _, ρ, he, hH, hv, Step.refl _ _, rfl, fun _ h => h⟩
  | .agg cs, u, ρ, H, k, hH, hv, he => by
    simp only [frzV] at he
    simp only [VRel] at hv
    obtain ⟨vs, rfl, h1⟩ := hv
    obtain ⟨l, H', ρ', h2, h3, h4, h5, h6, h7⟩ := frzL_sound cs hH h1 he
    exact ⟨_, H', ρ', h2, h3, by simp only [VRel]; exact ⟨vs, rfl, h4⟩, h5, h6, h7⟩
  | .tup cs, u, ρ, H, k, hH, hv, he => by
    simp only [frzV] at he
    simp only [VRel] at hv
    obtain ⟨vs, rfl, h1⟩ := hv
    obtain ⟨l, H', ρ', h2, h3, h4, h5, h6, h7⟩ := frzL_sound cs hH h1 he
    exact ⟨_, H', ρ', h2, h3, by simp only [VRel]; exact ⟨vs, rfl, h4⟩, h5, h6, h7⟩
  | .junk, u, ρ, H, k, hH, hv, he => ⟨_, _, ρ, by simpa only [frzV] using he, hH, hv, Step.refl _ _, rfl, fun _ h => h⟩
  | .int _ _, u, ρ, H, k, hH, hv, he => ⟨_, _, ρ, by simpa only [frzV] using he, hH, hv, Step.refl _ _, rfl, fun _ h => h⟩
  | .bool _, u, ρ, H, k, hH, hv, he => ⟨_, _, ρ, by simpa only [frzV] using he, hH, hv, Step.refl _ _, rfl, fun _ h => h⟩
  | .nilp, u, ρ, H, k, hH, hv, he => ⟨_, _, ρ, by simpa only [frzV] using he, hH, hv, Step.refl _ _, rfl, fun _ h => h⟩
  | .ptr _ _, u, ρ, H, k, hH, hv, he => ⟨_, _, ρ, by simpa only [frzV] using he, hH, hv, Step.refl _ _, rfl, fun _ h => h⟩
  | .aptr _ _ _, u, ρ, H, k, hH, hv, he => ⟨_, _, ρ, by simpa only [frzV] using he, hH, hv, Step.refl _ _, rfl, fun _ h => h⟩
  | .eptr _ _ _, u, ρ, H, k, hH, hv, he => ⟨_, _, ρ, by simpa only [frzV] using he, hH, hv, Step.refl _ _, rfl, fun _ h => h⟩
  | .nils, u, ρ, H, k, hH, hv, he => ⟨_, _, ρ, by simpa only [frzV] using he, hH, hv, Step.refl _ _, rfl, fun _ h => h⟩
  | .sub _ _ _, u, ρ, H, k, hH, hv, he => ⟨_, _, ρ, by simpa only [frzV] using he, hH, hv, Step.refl _ _, rfl, fun _ h => h⟩
  | .es _ _, u, ρ, H, k, hH, hv, he => ⟨_, _, ρ, by simpa only [frzV] using he, hH, hv, Step.refl _ _, rfl, fun _ h => h⟩
  | .arrv _ _, u, ρ, H, k, hH, hv, he => ⟨_, _, ρ, by simpa only [frzV] using he, hH, hv, Step.refl _ _, rfl, fun _ h => h⟩
  | .fn _ _ _, u, ρ, H, k, hH, hv, he => ⟨_, _, ρ, by simpa only [frzV] using he, hH, hv, Step.refl _ _, rfl, fun _ h => h⟩
  | .nilf, u, ρ, H, k, hH, hv, he => ⟨_, _, ρ, by simpa only [frzV] using he, hH, hv, Step.refl _ _, rfl, fun _ h => h⟩
  | .iface _ _, u, ρ, H, k, hH, hv, he => ⟨_, _, ρ, by simpa only [frzV] using he, hH, hv, Step.refl _ _, rfl, fun _ h => h⟩
  | .nili, u, ρ, H, k, hH, hv, he => ⟨_, _, ρ, by simpa only [frzV] using he, hH, hv, Step.refl _ _, rfl, fun _ h => h⟩
theorem frzL_sound {R : Type} {r : R} : ∀ (cs : List SV) {us : List Value} {ρ : Map} {H : Heap} {k : List SV → Heap → Option R}, HRel ρ H w → VRels ρ w cs us → frzL cs H k = some r →
    ∃ l H' ρ', k l H' = some r ∧ HRel ρ' H' w ∧ VRels ρ' w l us ∧ Step ρ w ρ' w ∧ H'.length = H.length ∧ ∀ β, ρ β = .unborn → ρ' β = .unborn
  | [], us, ρ, H, k, hH, hv, he => ⟨_, _, ρ, by simpa only [frzL] using he, hH, hv, Step.refl _ _, rfl, fun _ h => h⟩
  | c :: cs, us, ρ, H, k, hH, hv, he => by
    simp only [frzL] at he
    simp only [VRels] at hv
    obtain ⟨u, us', rfl, h1, h2⟩ := hv
    obtain ⟨v', H1, ρ1, h3, h4, h5, h6, h7, h8⟩ := frzV_sound c hH h1 he
    obtain ⟨l, H2, ρ2, g3, g4, g5, g6, g7, g8⟩ := frzL_sound cs h4 (h2.step h6) h3
    refine ⟨_, H2, ρ2, g3, g4, ?_, h6.trans g6, g7.trans h7, fun β h => g8 β (h8 β h)⟩
    simp only [VRels]
    exact ⟨u, us', rfl, h5.step g6, g5⟩
end
mutual
theorem frzV_nat : ∀ (v : SV) {R : Type} (H : Heap) (k : SV → Heap → Option R), frzV v H k = (frzV v H (fun v H => some (v, H))).bind fun p => k p.1 p.2
  | .own β, R, H, k => by simp only [frzV]; split <;> rfl
  | .agg cs, R, H, k => by
    simp only [frzV]
    rw [frzL_nat cs H, frzL_nat cs H (fun l H => some (SV.agg l, H)), Option.bind_assoc]; rfl
  | .tup cs, R, H, k => by
    simp only [frzV]
    rw [frzL_nat cs H, frzL_nat cs H (fun l H => some (SV.tup l, H)), Option.bind_assoc]; rfl
  | .junk, R, H, k | .int _ _, R, H, k | .bool _, R, H, k | .nilp, R, H, k | .ptr _ _, R, H, k | .aptr _ _ _, R, H, k | .eptr _ _ _, R, H, k | .nils, R, H, k | .sub _ _ _, R, H, k | .es _ _, R, H, k | .arrv _ _, R, H, k | .fn _ _ _, R, H, k | .nilf, R, H, k | .iface _ _, R, H, k | .nili, R, H, k => by
    simp only [frzV]; rfl
theorem frzL_nat : ∀ (cs : List SV) {R : Type} (H : Heap) (k : List SV → Heap → Option R), frzL cs H k = (frzL cs H (fun v H => some (v, H))).bind fun p => k p.1 p.2
  | [], R, H, k => by simp only [frzL]; rfl
  | c :: cs, R, H, k => by
    simp only [frzL]
    rw [frzV_nat c H, frzV_nat c H (fun v H => frzL cs H fun l H => some (v :: l, H)), Option.bind_assoc]
    congr 1; funext p
    show frzL cs p.2 _ = Option.bind (frzL cs p.2 _) _
    rw [frzL_nat cs p.2, frzL_nat cs p.2 (fun l H => some (p.1 :: l, H)), Option.bind_assoc]; rfl
end
end
end Go.Proofs.Ytmkekjmckdkcnaa.Den
namespace Go.Proofs.Ytmkekjmckdkcnaa.Den
open Go Go.RowKit
def Unb (ρ : Map) (H H' : Heap) : Prop := ∀ β, H.length ≤ β → β < H'.length → ρ β = .unborn
def TESound (P : Program) (f : FuncId) (te : TE) : Prop :=
  ∀ (ρ : Map) (H : Heap) (w : World) (args : List SV) (vs : List Value) (x : te.X) (y : te.Y) (v : SV) (H' : Heap), HRel ρ H w → VRels ρ w args vs → Unb ρ H H' →
    te.view args H = some x → te.fn x = some y → te.put x y args H = some (v, H') →
    Calls P f vs.toArray w fun e w' => ∃ u ρ', e = .returned u ∧ Good te.mono ρ H w v H' u w' ρ'
structure ISound (P : Program) (f : FuncId) (ie : IE) : Prop where
  snd : ∀ (ρ : Map) (H : Heap) (w : World) (args : List SV) (vs : List Value) (v : SV) (H' : Heap), HRel ρ H w → (∀ β, H.length ≤ β → ρ β = .unborn) → VRels ρ w args vs →
    ie.go (SV × Heap) args H (fun v H => some (v, H)) = some (v, H') → Calls P f vs.toArray w fun e w' => ∃ u ρ', e = .returned u ∧ Good false ρ H w v H' u w' ρ'
  fn : ∃ fn, P.funcs[f]? = some fn ∧ fn.name ≠ "runtime.NumGoroutine" ∧ fn.body.isSome = true
structure TabOK (P : Program) (T : Tab) : Prop where
  inl : ∀ f ie, T.inl f = some ie → ISound P f ie
  te : ∀ f te, te ∈ T.te f → TESound P f te
  fn : ∀ f te, te ∈ T.te f → ∃ fn, P.funcs[f]? = some fn ∧ fn.name ≠ "runtime.NumGoroutine" ∧ fn.body.isSome = true
  ext : ∀ f te, te ∈ T.te f → te.mono = true → ∀ x y args H v H', te.put x y args H = some (v, H') → ∃ Δ, H' = H ++ Δ
  tch : ∀ f te, te ∈ T.te f → ∀ x y args H v H', te.view args H = some x → te.put x y args H = some (v, H') → H.length ≤ H'.length ∧ ∀ γ, γ < H.length → γ ∉ (args.headD .junk).refs → H'[γ]? = H[γ]?
  meth : ∀ t m f, T.meth t m = some f → ∀ v args w, (callMethod (.iface t v) m args).run P w = .ok (.enter f (#[v] ++ args)) w
section
variable {P : Program} {o : Oper} {a : Act} {m : Bool} {ρ : Map} {H H' : Heap} {w w' : World} {τ : Env} {N : Nat} {T : Tab} {v : SV}
theorem OpOK.call {f : FuncId} {args : Array Value} (hr : (execOp a.eval o).run P w = .ok (.enter f args) w)
    (hc : Calls P f args w fun e w' => ∃ u ρ', e = .returned u ∧ Good m ρ H w v H' u w' ρ') : OpOK P o a m ρ H w v H' := by
  intro K Q hK
  unfold Oper.wp
  rw [hr]
  simp only [Oper.upon]
  refine Calls.mono hc fun e w'' he => ?_
  obtain ⟨u, ρ', rfl, hg⟩ := he
  exact hK u w'' ρ' hg
theorem zi2 {f : FuncId} {args : List SV} (h : callI T f args H (fun v H => some (v, H)) = some (v, H')) :
    ∃ te x y, te ∈ T.te f ∧ te.view args H = some x ∧ te.fn x = some y ∧ te.put x y args H = some (v, H') := by
  unfold callI at h
  generalize T.te f = l at h
  induction l with
  | nil => simp [callL] at h
  | cons te r ih =>
    simp only [callL] at h
    split at h
    · obtain ⟨te', x, y, h1, h2⟩ := ih h
      exact ⟨te', x, y, List.mem_cons_of_mem _ h1, h2⟩
    · rename_i x hx
      rw [Option.bind_eq_some_iff] at h
      obtain ⟨y, hy, h⟩ := h
      split at h
      · rename_i v2 H2 hp
        simp at h
        obtain ⟨rfl, rfl⟩ := h
        exact ⟨te, x, y, List.mem_cons_self .., hx, hy, hp⟩
      · simp at h
theorem zu9 {R : Type} {r : R} {f : FuncId} {args : List SV} {k : SV → Heap → Option R} (h : callI T f args H k = some r) :
    ∃ te x y v H', te ∈ T.te f ∧ te.view args H = some x ∧ te.fn x = some y ∧ te.put x y args H = some (v, H') ∧ k v H' = some r := by
  unfold callI at h
  generalize T.te f = l at h
  induction l with
  | nil => simp [callL] at h
  | cons te rs ih =>
    simp only [callL] at h
    split at h
    · obtain ⟨te', x, y, v, H', h1, h2⟩ := ih h
      exact ⟨te', x, y, v, H', List.mem_cons_of_mem _ h1, h2⟩
    · rename_i x hx
      rw [Option.bind_eq_some_iff] at h
      obtain ⟨y, hy, h⟩ := h
      split at h
      · rename_i v2 H2 hp
        exact ⟨te, x, y, v2, H2, List.mem_cons_self .., hx, hy, hp, h⟩
      · simp at h
mutual
theorem frzV_len {R : Type} {H1 : Heap} {v : R} : ∀ (s : SV) {H : Heap} {k : SV → Heap → Option (R × Heap)}, frzV s H k = some (v, H1) → (∀ v' H', k v' H' = some (v, H1) → H1.length = H'.length) → H1.length = H.length
  | .own β, H, k, h, hk => by
    simp only [frzV] at h
    split at h
    · rw [hk _ _ h]; simp [zk]
    · exact hk _ _ h
  | .agg cs, H, k, h, hk => by simp only [frzV] at h; exact frzL_len cs h fun l H' h' => hk _ _ h'
  | .tup cs, H, k, h, hk => by simp only [frzV] at h; exact frzL_len cs h fun l H' h' => hk _ _ h'
  | .junk, H, k, h, hk | .int _ _, H, k, h, hk | .bool _, H, k, h, hk | .nilp, H, k, h, hk | .ptr _ _, H, k, h, hk | .aptr _ _ _, H, k, h, hk | .eptr _ _ _, H, k, h, hk | .nils, H, k, h, hk | .sub _ _ _, H, k, h, hk | .es _ _, H, k, h, hk | .arrv _ _, H, k, h, hk | .fn _ _ _, H, k, h, hk | .nilf, H, k, h, hk | .iface _ _, H, k, h, hk | .nili, H, k, h, hk => by
    simp only [frzV] at h; exact hk _ _ h
theorem frzL_len {R : Type} {H1 : Heap} {v : R} : ∀ (cs : List SV) {H : Heap} {k : List SV → Heap → Option (R × Heap)}, frzL cs H k = some (v, H1) → (∀ v' H', k v' H' = some (v, H1) → H1.length = H'.length) → H1.length = H.length
  | [], H, k, h, hk => by simp only [frzL] at h; exact hk _ _ h
  | c :: cs, H, k, h, hk => by
    simp only [frzL] at h
    exact frzV_len c h fun v' H' h' => frzL_len cs h' fun l H2 h2 => hk _ _ h2
end
theorem zoc {f : FuncId} {as : List S} {te : TE} (h : te ∈ T.te f) (hm : (I.call f as).mono T = true) : te.mono = true := by
  simp only [I.mono] at hm
  split at hm
  · rename_i te' r e
    rw [e] at h
    simp only [Bool.and_eq_true, List.all_eq_true] at hm
    rcases List.mem_cons.1 h with rfl | h
    · exact hm.1
    · exact hm.2 _ h
  · cases hm
theorem zod {f : FuncId} {fn : Func} {args : Array Value} (hf : P.funcs[f]? = some fn) (hn : fn.name ≠ "runtime.NumGoroutine") (hb : fn.body.isSome = true) : (callFunc f args).run P w = .ok (.enter f args) w := by
  have hb' : fn.body.isNone = false := by cases hh : fn.body <;> simp [hh] at hb ⊢
  have hne : fn.body ≠ none := fun h => by rw [h] at hb; cases hb
  simp only [callFunc, Sem.run_bind, run_program, Result.andThen_ok, hf, beq_iff_eq, hn, if_false, hb', Bool.false_eq_true]
  rfl
theorem zi3 {f : FuncId} {as : List SV} {vs : List Value} (hT : TabOK P T) (hH : HRel ρ H w) (hun : Unb ρ H H') (hv : VRels ρ w as vs) (hm : ∀ te, te ∈ T.te f → m = true → te.mono = true)
    (he : callI T f as H (fun v H => some (v, H)) = some (v, H')) (hr : ∀ fn, P.funcs[f]? = some fn → fn.name ≠ "runtime.NumGoroutine" → fn.body.isSome = true → (execOp a.eval o).run P w = .ok (.enter f vs.toArray) w) : OpOK P o a m ρ H w v H' := by
  obtain ⟨te, x, y, h1, h2, h3, h4⟩ := zi2 he
  obtain ⟨fn, h5, h6, h7⟩ := hT.fn f te h1
  refine OpOK.call (hr fn h5 h6 h7) (Calls.mono (hT.te f te h1 ρ H w as vs x y v H' hH hv hun h2 h3 h4) fun e w'' h => ?_)
  obtain ⟨u, ρ', e1, hg⟩ := h
  refine ⟨u, ρ', e1, ?_⟩
  cases m with
  | true => exact (hm te h1 rfl) ▸ hg
  | false => exact ⟨hg.step, hg.hrel, hg.vrel, hg.len, hg.unb, by simp⟩
theorem zva {f : FuncId} {as : List SV} {vs : List Value} (hT : TabOK P T) (hH : HRel ρ H w) (hun : Unb ρ H H') (hv : VRels ρ w as vs)
    (he : frzL as H (fun as H => callI T f as H (fun v H => frzV v H (fun v H => some (v, H)))) = some (v, H')) (hr : ∀ fn, P.funcs[f]? = some fn → fn.name ≠ "runtime.NumGoroutine" → fn.body.isSome = true → (execOp a.eval o).run P w = .ok (.enter f vs.toArray) w) : OpOK P o a false ρ H w v H' := by
  obtain ⟨as0, H0, ρ0, he, hH0, hv0, hst0, hlen0, hub0⟩ := frzL_sound as hH hv he
  obtain ⟨te, x, y, v1, H1, h1, h2, h3, h4, he2⟩ := zu9 he
  have hlen : H'.length = H1.length := by
    have key : ∀ (v1 : SV) (H1 : Heap), frzV v1 H1 (fun v H => some (v, H)) = some (v, H') → H'.length = H1.length := fun v1 H1 h => frzV_len v1 h fun v' H' h' => by simp only [Option.some.injEq, Prod.mk.injEq] at h'; rw [h'.2]
    exact key v1 H1 he2
  obtain ⟨fn, h5, h6, h7⟩ := hT.fn f te h1
  refine OpOK.call (hr fn h5 h6 h7) (Calls.mono (hT.te f te h1 ρ0 H0 w as0 vs x y v1 H1 hH0 hv0 (fun β g1 g2 => hub0 β (hun β (by rw [← hlen0]; exact g1) (by rw [hlen]; exact g2))) h2 h3 h4) fun e w'' h => ?_)
  obtain ⟨u, ρ', e1, hg⟩ := h
  obtain ⟨v2, H2, ρ2, g1, g2, g3, g4, g5, g6⟩ := frzV_sound v1 hg.hrel hg.vrel he2
  simp only [Option.some.injEq, Prod.mk.injEq] at g1
  obtain ⟨rfl, rfl⟩ := g1
  exact ⟨u, ρ2, e1, (hst0.trans hg.step).trans g4, g2, g3, by rw [g5, ← hlen0]; exact hg.len, fun β k1 k2 => g6 β (hg.unb β (hub0 β k1) (by rw [← g5]; exact k2)), by simp⟩
theorem zvb {xs : Array Operand} {ss : List S} (h : opsL xs.toList = some ss) (ht : TRel ρ w τ a N) : VRels ρ w (ss.map (S.ev τ)) (xs.map a.eval).toList := by
  have := zfW ht h
  simpa using this
end
section
variable {P : Program} {o : Oper} {a : Act} {m : Bool} {ρ : Map} {H H' : Heap} {w w' : World} {τ : Env} {N : Nat} {T : Tab} {v : SV} {frz : Bool} {i : I}
theorem arr_one {α : Type} {xs : Array α} {x : α} (h : xs.toList = [x]) : xs = #[x] := by
  apply Array.ext'; simpa using h
theorem arr_two {α : Type} {xs : Array α} {x y : α} (h : xs.toList = [x, y]) : xs = #[x, y] := by
  apply Array.ext'; simpa using h
theorem zoe {xs : Array Operand} {s : S} (h : opsL xs.toList = some [s]) : ∃ x, xs = #[x] ∧ opL x = some s := by
  have hl := zf2 h
  match e : xs.toList with
  | [x] =>
    rw [e] at h
    refine ⟨x, arr_one e, ?_⟩
    simp only [opsL] at h
    split at h
    · rename_i p q h1 h2; simp at h; rw [h1, h.1]
    · simp at h
  | [] => rw [e] at hl; simp at hl
  | _ :: _ :: _ => rw [e] at hl; simp at hl
theorem zf3 {xs : Array Operand} {s t : S} (h : opsL xs.toList = some [s, t]) : ∃ x y, xs = #[x, y] ∧ opL x = some s ∧ opL y = some t := by
  have hl := zf2 h
  match e : xs.toList with
  | [x, y] =>
    rw [e] at h
    refine ⟨x, y, arr_two e, ?_⟩
    simp only [opsL] at h
    split at h
    · rename_i p q h1 h2
      split at h2
      · rename_i p2 q2 h3 h4
        simp at h h2
        obtain ⟨rfl, rfl⟩ := h
        simp at h2
        exact ⟨h1, by rw [h3, h2.1]⟩
      · simp at h2
    · simp at h
  | [] => rw [e] at hl; simp at hl
  | [_] => rw [e] at hl; simp at hl
  | _ :: _ :: _ :: _ => rw [e] at hl; simp at hl
theorem zof {rs : List Nat} {x : Blk} : (kill rs H ++ [x]).length = H.length + 1 := by simp [zk]
theorem app_len {K : Option Kd} {sz : Nat} {t : TypeId} {s x : SV} (h : appI H K sz t s x (fun v H => some (v, H)) = some (v, H')) : H.length < H'.length := by
  have fin : ∀ {rs : List Nat} {y : Blk}, H' = kill rs H ++ [y] → H.length < H'.length := fun h => by rw [h, zof]; omega
  unfold appI at h
  have ⟨_, h⟩ := (zd h).resolve_right (by simp)
  unfold appB at h
  split at h
  · split at h
    · split at h
      · obtain ⟨_, h⟩ := za h
        simp only [Option.some.injEq, Prod.mk.injEq] at h
        exact fin h.2.symm
      · simp at h
    · split at h
      · split at h
        · simp only [Option.some.injEq, Prod.mk.injEq] at h
          exact fin h.2.symm
        · simp at h
      · simp at h
  · split at h
    · split at h
      · simp only [Option.some.injEq, Prod.mk.injEq] at h
        exact fin h.2.symm
      · simp at h
    · simp at h
theorem box_len {t : TypeId} {x : S} (h : runI T (.box t x) τ H (fun v H => some (v, H)) = some (v, H')) : H.length < H'.length := by
  simp only [runI] at h
  split at h
  · simp at h; rw [← h.2]; simp
  · split at h
    · simp at h; rw [← h.2]; simp
    · simp at h
theorem mk_len {K : Option Kd} {zs : List SV} {t : TypeId} {n c : S} (h : runI T (.mk K zs t n (some c)) τ H (fun v H => some (v, H)) = some (v, H')) : H.length < H'.length := by
  have fin : ∀ {y : Blk}, H' = H ++ [y] → H.length < H'.length := fun h => by rw [h]; simp
  simp only [runI, mkI, Option.map_some] at h
  split at h
  · split at h
    · rename_i e; simp at e
    · split at h
      · obtain ⟨_, h⟩ := za h
        obtain ⟨_, h⟩ := za h
        obtain ⟨_, h⟩ := za h
        simp only [Option.some.injEq, Prod.mk.injEq] at h
        exact fin h.2.symm
      · split at h
        · split at h
          · simp only [Option.some.injEq, Prod.mk.injEq] at h
            exact fin h.2.symm
          · simp at h
        · simp at h
    · simp at h
  · simp at h
theorem zvc {K : Kd} {t : TypeId} {s n : S} (h : runI T (.appz K t s n) τ H (fun v H => some (v, H)) = some (v, H')) : H.length < H'.length := by
  simp only [runI] at h
  split at h
  · obtain ⟨_, h⟩ := za h
    obtain ⟨_, h⟩ := za h
    simp only [Option.some.injEq, Prod.mk.injEq] at h
    rw [← h.2]; simp
  · simp at h
theorem ldS_run {frz : Bool} {n : Nat} {ag : Bool} {x : S} (h : runI T (ldS frz n ag x) τ H (fun v H => some (v, H)) = some (v, H')) : runI T (.ld n ag x) τ H (fun v H => some (v, H)) = some (v, H') := by
  unfold ldS at h
  split at h
  · split at h
    · rename_i s
      simp only [runI] at h ⊢
      have e : S.ev τ (.t s) = Tm.get τ s := rfl
      rw [e]
      split at h
      · rename_i β off e1
        simp only [e1]
        split at h
        · rename_i cs t z e2
          simp only [ldI, e2]; exact h
        · simp at h
      · simp at h
    · exact h
  · exact h
theorem zvd (hT : TabOK P T) (hl : lightOp P frz o = some i) (hm : m = true → i.mono T = true) (ht : TRel ρ w τ a N) (hH : HRel ρ H w) (hun : Unb ρ H H') (hux : m = false → ∀ β, H.length ≤ β → ρ β = .unborn)
    (he : runI T i τ H (fun v H => some (v, H)) = some (v, H')) : OpOK P o a m ρ H w v H' := by
  have unb1 : ∀ {x : Blk}, H' = H ++ [x] → ρ H.length = .unborn := fun h => hun _ (Nat.le_refl _) (by rw [h]; simp)
  have nof : m = true → False → m = false := fun _ h => h.elim
  have unb : H.length < H'.length → ρ H.length = .unborn := fun h => hun _ (Nat.le_refl _) h
  unfold lightOp at hl
  cases hop : o.op <;> rw [hop] at hl <;> simp only [reduceCtorEq] at hl
  case move x =>
    obtain ⟨sx, hx, rfl⟩ := Option.map_eq_some_iff.1 hl
    exact snd_mv (.inl hop) hx ht hH he
  case assign x =>
    obtain ⟨sx, hx, rfl⟩ := Option.map_eq_some_iff.1 hl
    exact snd_mv (.inr hop) hx ht hH he
  case pick c x y =>
    split at hl
    · rename_i c' x' y' h1 h2 h3
      simp at hl; subst hl
      exact zuK hop h1 h2 h3 ht hH he
    · simp at hl
  case alloc e =>
    have fin : ∀ {r : Nat × List SV × Nat}, tinfo P e = some r → i = .alloc r.2.1 e → OpOK P o a m ρ H w v H' := by
      intro r hr hi
      obtain ⟨sz, zs, by_⟩ := r
      subst hi
      have h2 := he
      simp only [runI] at h2; simp at h2
      exact zuT hop hr hH (unb1 h2.2.symm) he
    split at hl
    · split at hl
      · split at hl
        · rename_i n el hn K sz zs by_ h1 h2
          split at hl
          · rename_i h3
            obtain ⟨rfl, hK, h4⟩ := h3
            simp at hl; subst hl
            have h5 := he
            simp only [runI] at h5; simp at h5
            exact zuU hK hop h2 h4 hH (unb1 h5.2.symm) he
          · simp at hl
        · simp at hl
      · split at hl
        · rename_i r h1
          simp at hl
          exact fin h1 hl.symm
        · simp at hl
    · split at hl
      · rename_i r h1
        simp at hl
        exact fin h1 hl.symm
      · simp at hl
    · simp at hl
  case box e x =>
    obtain ⟨sx, hx, rfl⟩ := Option.map_eq_some_iff.1 hl
    exact snd_box hop hx ht hH (unb (box_len he)) he
  case build t parts =>
    split at hl
    · rename_i fs hu
      split at hl
      · rename_i sz zs by_ ps h1 h2
        split at hl
        · rename_i h3
          simp at hl; subst hl
          exact zuR hop hu h1 (fun f hf => List.all_eq_true.1 h3 f hf) h2 ht hH he
        · simp at hl
      · simp at hl
    · rename_i n el hu
      split at hl
      · rename_i sz zs by_ j h1 h2
        obtain ⟨ps, h3, rfl⟩ := Option.map_eq_some_iff.1 hl
        exact zuS hop hu h1 h2 h3 ht hH he
      · simp at hl
    · simp at hl
  case buildSlice t len parts =>
    split at hl
    · rename_i e hu
      split at hl
      · rename_i sz zs by_ xs h1 h2
        split at hl
        · rename_i h3
          simp at hl; subst hl
          have hb : ∀ {K : Option Kd} {f : Bool}, (f = true → m = false) → runI T (.bsl K f sz len zs e ((parts.toList.map (·.1)).zip xs)) τ H (fun v H => some (v, H)) = some (v, H') → OpOK P o a m ρ H w v H' := fun hf he =>
            snd_bsl hop hu h1 h2 h3.1 h3.2.1 hf ht hH unb he
          cases frz with
          | false => exact hb (fun h => by cases h) he
          | true =>
            cases hK : kdOf P 9 e with
            | none =>
              rw [hK] at hm he
              exact hb (fun _ => by
                cases m with
                | false => rfl
                | true => exact absurd (hm rfl) (by simp [bslS, I.mono])) he
            | some k =>
              rw [hK] at hm he
              simp only [bslS] at hm he
              rcases hall : ((parts.toList.map (·.1)).zip xs).all (fun p => p.2.isC) with _ | _
              · rw [hall] at hm he
                exact hb (fun _ => by
                  cases m with
                  | false => rfl
                  | true => exact absurd (hm rfl) (by simp [I.mono])) he
              · rw [hall] at hm he
                exact snd_bse hop hu h1 h2 h3.1 h3.2.1 ht hH he
        · simp at hl
      · simp at hl
    · simp at hl
  case load t x =>
    split at hl
    · rename_i i ag x' h1 h2 h3
      split at hl
      · simp at hl; subst hl
        exact zuJ (T := T) hop h1 h2 h3 ht hH (by have := ldS_run he; simpa only [runI] using this)
      · simp at hl
    · simp at hl
  case store t x y =>
    split at hl
    · rename_i i x' y' h1 h2 h3
      simp at hl; subst hl
      cases m with
      | false => exact snd_st hop h1 h2 h3 ht hH he
      | true => have := hm rfl; simp [I.mono] at this
    · simp at hl
  case nilCheck x =>
    obtain ⟨sx, hx, rfl⟩ := Option.map_eq_some_iff.1 hl
    exact zuL hop hx ht hH he
  case binOp op t x y yt =>
    split at hl
    · rename_i k x' y' h1 h2 h3
      simp at hl; subst hl
      exact snd_bin hop h2 h3 ht hH he
    · rename_i x' y' h1 h2 h3
      split at hl
      · simp at hl; subst hl
        exact snd_beq hop (.inl ⟨rfl, rfl⟩) h1 h2 h3 ht hH he
      · simp at hl; subst hl
        exact snd_beq hop (.inr ⟨rfl, rfl⟩) h1 h2 h3 ht hH he
      · simp at hl
    · rename_i e x' y' h1 h2 h3
      split at hl
      · split at hl
        · simp at hl; subst hl
          exact zob hop (.inl ⟨rfl, rfl⟩) h1 h2 h3 ht hH he
        · simp at hl; subst hl
          exact zob hop (.inr ⟨rfl, rfl⟩) h1 h2 h3 ht hH he
        · simp at hl
      · simp at hl
    · rename_i fs x' y' h1 h2 h3
      split at hl
      · rename_i h4
        simp at hl; subst hl
        exact snd_eqs hop (.inl ⟨rfl, rfl⟩) h4 h2 h3 ht hH he
      · rename_i h4
        simp at hl; subst hl
        exact snd_eqs hop (.inr ⟨rfl, rfl⟩) h4 h2 h3 ht hH he
      · simp at hl
    · simp at hl
  case unOp op t x =>
    split at hl
    · rename_i x' h1
      simp at hl; subst hl
      exact snd_not hop h1 ht hH he
    · rename_i x' h1
      simp at hl; subst hl
      exact snd_neg hop h1 ht hH he
    · simp at hl
  case convert src dst x =>
    split at hl
    · rename_i ks k x' h1 h2 h3
      simp at hl; subst hl
      exact zuN hop h1 h2 h3 ht hH he
    · simp at hl
  case fieldAddr s x f =>
    split at hl
    · rename_i fs x' h1 h2
      split at hl
      · rename_i fd h3
        split at hl
        · rename_i j h4
          split at hl
          · rename_i h5
            simp at hl; subst hl
            exact snd_fa hop h1 h3 h4 h5 h2 ht hH he
          · simp at hl
        · simp at hl
      · simp at hl
    · simp at hl
  case field s x f =>
    split at hl
    · rename_i fs x' h1 h2
      split at hl
      · rename_i fd h3
        split at hl
        · rename_i j ag h4 h6
          split at hl
          · rename_i h5
            simp at hl; subst hl
            exact snd_fld hop h1 h3 h4 h6 h5 h2 ht hH he
          · simp at hl
        · simp at hl
      · simp at hl
    · simp at hl
  case indexAddr t x ix =>
    split at hl
    · rename_i e x' i' h1 h2 h3
      split at hl
      · rename_i j h4
        simp at hl; subst hl
        exact snd_ia hop h1 h4 h2 h3 ht hH he
      · simp at hl
    · rename_i n e x' i' h1 h2 h3
      split at hl
      · rename_i j h4
        simp at hl; subst hl
        exact snd_iar hop h1 h4 h2 h3 ht hH he
      · simp at hl
    · simp at hl
  case index t x ix =>
    split at hl
    · rename_i n e i' h1 h3
      split at hl
      · rename_i j ag x' h4 h5 h2
        split at hl
        · rename_i h6
          simp at hl; subst hl
          exact snd_ixa hop h1 h4 h5 h6 h2 h3 ht hH he
        · simp at hl
      · simp at hl
    · rename_i i' h1 h3
      split at hl
      · simp only [Option.some.injEq] at hl; subst hl
        exact snd_ixs hop h1 h3 ht hH he
      · simp at hl
    · simp at hl
  case slice t x lo hi mx =>
    split at hl
    · rename_i e x' h1 h2
      split at hl
      · simp at hl
      · rename_i j h3
        split at hl
        · simp at hl; subst hl
          exact snd_sl hop h1 h3 h2 rfl rfl ht hH he
        · rename_i lo
          obtain ⟨sx, hx, rfl⟩ := Option.map_eq_some_iff.1 hl
          exact snd_sl hop h1 h3 h2 (by simp [hx]) rfl ht hH he
        · rename_i hi
          obtain ⟨sx, hx, rfl⟩ := Option.map_eq_some_iff.1 hl
          exact snd_sl hop h1 h3 h2 rfl (by simp [hx]) ht hH he
        · rename_i lo hi
          split at hl
          · rename_i lo' hi' h4 h5
            simp at hl; subst hl
            exact snd_sl hop h1 h3 h2 (by simp [h4]) (by simp [h5]) ht hH he
          · simp at hl
        · rename_i hi mx
          split at hl
          · rename_i hi' mx' h4 h5
            simp at hl; subst hl
            exact snd_sl0 hop h1 h3 h2 h4 h5 ht hH he
          · simp at hl
        · simp at hl
    · simp at hl
  case extract x j =>
    obtain ⟨sx, hx, rfl⟩ := Option.map_eq_some_iff.1 hl
    exact snd_ext hop hx ht hH he
  case makeSlice t l c =>
    split at hl
    · rename_i e l' c' h1 h2 h3
      split at hl
      · rename_i sz zs by_ h4
        split at hl
        · rename_i h5
          split at hl
          · rename_i K h6
            split at hl
            · rename_i h7
              simp at hl; subst hl
              exact snd_mk hop h1 h4 h5.1 h5.2 (fun k hk => by cases hk; exact h7) h2 h3 ht hH (unb (mk_len he)) he
            · simp at hl
          · simp at hl; subst hl
            exact snd_mk hop h1 h4 h5.1 h5.2 (fun k hk => by cases hk) h2 h3 ht hH (unb (mk_len he)) he
        · simp at hl
      · simp at hl
    · simp at hl
  case makeInterface t x =>
    split at hl
    · simp at hl
    · rename_i d h1 h2
      obtain ⟨sx, hx, rfl⟩ := Option.map_eq_some_iff.1 hl
      exact zuO hop h2 (fun ms e => h1 ms e) hx ht hH he
    · simp at hl
  case typeAssert x xt t ok =>
    split at hl
    · simp at hl
    · rename_i d x' h1 h2 h3
      split at hl
      · rename_i i h4
        split at hl
        · rename_i z h5
          obtain ⟨sz, h6, rfl⟩ := Option.map_eq_some_iff.1 hl
          exact snd_tas hop h2 (fun ms e => h1 ms e) h3 h4 h5 h6 ht hH he
        · simp at hl
      · simp at hl
    · simp at hl
  case makeFunc fn first cap =>
    split at hl
    · rename_i sa sb h1 h2
      simp at hl; subst hl
      exact zuP hop h1 h2 ht hH he
    · simp at hl
  case call c =>
    split at hl
    · simp at hl
    · rename_i as has
      have hargs := zvb has ht
      split at hl
      · rename_i hc
        split at hl
        · rename_i t x' h1
          split at hl
          · rename_i e h3
            simp at hl; subst hl
            obtain ⟨x, hx1, hx2⟩ := zoe has
            exact snd_len hop hc hx1 (arr_one h1) h3 hx2 ht hH he
          · simp at hl
        · simp at hl
      · rename_i hc
        split at hl
        · rename_i t t' s' x' h1
          split at hl
          · rename_i e h3 h4
            split at hl
            · rename_i sz zs by_ h5
              split at hl
              · rename_i h6
                simp at hl; subst hl
                obtain ⟨s, x, hx0, hx1, hx2⟩ := zf3 has
                have htt : t = t' := by simpa using h4
                subst htt
                cases frz with
                | true =>
                  simp only [cond, runI] at he
                  split at he
                  · rename_i e2
                    rw [← e2] at he
                    exact snd_app hop hc hx0 (arr_two h1) h3 h5 h6 hx1 hx2 ht hH (unb (app_len he)) (fun _ => by rw [e2]; rfl) he
                  · simp at he
                | false =>
                  simp only [cond, runI] at he hm
                  exact snd_app hop hc hx0 (arr_two h1) h3 h5 h6 hx1 hx2 ht hH (unb (app_len he)) (fun h => by have := hm h; simp [I.mono] at this) he
              · simp at hl
            · simp at hl
          · rename_i e h3 h4
            split at hl
            · rename_i k' K sz zs by_ h5 h6 h7
              split at hl
              · rename_i h8
                simp at hl; subst hl
                obtain ⟨s, x, hx0, hx1, hx2⟩ := zf3 has
                exact zu8 hop hc hx0 (arr_two h1) h3 h5 h7 h8.1 h8.2.1 h8.2.2.1 h8.2.2.2 hx1 hx2 ht hH (unb (zvc he)) he
              · simp at hl
            · simp at hl
          · simp at hl
        · simp at hl
      · rename_i hc
        split at hl
        · rename_i t x' h1
          split at hl
          · rename_i e h3
            simp at hl; subst hl
            obtain ⟨x, hx1, hx2⟩ := zoe has
            exact zu4 hop hc hx1 (arr_one h1) h3 hx2 ht hH he
          · simp at hl
        · simp at hl
      · rename_i hc
        split at hl
        · simp at hl; subst hl
          obtain ⟨x, y, hx0, hx1, hx2⟩ := zf3 has
          exact snd_mn hop hc hx0 hx1 hx2 ht hH he
        · simp at hl
      · rename_i hc
        split at hl
        · simp at hl; subst hl
          obtain ⟨x, y, hx0, hx1, hx2⟩ := zf3 has
          exact snd_mx hop hc hx0 hx1 hx2 ht hH he
        · simp at hl
      · rename_i f hc
        split at hl
        · rename_i fn hf
          split at hl
          · rename_i hfn
            simp at hl
            have hex : ∀ fn', P.funcs[f]? = some fn' → fn'.name ≠ "runtime.NumGoroutine" → fn'.body.isSome = true → (execOp a.eval o).run P w = .ok (.enter f (c.args.map a.eval).toList.toArray) w := fun fn' h1 h2 h3 => by
              have e5 : Array.map a.eval c.args = (List.map a.eval c.args.toList).toArray := Array.ext' (by simp)
              simp [execOp, hop, resolve, hc, Act.eval, Deferred.ofValue, invoke, zod hf hfn.1 hfn.2, e5]
            cases frz with
            | false =>
              simp only [cond] at hl
              subst hl
              simp only [runI] at he
              exact zi3 hT hH hun hargs (fun te h1 h2 => zoc h1 (hm h2)) he hex
            | true =>
              simp only [cond] at hl
              subst hl
              obtain rfl : m = false := by
                cases m with
                | false => rfl
                | true => have := hm rfl; simp [I.mono] at this
              simp only [runI] at he
              split at he
              · rename_i ie hie
                have S := hT.inl f ie hie
                obtain ⟨fn5, h5, h6, h7⟩ := S.fn
                exact OpOK.call (hex fn5 h5 h6 h7) (S.snd ρ H w _ _ v H' hH (hux rfl) hargs he)
              · exact zva hT hH hun hargs he hex
          · simp at hl
        · simp at hl
      · rename_i t hc
        simp at hl; subst hl
        obtain rfl : m = false := by
          cases m with
          | false => rfl
          | true => have := hm rfl; simp [I.mono] at this
        simp only [runI] at he
        split at he
        · rename_i f first cap e1
          have hv : VRel ρ w (S.ev τ (.t t)) (a.eval (.tmp t)) := opL_rel ht (x := .tmp t) rfl
          rw [e1] at hv
          simp only [VRel] at hv
          obtain ⟨vf, vc, e2, h1, h2⟩ := hv
          have hargs' := (h1.append hargs).append h2
          have hex : ∀ fn', P.funcs[f]? = some fn' → fn'.name ≠ "runtime.NumGoroutine" → fn'.body.isSome = true → (execOp a.eval o).run P w = .ok (.enter f (vf.toList ++ (c.args.map a.eval).toList ++ vc.toList).toArray) w := fun fn' h3 h4 h5 => by
            simp [execOp, hop, resolve, hc, e2, Deferred.ofValue, invoke, zod h3 h4 h5]
          split at he
          · rename_i ie hie
            have S := hT.inl f ie hie
            obtain ⟨fn5, h5, h6, h7⟩ := S.fn
            exact OpOK.call (hex fn5 h5 h6 h7) (S.snd ρ H w _ _ v H' hH (hux rfl) hargs' he)
          · exact zi3 hT hH hun hargs' (fun _ _ h => by simp at h) he hex
        · simp at he
      · rename_i t mn hc
        simp at hl; subst hl
        obtain rfl : m = false := by
          cases m with
          | false => rfl
          | true => have := hm rfl; simp [I.mono] at this
        simp only [runI] at he
        split at he
        · rename_i ti x e1
          split at he
          · rename_i f hf
            have hv : VRel ρ w (S.ev τ (.t t)) (a.eval (.tmp t)) := opL_rel ht (x := .tmp t) rfl
            rw [e1] at hv
            simp only [VRel] at hv
            obtain ⟨u, e2, h1⟩ := hv
            have hvs : VRels ρ w (x :: as.map (S.ev τ)) (u :: (c.args.map a.eval).toList) := by
              simp only [VRels]; exact ⟨u, _, rfl, h1, hargs⟩
            refine zi3 hT hH hun hvs (fun _ _ h => by simp at h) he fun fn' h3 h4 h5 => ?_
            have hmm := hT.meth ti mn f hf u (c.args.map a.eval) w
            have e3 : (#[Value.iface ti u] ++ c.args.map a.eval)[0]? = some (Value.iface ti u) := by
              rw [← Array.getElem?_toList]; simp
            have e4 : (#[Value.iface ti u] ++ c.args.map a.eval).extract 1 (#[Value.iface ti u] ++ c.args.map a.eval).size = c.args.map a.eval := by
              apply Array.ext'; simp
              rw [List.take_of_length_le (by simp)]
            have e5 : (u :: (c.args.map a.eval).toList).toArray = #[u] ++ c.args.map a.eval := by
              apply Array.ext'; simp
            have e6 : (execOp a.eval o).run P w = (callMethod (.iface ti u) mn (c.args.map a.eval)).run P w := by
              simp only [execOp, hop, resolve, hc, e2, invoke, Sem.run_bind, Sem.run_pure, Result.andThen_ok, e3, e4]
            rw [e6, hmm, e5]
          · simp at he
        · simp at he
      · simp at hl
end
end Go.Proofs.Ytmkekjmckdkcnaa.Den
namespace Go.Proofs.Ytmkekjmckdkcnaa.Den
open Go Go.RowKit
section
variable {R : Type}
theorem zA {α : Type} (b : Bool) (x : Option α) (f : α → Option R) : (tst b x).bind f = tst b (x.bind f) := by cases b <;> rfl
theorem zE {α : Type} (b : Bool) (x y : Option α) (f : α → Option R) : (cond b x y).bind f = cond b (x.bind f) (y.bind f) := by cases b <;> rfl
theorem zog {α : Type} (f : α → Option R) : (none : Option α).bind f = none := rfl
theorem zF (cs : List SV) (off n : Nat) (ag : Bool) (k : SV → Option R) : getC cs off n ag k = (getC cs off n ag some).bind k := by
  unfold getC
  repeat' split
  all_goals rfl
theorem ldI_nat (H : Heap) (n : Nat) (ag : Bool) (x : SV) (k : SV → Option R) : ldI H n ag x k = (ldI H n ag x some).bind k := by
  unfold ldI
  repeat' split
  all_goals first | rfl | exact zF .. | (simp only [zA]; first | rfl | rw [← zF])
theorem stI_nat (H : Heap) (n : Nat) (x v : SV) (k : Heap → Option R) : stI H n x v k = (stI H n x v some).bind k := by
  unfold stI
  repeat' split
  all_goals first | rfl | (simp only [zA]; rfl)
theorem iaI_nat (H : Heap) (sz : Nat) (x i : SV) (k : SV → Option R) : iaI H sz x i k = (iaI H sz x i some).bind k := by
  unfold iaI
  repeat' split
  all_goals first | rfl | (simp only [zA]; rfl)
theorem zi4 (H : Heap) (len sz : Nat) (x i : SV) (k : SV → Option R) : iarI H len sz x i k = (iarI H len sz x i some).bind k := by
  unfold iarI
  repeat' split
  all_goals first | rfl | (simp only [zA]; rfl)
theorem zf4 (len sz : Nat) (ag : Bool) (x i : SV) (k : SV → Option R) : ixaI len sz ag x i k = (ixaI len sz ag x i some).bind k := by
  unfold ixaI
  repeat' split
  all_goals first | rfl | (simp only [zA]; rw [← zF])
theorem zve {α : Type} (x : Option SV) (d : Option Nat) (top : Nat) (k : Nat → Option α) (f : α → Option R) : (bound x d top k).bind f = bound x d top fun n => (k n).bind f := by
  unfold bound
  repeat' split
  all_goals first | rfl | (simp only [zA])
theorem slI_nat (H : Heap) (sz : Nat) (x : SV) (lo hi mx : Option SV) (k : SV → Option R) : slI H sz x lo hi mx k = (slI H sz x lo hi mx some).bind k := by
  unfold slI
  split
  · simp only [zE, zog]
    congr 1
    split
    · rfl
    · simp only [zve]
      congr 1; funext h; congr 1; funext a
      split <;> rfl
  · repeat' split
    all_goals rfl
  · rfl
theorem zoh (H : Heap) (K : Option Kd) (sz : Nat) (t : TypeId) (s x : SV) (k : SV → Heap → Option R) :
    appI H K sz t s x k = (appI H K sz t s x (fun v H => some (v, H))).bind fun p => k p.1 p.2 := by
  unfold appI appB
  simp only [zE, zog]
  congr 1
  repeat' split
  all_goals first | rfl | (simp only [zA]; rfl)
theorem mkI_nat (H : Heap) (K : Option Kd) (zs : List SV) (t : TypeId) (n : SV) (cap : Option SV) (k : SV → Heap → Option R) :
    mkI H K zs t n cap k = (mkI H K zs t n cap (fun v H => some (v, H))).bind fun p => k p.1 p.2 := by
  unfold mkI
  repeat' split
  all_goals first | rfl | (simp only [zA]; rfl)
theorem zvf (τ : Env) (H : Heap) (K : Option Kd) (frz : Bool) (sz len : Nat) (zs : List SV) (t : TypeId) (parts : List (Nat × S)) (k : SV → Heap → Option R) :
    bslI τ H K frz sz len zs t parts k = (bslI τ H K frz sz len zs t parts (fun v H => some (v, H))).bind fun p => k p.1 p.2 := by
  unfold bslI
  repeat' split
  all_goals rfl
theorem zf5 (op : BinOp) (x y : SV) (k : SV → Option R) : binI op x y k = (binI op x y some).bind k := by
  unfold binI
  repeat' split
  all_goals first | rfl | (simp only [zA]; rfl)
theorem zd3 (T : Tab) (f : FuncId) (args : List SV) (H : Heap) (k : SV → Heap → Option R) :
    callI T f args H k = (callI T f args H (fun v H => some (v, H))).bind fun p => k p.1 p.2 := by
  unfold callI
  generalize T.te f = l
  induction l with
  | nil => rfl
  | cons te r ih =>
    simp only [callL]
    split
    · exact ih
    · rename_i x _
      cases te.fn x with
      | none => rfl
      | some y =>
        simp only [Option.bind_some]
        split <;> rfl
theorem zX (T : Tab) (i : I) (τ : Env) (H : Heap) (k : SV → Heap → Option R) :
    runI T i τ H k = (runI T i τ H (fun v H => some (v, H))).bind fun p => k p.1 p.2 := by
  cases i <;> simp only [runI]
  case ld => rw [ldI_nat]; conv => rhs; rw [ldI_nat]
             rw [Option.bind_assoc]; rfl
  case ldc => split
              · split
                · rw [zF]; conv => rhs; rw [zF]
                  rw [Option.bind_assoc]; rfl
                · rfl
              · rfl
  case st => rw [stI_nat]; conv => rhs; rw [stI_nat]
             rw [Option.bind_assoc]; rfl
  case bin => rw [zf5]; conv => rhs; rw [zf5]
              rw [Option.bind_assoc]; rfl
  case ia => rw [iaI_nat]; conv => rhs; rw [iaI_nat]
             rw [Option.bind_assoc]; rfl
  case iar => rw [zi4]; conv => rhs; rw [zi4]
              rw [Option.bind_assoc]; rfl
  case ixa => rw [zf4]; conv => rhs; rw [zf4]
              rw [Option.bind_assoc]; rfl
  case sl => rw [slI_nat]; conv => rhs; rw [slI_nat]
             rw [Option.bind_assoc]; rfl
  case fld => split
              · rw [zF]; conv => rhs; rw [zF]
                rw [Option.bind_assoc]; rfl
              · rfl
  case app => exact zoh ..
  case app0 => split
               · exact zoh ..
               · rfl
  case mk => exact mkI_nat ..
  case bsl => exact zvf ..
  case call => exact zd3 ..
  case callz f args =>
    cases hi : T.inl f with
    | some ie => exact ie.nat R _ H k
    | none => ?_
    simp only
    rw [frzL_nat]; conv => rhs; rw [frzL_nat]
    rw [Option.bind_assoc]
    congr 1; funext q
    show callI _ _ q.1 q.2 _ = Option.bind (callI _ _ q.1 q.2 _) _
    rw [zd3]; conv => rhs; rw [zd3]
    rw [Option.bind_assoc]
    congr 1; funext p
    exact frzV_nat p.1 p.2 k
  case callv => split
                · split
                  · rename_i ie _; exact ie.nat R _ H k
                  · exact zd3 ..
                · rfl
  case inv => split
              · split
                · exact zd3 ..
                · rfl
              · rfl
  case ixs => split
              · simp only [zA]; rfl
              · rfl
  case nilt => split
               · simp only [zA]; rfl
               · rfl
  case appz => split
               · simp only [zA]; rfl
               · rfl
  case pick => repeat' split
               all_goals first | rfl | (simp only [zE]; rfl)
  all_goals (repeat' split)
  all_goals rfl
def stepG (T : Tab) (gi : GI) (τ : Env) (H : Heap) : Option (Env × Heap) := runG T gi τ H fun τ H => some (τ, H)
theorem zf6 (T : Tab) (gi : GI) (τ : Env) (H : Heap) (k : Env → Heap → Option R) :
    runG T gi τ H k = (stepG T gi τ H).bind fun p => k p.1 p.2 := by
  unfold stepG runG
  split
  · rw [zX]; conv => rhs; rw [zX]
    rw [Option.bind_assoc]; rfl
  · split
    · split
      · simp only [zE]
        congr 1
        rw [zX]; conv => rhs; rw [zX]
        rw [Option.bind_assoc]; rfl
      · simp only [zE]
        congr 1
        rw [zX]; conv => rhs; rw [zX]
        rw [Option.bind_assoc]; rfl
    · rfl
    · rfl
theorem zi5 (T : Tab) (gi : GI) (r : List GI) (τ : Env) (H : Heap) (k : Env → Heap → Option R) :
    runR T (gi :: r) τ H k = (stepG T gi τ H).bind fun p => runR T r p.1 p.2 k := by
  rw [runR, zf6]
end
end Go.Proofs.Ytmkekjmckdkcnaa.Den
namespace Go.Proofs.Ytmkekjmckdkcnaa.Den
open Go Go.RowKit
def S.slot : S → List Nat
  | .t n => [n]
  | .c _ => []
def I.args : I → List S
  | .mv x | .box _ x | .ld _ _ x | .nilck x | .not x | .neg x | .conv _ x | .fa _ x | .fld _ _ _ x | .ext _ x | .len x | .mkif _ x | .tas _ _ _ x | .nilt _ x | .cap0 x | .ixs _ x => [x]
  | .ldc _ _ s => [.t s]
  | .alloc _ _ | .allocA _ _ _ => []
  | .pick c a b => [c, a, b]
  | .build _ ps => ps.map fun p => p.2.2
  | .bsl _ _ _ _ _ _ ps => ps.map fun p => p.2
  | .bse _ _ _ _ ps => ps.map fun p => p.2
  | .st _ x y | .bin _ x y | .beq _ x y | .eqs _ _ x y | .ia _ x y | .iar _ _ x y | .ixa _ _ _ x y | .app _ _ _ x y | .app0 _ _ _ x y | .mn x y | .mx x y | .appz _ _ x y => [x, y]
  | .sl _ x l h m => x :: (l.toList ++ (h.toList ++ m.toList))
  | .mk _ _ _ n cap => n :: cap.toList
  | .mkfn _ a b => a ++ b
  | .call _ as => as
  | .callz _ as => as
  | .callv x as => x :: as
  | .inv x _ as => x :: as
def I.slots (i : I) : List Nat := i.args.flatMap S.slot
def GI.reads (gi : GI) : List Nat :=
  match gi.g with
  | none => gi.i.slots
  | some (s, _) => s :: gi.i.slots
section
variable {R : Type} {T : Tab} {τ τ' : Env} {H H' : Heap}
theorem zf7 : ∀ {ps : List (Nat × Nat × S)} {cs : List SV}, (∀ p ∈ ps, S.ev τ p.2.2 = S.ev τ' p.2.2) → fillP τ ps cs = fillP τ' ps cs
  | [], _, _ => rfl
  | (off, n, x) :: r, cs, h => by
    have h1 := h (off, n, x) (by simp)
    simp only at h1
    simp only [fillP, h1]
    split
    · split
      · exact zf7 fun p hp => h p (by simp [hp])
      · rfl
    · rfl
theorem zbw {as : List S} (h : ∀ x ∈ as, S.ev τ x = S.ev τ' x) : as.map (S.ev τ) = as.map (S.ev τ') := List.map_congr_left h
theorem zf8 {x : Option S} (h : ∀ y ∈ x.toList, S.ev τ y = S.ev τ' y) : x.map (S.ev τ) = x.map (S.ev τ') := by
  cases x with
  | none => rfl
  | some y => simp only [Option.map_some, h y (by simp)]
theorem zvg {i : I} {k : SV → Heap → Option R} (h : ∀ x ∈ i.args, S.ev τ x = S.ev τ' x) : runI T i τ H k = runI T i τ' H k := by
  cases i
  case build zs ps =>
    simp only [runI]
    rw [zf7 fun p hp => h p.2.2 (List.mem_map.2 ⟨p, hp, rfl⟩)]
  case bsl K frz sz len zs t ps =>
    simp only [runI, bslI]
    cases len with
    | zero => cases ps <;> rfl
    | succ len =>
      simp only
      rw [zf7 (τ' := τ') fun p hp => by
        obtain ⟨q, hq, rfl⟩ := List.mem_map.1 hp
        exact h q.2 (List.mem_map.2 ⟨q, hq, rfl⟩)]
  case bse K sz len zs ps =>
    simp only [runI]
    rw [zf7 (τ' := τ') fun p hp => by
      obtain ⟨q, hq, rfl⟩ := List.mem_map.1 hp
      exact h q.2 (List.mem_map.2 ⟨q, hq, rfl⟩)]
  case sl sz x lo hi mx =>
    simp only [runI]
    rw [h x (by simp [I.args]), zf8 fun y hy => h y (by simp [I.args] at hy ⊢; simp [hy]), zf8 (x := hi) fun y hy => h y (by simp [I.args] at hy ⊢; simp [hy]), zf8 (x := mx) fun y hy => h y (by simp [I.args] at hy ⊢; simp [hy])]
  case mk K zs t n cap =>
    simp only [runI]
    rw [h n (by simp [I.args]), zf8 fun y hy => h y (by simp [I.args] at hy ⊢; simp [hy])]
  case mkfn f a b =>
    simp only [runI]
    rw [zbw fun x hx => h x (by simp [I.args, hx]), zbw (as := b) fun x hx => h x (by simp [I.args, hx])]
  case callz f as =>
    simp only [runI]
    rw [zbw fun x hx => h x (by simp [I.args, hx])]
  case call f as =>
    simp only [runI]
    rw [zbw fun x hx => h x (by simp [I.args, hx])]
  case callv x as =>
    simp only [runI]
    rw [h x (by simp [I.args]), zbw fun x hx => h x (by simp [I.args, hx])]
  case inv x m as =>
    simp only [runI]
    rw [h x (by simp [I.args]), zbw fun x hx => h x (by simp [I.args, hx])]
  case ldc n ag s =>
    have e : Tm.get τ s = Tm.get τ' s := h (.t s) (by simp [I.args])
    simp only [runI, e]
  all_goals (simp only [I.args, List.mem_cons, List.not_mem_nil, or_false, forall_eq_or_imp, forall_eq, false_implies, implies_true] at h; simp only [runI, h])
theorem S.ev_congr {x : S} (h : ∀ s ∈ x.slot, Tm.get τ s = Tm.get τ' s) : S.ev τ x = S.ev τ' x := by
  cases x with
  | t n => exact h n (by simp [S.slot])
  | c v => rfl
theorem zoi {i : I} {k : SV → Heap → Option R} (h : ∀ s ∈ i.slots, Tm.get τ s = Tm.get τ' s) : runI T i τ H k = runI T i τ' H k :=
  zvg fun x hx => S.ev_congr fun s hs => h s (List.mem_flatMap.2 ⟨x, hx, hs⟩)
theorem zf9 {d : Option Nat} {v : SV} (n : Nat) : Tm.get (putD τ d v) n = if d = some n then v else Tm.get τ n := by
  cases d with
  | none => simp [putD]
  | some m => simp [putD, Tm.get_cons]
theorem zd4 {s : Nat} {v : SV} (h : Tm.get τ s = v) (n : Nat) : Tm.get ((s, v) :: τ) n = Tm.get τ n := by
  rw [Tm.get_cons]
  split
  · rename_i e; rw [← e, h]
  · rfl
theorem zga {gi : GI} (h : stepG T gi τ H = some (τ', H')) :
    ∃ b : Bool, (gi.g = none → b = true) ∧ (∀ s want, gi.g = some (s, want) → Tm.get τ s = .bool (if b = true then want else !want) ∨ b = false ∧ Tm.get τ s = .tup []) ∧
      (b = true → ∃ v, runI T gi.i τ H (fun v H => some (v, H)) = some (v, H') ∧ ∀ n, Tm.get τ' n = if gi.d = some n then v else Tm.get τ n) ∧
      (b = false → H' = H ∧ ∀ n, Tm.get τ' n = if gi.d = some n then .tup [] else Tm.get τ n) := by
  unfold stepG runG at h
  have run : ∀ {τ1 : Env} (e : ∀ n, Tm.get τ1 n = Tm.get τ n), runI T gi.i τ1 H (fun v H' => some (putD τ1 gi.d v, H')) = some (τ', H') →
      ∃ v, runI T gi.i τ H (fun v H => some (v, H)) = some (v, H') ∧ ∀ n, Tm.get τ' n = if gi.d = some n then v else Tm.get τ n := by
    intro τ1 e h1
    rw [zX, Option.bind_eq_some_iff] at h1
    obtain ⟨⟨v, H2⟩, h2, h3⟩ := h1
    simp only [Option.some.injEq, Prod.mk.injEq] at h3
    obtain ⟨rfl, rfl⟩ := h3
    exact ⟨v, by rw [← h2]; exact zoi fun s _ => (e s).symm, fun n => by rw [zf9, e]⟩
  split at h
  · rename_i hg
    exact ⟨true, fun _ => rfl, fun s want h1 => by (rw [hg] at h1; cases h1), fun _ => run (fun _ => rfl) h, fun h => by cases h⟩
  · rename_i s want hg
    split at h
    · rename_i b hb
      split at h
      · rcases zd h with ⟨rfl, h⟩ | ⟨rfl, h⟩
        · exact ⟨true, fun _ => rfl, fun s' w' h1 => by (rw [hg] at h1; cases h1; exact .inl (by simpa using hb)), fun _ => run (zd4 hb) h, fun h => by cases h⟩
        · simp only [Option.some.injEq, Prod.mk.injEq] at h
          obtain ⟨rfl, rfl⟩ := h
          exact ⟨false, fun h1 => by (rw [hg] at h1; cases h1), fun s' w' h1 => by (rw [hg] at h1; cases h1; exact .inl (by simpa using hb)), fun h => by (cases h), fun _ => ⟨rfl, fun n => by rw [zf9, zd4 hb]⟩⟩
      · rcases zd h with ⟨rfl, h⟩ | ⟨rfl, h⟩
        · simp only [Option.some.injEq, Prod.mk.injEq] at h
          obtain ⟨rfl, rfl⟩ := h
          exact ⟨false, fun h1 => by (rw [hg] at h1; cases h1), fun s' w' h1 => by (rw [hg] at h1; cases h1; exact .inl (by simpa using hb)), fun h => by (cases h), fun _ => ⟨rfl, fun n => by rw [zf9, zd4 hb]⟩⟩
        · exact ⟨true, fun _ => rfl, fun s' w' h1 => by (rw [hg] at h1; cases h1; exact .inl (by simpa using hb)), fun _ => run (zd4 hb) h, fun h => by cases h⟩
    · rename_i hb
      simp only [Option.some.injEq, Prod.mk.injEq] at h
      obtain ⟨rfl, rfl⟩ := h
      exact ⟨false, fun h1 => by (rw [hg] at h1; cases h1), fun s' w' h1 => by (rw [hg] at h1; cases h1; exact .inr ⟨rfl, hb⟩), fun h => by (cases h), fun _ => ⟨rfl, fun n => by rw [zf9]⟩⟩
    · simp at h
end
structure LOp (P : Program) (N : Nat) (ops : Array Oper) (o : Oper) (gi : GI) : Prop where
  d : gi.d = o.dst
  i : ∃ frz, lightOp P frz o = some gi.i
  lt : ∀ d, o.dst = some d → d < N
  g : (o.guard = none ∧ gi.g = none) ∨ ∃ j want oj s, o.guard = some (j, want) ∧ ops[j]? = some oj ∧ oj.dst = some s ∧ gi.g = some (s, want)
theorem zoj {P : Program} {frz : List Nat} {N : Nat} {ops : Array Oper} : ∀ {l : List Oper} {gs : List GI}, lightOps P frz N ops l = some gs →
    gs.length = l.length ∧ ∀ (j : Nat) (o : Oper) (gi : GI), l[j]? = some o → gs[j]? = some gi → LOp P N ops o gi
  | [], gs, h => by simp [lightOps] at h; subst h; simp
  | o :: r, gs, h => by
    simp only [lightOps] at h
    split at h
    · rename_i i g gs' h1 h2 h3
      split at h
      · rename_i h4
        simp at h; subst h
        obtain ⟨ih1, ih2⟩ := zoj h3
        refine ⟨by simp [ih1], fun j o' gi h5 h6 => ?_⟩
        cases j with
        | zero =>
          simp at h5 h6
          subst h5; subst h6
          refine ⟨rfl, ⟨_, h1⟩, fun d hd => by rw [hd] at h4; simpa [dstOK] using h4, ?_⟩
          unfold guardL at h2
          split at h2
          · rename_i hg
            simp at h2; exact .inl ⟨hg, h2.symm⟩
          · rename_i k want hg
            split at h2
            · rename_i s hs
              simp at h2
              rw [Option.bind_eq_some_iff] at hs
              obtain ⟨oj, h7, h8⟩ := hs
              exact .inr ⟨k, want, oj, s, hg, h7, h8, h2.symm⟩
            · simp at h2
        | succ j => exact ih2 j o' gi (by simpa using h5) (by simpa using h6)
      · simp at h
    · simp at h
section
variable {P : Program} {o : Oper} {ops : Array Oper} {a : Act} {m : Bool} {ρ : Map} {H H' : Heap} {w w' : World} {τ τ' : Env} {N : Nat} {T : Tab} {v : SV} {gi : GI}
theorem zgb (hT : TabOK P T) (hl : LOp P N ops o gi) (hm : m = true → gi.i.mono T = true) (hN : a.tmps.size = N) (hd : a.defers = []) (hr : ∀ s ∈ gi.reads, VRel ρ w (Tm.get τ s) (a.tmps.getD s undef)) (hH : HRel ρ H w)
    (hun : Unb ρ H H') (hux : m = false → ∀ β, H.length ≤ β → ρ β = .unborn) (he : stepG T gi τ H = some (τ', H')) {K : Act → World → Prop} {Q : Exit → Act → World → Prop}
    (hK : ∀ v u w' ρ', Good m ρ H w v H' u w' ρ' → (∀ n, Tm.get τ' n = if gi.d = some n then v else Tm.get τ n) → K (a.put o.dst u) w') :
    if Region.wanted o (yielded ops a.tmps) = true then o.wp P a w K Q else K (a.put o.dst undef) w := by
  obtain ⟨b, hb1, hb2, hb3, hb4⟩ := zga he
  have hw : Region.wanted o (yielded ops a.tmps) = b := by
    unfold Region.wanted
    rcases hl.g with ⟨h1, h2⟩ | ⟨j, want, oj, s, h1, h2, h3, h4⟩
    · rw [h1, hb1 h2]
    · rw [h1]
      have h6 := hr s (by simp [GI.reads, h4])
      rcases hb2 s want h4 with h5 | ⟨rfl, h5⟩
      · rw [h5] at h6
        simp only [VRel] at h6
        have h7 : a.tmps[s]? = some (.bool (if b = true then want else !want)) := by
          rw [Array.getD_eq_getD_getElem?] at h6
          cases hs : a.tmps[s]? with
          | none => rw [hs] at h6; simp [undef] at h6
          | some x => rw [hs] at h6; simpa using h6
        simp only [yielded, h2, Option.bind_some, h3, h7]
        cases b <;> cases want <;> rfl
      · rw [h5] at h6
        simp only [VRel, VRels] at h6
        obtain ⟨us, h6, _⟩ := h6
        simp only [yielded, h2, Option.bind_some, h3]
        rw [Array.getD_eq_getD_getElem?] at h6
        cases hs : a.tmps[s]? with
        | none => rfl
        | some x => rw [hs] at h6; simp at h6; subst h6; rfl
  rw [hw]
  cases b with
  | true =>
    obtain ⟨v, h1, h2⟩ := hb3 rfl
    rw [if_pos rfl]
    obtain ⟨frz, hli⟩ := hl.i
    let τ1 : Env := gi.reads.map fun s => (s, Tm.get τ s)
    have hget : ∀ (l : List Nat) n, Tm.get (l.map fun s => (s, Tm.get τ s)) n = if n ∈ l then Tm.get τ n else .junk := by
      intro l n
      induction l with
      | nil => rfl
      | cons x l ih =>
        rw [List.map_cons, Tm.get_cons, ih]
        by_cases h : x = n
        · subst h; simp
        · rw [if_neg h]
          by_cases h' : n ∈ l
          · simp [h']
          · rw [if_neg h', if_neg (by simp [h']; exact fun e => h e.symm)]
    have ht : TRel ρ w τ1 a N := ⟨hN, hd, fun n => by
      rw [hget]
      split
      · rename_i hn; exact hr n hn
      · simp [VRel]⟩
    have hrun : runI T gi.i τ1 H (fun v H => some (v, H)) = some (v, H') := by
      rw [← h1]
      refine zoi fun s hs => ?_
      rw [hget, if_pos]
      unfold GI.reads
      split
      · exact hs
      · exact List.mem_cons_of_mem _ hs
    exact zvd hT hli hm ht hH hun hux hrun K Q fun u w' ρ' hg => hK v u w' ρ' hg h2
  | false =>
    obtain ⟨rfl, h2⟩ := hb4 rfl
    rw [if_neg (by simp)]
    exact hK (.tup []) undef w ρ (Good.same hH (by simp [VRel, VRels, undef])) h2
theorem zgc {d : Option Nat} {u : Value} : (a.put d u).tmps.size = a.tmps.size := by
  cases d <;> simp [Act.put]
theorem put_defers' {d : Option Nat} {u : Value} : (a.put d u).defers = a.defers := by
  cases d <;> rfl
theorem put_get {d : Option Nat} {u : Value} (hd : ∀ k, d = some k → k < a.tmps.size) (n : Nat) : (a.put d u).tmps.getD n undef = if d = some n then u else a.tmps.getD n undef := by
  cases d with
  | none => simp [Act.put]
  | some k =>
    simp only [Act.put, Array.getD_eq_getD_getElem?, Option.some.injEq]
    by_cases h : k = n
    · subst h; simp [hd k rfl]
    · rw [if_neg h, Array.getElem?_setIfInBounds_ne h]
structure At (P : Program) (N : Nat) (ρ : Map) (H : Heap) (w : World) (τ : Env) (a : Act) : Prop where
  t : TRel ρ w τ a N
  h : HRel ρ H w
  u : ∀ β, H.length ≤ β → ρ β = .unborn
theorem At.step (hat : At P N ρ H w τ a) (hl : LOp P N ops o gi) {u : Value} {ρ' : Map} (hg : Good m ρ H w v H' u w' ρ') (hn : ∀ n, Tm.get τ' n = if gi.d = some n then v else Tm.get τ n) :
    At P N ρ' H' w' τ' (a.put o.dst u) where
  t := ⟨by rw [zgc]; exact hat.t.1, by rw [put_defers']; exact hat.t.2.1, fun n => by
    rw [hn, put_get (fun k hk => by rw [hat.t.1]; exact hl.lt k hk), hl.d]
    split
    · exact hg.vrel
    · exact (hat.t.2.2 n).step hg.step⟩
  h := hg.hrel
  u β hβ := hg.unb β (hat.u β (Nat.le_trans hg.len hβ)) hβ
theorem zok (hT : TabOK P T) {Q : Exit → Act → World → Prop} : ∀ {l : List Oper} {gs : List GI} {τ : Env} {H : Heap} {ρ : Map} {a : Act} {w : World} {R : Type} {k : Env → Heap → Option R} {r : R},
    gs.length = l.length → (∀ (j : Nat) (o : Oper) (gi : GI), l[j]? = some o → gs[j]? = some gi → LOp P N ops o gi) → At P N ρ H w τ a → runR T gs τ H k = some r →
    (∀ τ' H' ρ' a' w', At P N ρ' H' w' τ' a' → Step ρ w ρ' w' → k τ' H' = some r → Q .normal a' w') → wpList P ops Q l a w
  | [], [], τ, H, ρ, a, w, R, k, r, _, _, hat, he, hQ => by
    simp only [runR] at he
    exact hQ τ H ρ a w hat (Step.refl _ _) he
  | [], _ :: _, _, _, _, _, _, _, _, _, h, _, _, _, _ => by simp at h
  | _ :: _, [], _, _, _, _, _, _, _, _, h, _, _, _, _ => by simp at h
  | o :: l, gi :: gs, τ, H, ρ, a, w, R, k, r, hlen, hls, hat, he, hQ => by
    rw [zi5, Option.bind_eq_some_iff] at he
    obtain ⟨⟨τ1, H1⟩, h1, h2⟩ := he
    have hl := hls 0 o gi rfl rfl
    unfold wpList
    have := zgb (m := false) (Q := Q) (K := wpList P ops Q l) hT hl (by simp) hat.t.1 hat.t.2.1 (fun s _ => hat.t.2.2 s) hat.h (fun β hβ _ => hat.u β hβ) (fun _ β hβ => hat.u β hβ) h1
      (fun v u w' ρ' hg hn => zok hT (by simpa using hlen) (fun j o gi h3 h4 => hls (j + 1) o gi h3 h4) (hat.step hl hg hn) h2
        (fun τ' H' ρ'' a' w'' hat' hst hk => hQ τ' H' ρ'' a' w'' hat' (hg.step.trans hst) hk))
    split
    · rename_i hw; rw [if_pos hw] at this; exact .inl this
    · rename_i hw; rw [if_neg hw] at this; exact this
end
end Go.Proofs.Ytmkekjmckdkcnaa.Den
namespace Go.Proofs.Ytmkekjmckdkcnaa.Den
open Go Go.RowKit
def I.pure : I → Bool
  | .mv _ | .bse _ _ _ _ _ | .pick _ _ _ | .build _ _ | .nilck _ | .bin _ _ _ | .beq _ _ _ | .eqs _ _ _ _ | .not _ | .neg _ | .conv _ _ | .fa _ _ | .fld _ _ _ _ | .ixa _ _ _ _ _ | .ext _ _ | .mn _ _ | .mx _ _ | .mkif _ _ | .tas _ _ _ _ | .mkfn _ _ _ => true
  | _ => false
def I.isLdc : I → Bool
  | .ldc _ _ _ => true
  | _ => false
def I.quiet (i : I) : Bool := i.pure || i.isLdc
structure Inf where
  d : Option Nat
  rd : List Nat
  p : Bool
  q : Bool
  m : Bool
  c : Bool
def GI.inf (T : Tab) (gi : GI) : Inf := ⟨gi.d, gi.reads, gi.i.pure, gi.i.isLdc, gi.i.mono T, gi.i.isCall⟩
def hits (d : Option Nat) (l : List Nat) : Bool :=
  match d with
  | some n => l.any (Nat.beq n)
  | none => false
def sameD (d e : Option Nat) : Bool :=
  match d, e with
  | some n, some m => Nat.beq n m
  | _, _ => false
def Inf.clash (x y : Inf) : Bool := hits x.d y.rd || (sameD x.d y.d || (hits y.d x.rd || ((!x.m && (!y.p && !(y.q && x.c))) || (!y.m && (!x.p && !(x.q && y.c))))))
def maskOf (tbl : List Nat) (o : Oper) : Nat :=
  o.after.toList.foldl (fun m e => cond (Region.binds .any e) (m ||| (tbl.getD e.on 0 ||| 1 <<< e.on)) m) 0
def ancTab (ops : List Oper) : List Nat := ops.foldl (fun t o => t ++ [maskOf t o]) []
def masksOK (tbl : List Nat) : List Oper → List Nat → Nat → Bool
  | [], [], _ => true
  | o :: r, m :: ms, j => Nat.beq (maskOf tbl o) m && (o.after.toList.all (fun e => !(Region.binds .any e) || Nat.blt e.on j) && masksOK tbl r ms (j + 1))
  | _, _, _ => false
def backOK (x : Inf) (m : Nat) : List Inf → Nat → Bool
  | [], _ => true
  | y :: r, i => (!(y.clash x) || m.testBit i) && backOK x m r (i + 1)
def pairsOK (all : List Inf) : List Inf → List Nat → Nat → Bool
  | [], [], _ => true
  | x :: r, m :: ms, j => backOK x m (all.take j) 0 && pairsOK all r ms (j + 1)
  | _, _, _ => false
def orderOK (T : Tab) (ops : List Oper) (gs : List GI) : Bool :=
  masksOK (ancTab ops) ops (ancTab ops) 0 && pairsOK (gs.map (GI.inf T)) (gs.map (GI.inf T)) (ancTab ops) 0
section
variable {T : Tab}
theorem zol {tbl : List Nat} : ∀ {l : List Oper} {ms : List Nat} {k : Nat}, masksOK tbl l ms k = true → ms.length = l.length ∧
    ∀ (j : Nat) (o : Oper), l[j]? = some o → ms[j]? = some (maskOf tbl o) ∧ ∀ e ∈ o.after, Region.binds .any e = true → e.on < k + j
  | [], [], k, _ => by simp
  | [], _ :: _, _, h => by simp [masksOK] at h
  | _ :: _, [], _, h => by simp [masksOK] at h
  | o :: r, m :: ms, k, h => by
    simp only [masksOK, Bool.and_eq_true, List.all_eq_true] at h
    obtain ⟨h1, h2, h3⟩ := h
    obtain ⟨ih1, ih2⟩ := zol h3
    refine ⟨by simp [ih1], fun j o' hj => ?_⟩
    cases j with
    | zero =>
      simp at hj; subst hj
      refine ⟨by simp [Nat.eq_of_beq_eq_true h1], fun e he hb => ?_⟩
      have := h2 e (by simpa using he)
      rw [hb] at this
      simpa [Nat.blt_eq] using this
    | succ j =>
      obtain ⟨h4, h5⟩ := ih2 j o' (by simpa using hj)
      exact ⟨by simpa using h4, fun e he hb => by have := h5 e he hb; omega⟩
theorem zvh {tbl : List Nat} {o : Oper} {i : Nat} (h : (maskOf tbl o).testBit i = true) : ∃ e ∈ o.after, Region.binds .any e = true ∧ (e.on = i ∨ (tbl.getD e.on 0).testBit i = true) := by
  unfold maskOf at h
  have gen : ∀ (l : List Edge) (m : Nat), (l.foldl (fun m e => cond (Region.binds .any e) (m ||| (tbl.getD e.on 0 ||| 1 <<< e.on)) m) m).testBit i = true →
      m.testBit i = true ∨ ∃ e ∈ l, Region.binds .any e = true ∧ (e.on = i ∨ (tbl.getD e.on 0).testBit i = true) := by
    intro l
    induction l with
    | nil => intro m h; exact .inl h
    | cons e l ih =>
      intro m h
      simp only [List.foldl_cons] at h
      rcases ih _ h with h1 | ⟨e', h2, h3⟩
      · cases hb : Region.binds .any e with
        | false => rw [hb] at h1; exact .inl h1
        | true =>
          rw [hb] at h1
          simp only [cond, Nat.testBit_or, Bool.or_eq_true] at h1
          rcases h1 with h1 | h1 | h1
          · exact .inl h1
          · exact .inr ⟨e, by simp, hb, .inr h1⟩
          · rw [Nat.one_shiftLeft, Nat.testBit_two_pow] at h1
            exact .inr ⟨e, by simp, hb, .inl (by simpa using h1)⟩
      · exact .inr ⟨e', List.mem_cons_of_mem _ h2, h3⟩
  rcases gen _ _ h with h1 | ⟨e, h2, h3⟩
  · simp at h1
  · exact ⟨e, by simpa using h2, h3⟩
theorem zom {x : Inf} {m : Nat} : ∀ {l : List Inf} {k : Nat}, backOK x m l k = true → ∀ (i : Nat) (y : Inf), l[i]? = some y → y.clash x = true → m.testBit (k + i) = true
  | [], _, _, i, y, hy, _ => by simp at hy
  | z :: r, k, h, i, y, hy, hc => by
    simp only [backOK, Bool.and_eq_true] at h
    cases i with
    | zero =>
      simp at hy; subst hy
      have := h.1
      rw [hc] at this
      simpa using this
    | succ i =>
      have := zom h.2 i y (by simpa using hy) hc
      rw [← this]; congr 1; omega
theorem zon {all : List Inf} : ∀ {l : List Inf} {ms : List Nat} {k : Nat}, pairsOK all l ms k = true →
    ∀ (j : Nat) (x : Inf) (m : Nat), l[j]? = some x → ms[j]? = some m → ∀ (i : Nat) (y : Inf), i < k + j → all[i]? = some y → y.clash x = true → m.testBit i = true
  | [], _, _, _, j, x, m, hx, _, i, y, _, _, _ => by simp at hx
  | _ :: _, [], _, _, j, x, m, _, hm, i, y, _, _, _ => by simp at hm
  | z :: r, n :: ms, k, h, j, x, m, hx, hm, i, y, hi, hy, hc => by
    simp only [pairsOK, Bool.and_eq_true] at h
    cases j with
    | zero =>
      simp at hx hm; subst hx; subst hm
      have := zom h.1 i y (by rw [List.getElem?_take, if_pos (by omega)]; exact hy) hc
      simpa using this
    | succ j => exact zon h.2 j x m (by simpa using hx) (by simpa using hm) i y (by omega) hy hc
structure Ordered (T : Tab) (ops : Array Oper) (gs : List GI) (B : Nat → Nat → Prop) : Prop where
  anc : ∀ j o, ops[j]? = some o → ∀ i, B i j → ∃ e ∈ o.after, Region.binds .any e = true ∧ (e.on = i ∨ B i e.on)
  back : ∀ j o, ops[j]? = some o → ∀ e ∈ o.after, Region.binds .any e = true → e.on < j
  pair : ∀ i j x y, i < j → gs[i]? = some x → gs[j]? = some y → (x.inf T).clash (y.inf T) = true → B i j
theorem zvi {ops : Array Oper} {gs : List GI} (hlen : gs.length = ops.size) (h : orderOK T ops.toList gs = true) : ∃ B, Ordered T ops gs B := by
  unfold orderOK at h
  simp only [Bool.and_eq_true] at h
  obtain ⟨h1, h2⟩ := h
  obtain ⟨h3, h4⟩ := zol h1
  refine ⟨fun i j => ((ancTab ops.toList).getD j 0).testBit i = true, fun j o hj i hb => ?_, fun j o hj e he hb => ?_, fun i j x y hij hx hy hc => ?_⟩
  · obtain ⟨h5, _⟩ := h4 j o (by rw [Array.getElem?_toList]; exact hj)
    have h6 : (ancTab ops.toList).getD j 0 = maskOf (ancTab ops.toList) o := by
      rw [List.getD_eq_getElem?_getD, h5]; rfl
    simp only [h6] at hb
    exact zvh hb
  · have := (h4 j o (by rw [Array.getElem?_toList]; exact hj)).2 e he hb
    omega
  · have hj : j < ops.size := by rw [← hlen]; exact (List.getElem?_eq_some_iff.1 hy).1
    have hm : (ancTab ops.toList)[j]? = some ((ancTab ops.toList).getD j 0) := by
      rw [List.getD_eq_getElem?_getD, List.getElem?_eq_getElem (by rw [h3]; simpa using hj)]; rfl
    exact zon h2 j (y.inf T) _ (by rw [List.getElem?_map, hy]; rfl) hm i (x.inf T) (by omega) (by rw [List.getElem?_map, hx]; rfl) hc
end
section
variable {R : Type} {T : Tab} {τ : Env} {H H' : Heap} {v : SV}
theorem zoo {i : I} (hp : i.pure = true) {H2 : Heap} (h : runI T i τ H (fun v H => some (v, H)) = some (v, H')) : H' = H ∧ runI T i τ H2 (fun v H => some (v, H)) = some (v, H2) := by
  cases i <;> simp only [I.pure, Bool.false_eq_true] at hp <;> simp only [runI] at h ⊢
  case bin => rw [zf5, Option.bind_eq_some_iff] at h; obtain ⟨u, h1, h2⟩ := h; simp at h2; obtain ⟨rfl, rfl⟩ := h2; rw [zf5, h1]; exact ⟨rfl, rfl⟩
  case ixa => rw [zf4, Option.bind_eq_some_iff] at h; obtain ⟨u, h1, h2⟩ := h; simp at h2; obtain ⟨rfl, rfl⟩ := h2; rw [zf4, h1]; exact ⟨rfl, rfl⟩
  case fld =>
    split at h
    · rename_i e
      rw [zF, Option.bind_eq_some_iff] at h; obtain ⟨u, h1, h2⟩ := h; simp at h2; obtain ⟨rfl, rfl⟩ := h2; simp only [e]; rw [zF, h1]; first | exact ⟨rfl, rfl⟩ | exact ⟨trivial, rfl⟩
    · simp at h
  case pick =>
    split at h
    · rename_i e
      split at h
      · rename_i e1 e2
        simp at h; obtain ⟨rfl, rfl⟩ := h
        simp [e, e1, e2]
      · rename_i x y e1
        rcases zd h with ⟨rfl, h⟩ | ⟨rfl, h⟩ <;> (simp at h; obtain ⟨rfl, rfl⟩ := h; exact ⟨rfl, rfl⟩)
    · simp at h
  case mn =>
    split at h
    · rename_i e1 e2
      simp only [Option.some.injEq, Prod.mk.injEq] at h; obtain ⟨rfl, rfl⟩ := h
      simp only [e1, e2]; first | exact ⟨rfl, rfl⟩ | exact ⟨trivial, rfl⟩ | exact ⟨trivial, trivial⟩
    · simp at h
  case mx =>
    split at h
    · rename_i e1 e2
      simp only [Option.some.injEq, Prod.mk.injEq] at h; obtain ⟨rfl, rfl⟩ := h
      simp only [e1, e2]; first | exact ⟨rfl, rfl⟩ | exact ⟨trivial, rfl⟩ | exact ⟨trivial, trivial⟩
    · simp at h
  all_goals (repeat' split at h)
  all_goals (first | (simp only [Option.some.injEq, Prod.mk.injEq] at h; obtain ⟨rfl, rfl⟩ := h; first | exact ⟨rfl, rfl⟩ | exact ⟨trivial, rfl⟩ | (simp_all; done)) | (cases h; done) | skip)
end
end Go.Proofs.Ytmkekjmckdkcnaa.Den
namespace Go.Proofs.Ytmkekjmckdkcnaa.Den
open Go Go.RowKit
section
variable {R : Type} {P : Program} {T : Tab} {τ τ' : Env} {H H' : Heap} {v : SV}
theorem zvj {i : I} (h : i.pure = true) : i.mono T = true := by
  cases i <;> simp only [I.pure, Bool.false_eq_true] at h <;> rfl
theorem zop {K : Option Kd} {sz : Nat} {t : TypeId} {s x : SV} (h : appI H K sz t s x (fun v H => some (v, H)) = some (v, H')) : ∃ y, H' = kill s.refs H ++ [y] := by
  unfold appI at h
  have ⟨_, h⟩ := (zd h).resolve_right (by simp)
  unfold appB at h
  split at h
  · split at h
    · split at h
      · obtain ⟨_, h⟩ := za h
        simp only [Option.some.injEq, Prod.mk.injEq] at h
        exact ⟨_, h.2.symm⟩
      · simp at h
    · split at h
      · split at h
        · simp only [Option.some.injEq, Prod.mk.injEq] at h
          exact ⟨_, h.2.symm⟩
        · simp at h
      · simp at h
  · split at h
    · split at h
      · simp only [Option.some.injEq, Prod.mk.injEq] at h
        exact ⟨_, h.2.symm⟩
      · simp at h
    · simp at h
theorem zvk (hT : TabOK P T) {i : I} (hm : i.mono T = true) (h : runI T i τ H (fun v H => some (v, H)) = some (v, H')) : ∃ Δ, H' = H ++ Δ := by
  by_cases hp : i.pure = true
  · exact ⟨[], by rw [(zoo (H2 := H) hp h).1]; simp⟩
  have same : ∀ {f : (SV → Option (SV × Heap)) → Option (SV × Heap)} {g : Option SV}, (f (fun v => some (v, H)) = g.bind fun v => some (v, H)) → f (fun v => some (v, H)) = some (v, H') → ∃ Δ, H' = H ++ Δ := by
    intro f g h1 h2
    rw [h1, Option.bind_eq_some_iff] at h2
    obtain ⟨u, _, h3⟩ := h2
    simp only [Option.some.injEq, Prod.mk.injEq] at h3
    exact ⟨[], by rw [← h3.2]; simp⟩
  cases i <;> simp only [I.pure, not_true_eq_false] at hp <;> simp only [I.mono, Bool.false_eq_true] at hm
  case alloc => simp only [runI, Option.some.injEq, Prod.mk.injEq] at h; exact ⟨_, h.2.symm⟩
  case allocA => simp only [runI, Option.some.injEq, Prod.mk.injEq] at h; exact ⟨_, h.2.symm⟩
  case box =>
    simp only [runI] at h
    split at h
    · simp only [Option.some.injEq, Prod.mk.injEq] at h; exact ⟨_, h.2.symm⟩
    · split at h
      · simp only [Option.some.injEq, Prod.mk.injEq] at h; exact ⟨_, h.2.symm⟩
      · simp at h
  case bsl K frz sz len zs t ps =>
    obtain rfl : frz = false := by cases frz <;> simp at hm ⊢
    simp only [runI] at h
    unfold bslI at h
    split at h
    · simp only [Option.some.injEq, Prod.mk.injEq] at h; exact ⟨[], by rw [← h.2]; simp⟩
    · simp at h
    · split at h
      · simp at h
      · split at h
        · split at h
          · split at h
            · simp only [Option.some.injEq, Prod.mk.injEq] at h; exact ⟨_, h.2.symm⟩
            · simp at h
          · simp only [Option.some.injEq, Prod.mk.injEq] at h; exact ⟨_, h.2.symm⟩
        · simp only [Option.some.injEq, Prod.mk.injEq] at h; exact ⟨_, h.2.symm⟩
  case ld => simp only [runI] at h; exact same (f := fun k => ldI H _ _ _ k) (ldI_nat ..) h
  case ldc =>
    simp only [runI] at h
    split at h
    · split at h
      · exact same (f := fun k => getC _ _ _ _ k) (zF ..) h
      · simp at h
    · simp at h
  case ia => simp only [runI] at h; exact same (f := fun k => iaI H _ _ _ k) (iaI_nat ..) h
  case iar => simp only [runI] at h; exact same (f := fun k => iarI H _ _ _ _ k) (zi4 ..) h
  case sl => simp only [runI] at h; exact same (f := fun k => slI H _ _ _ _ _ k) (slI_nat ..) h
  case len =>
    simp only [runI] at h
    split at h
    · simp only [Option.some.injEq, Prod.mk.injEq] at h; exact ⟨[], by rw [← h.2]; simp⟩
    · simp at h
  case ixs =>
    simp only [runI] at h
    split at h
    · obtain ⟨_, h⟩ := za h
      obtain ⟨_, h⟩ := za h
      simp only [Option.some.injEq, Prod.mk.injEq] at h; exact ⟨[], by rw [← h.2]; simp⟩
    · simp at h
  case nilt =>
    simp only [runI] at h
    split at h
    · obtain ⟨_, h⟩ := za h
      simp only [Option.some.injEq, Prod.mk.injEq] at h; exact ⟨[], by rw [← h.2]; simp⟩
    · simp at h
  case cap0 =>
    simp only [runI] at h
    split at h
    · simp only [Option.some.injEq, Prod.mk.injEq] at h; exact ⟨[], by rw [← h.2]; simp⟩
    · simp at h
  case appz =>
    simp only [runI] at h
    split at h
    · obtain ⟨_, h⟩ := za h
      obtain ⟨_, h⟩ := za h
      simp only [Option.some.injEq, Prod.mk.injEq] at h; exact ⟨_, h.2.symm⟩
    · simp at h
  case app0 =>
    simp only [runI] at h
    split at h
    · obtain ⟨y, hy⟩ := zop h
      exact ⟨[y], by rw [hy]; rfl⟩
    · simp at h
  case mk K zs t n cap =>
    simp only [runI, mkI] at h
    have fin : ∀ {y : Blk}, H ++ [y] = H' → ∃ Δ, H' = H ++ Δ := fun h => ⟨_, h.symm⟩
    split at h
    · split at h
      · split at h
        · obtain ⟨_, h⟩ := za h
          obtain ⟨_, h⟩ := za h
          simp only [Option.some.injEq, Prod.mk.injEq] at h; exact fin h.2
        · split at h
          · split at h
            · simp only [Option.some.injEq, Prod.mk.injEq] at h; exact fin h.2
            · simp at h
          · simp at h
      · split at h
        · obtain ⟨_, h⟩ := za h
          obtain ⟨_, h⟩ := za h
          obtain ⟨_, h⟩ := za h
          simp only [Option.some.injEq, Prod.mk.injEq] at h; exact fin h.2
        · split at h
          · split at h
            · simp only [Option.some.injEq, Prod.mk.injEq] at h; exact fin h.2
            · simp at h
          · simp at h
      · simp at h
    · simp at h
  case call f as =>
    simp only [runI] at h
    obtain ⟨te, x, y, h1, h2, h3, h4⟩ := zi2 h
    exact hT.ext f te h1 (zoc (as := as) h1 (by simpa only [I.mono] using hm)) x y _ _ _ _ h4
theorem zi6 (hT : TabOK P T) {gi : GI} (hm : gi.i.mono T = true) (h : stepG T gi τ H = some (τ', H')) : ∃ Δ, H' = H ++ Δ := by
  obtain ⟨b, _, _, h3, h4⟩ := zga h
  cases b with
  | true => obtain ⟨v, h5, _⟩ := h3 rfl; exact zvk hT hm h5
  | false => exact ⟨[], by rw [(h4 rfl).1]; simp⟩
theorem zoq {gi : GI} (hp : gi.i.pure = true) (h : stepG T gi τ H = some (τ', H')) (H2 : Heap) : H' = H ∧ stepG T gi τ H2 = some (τ', H2) := by
  have run : ∀ {τ1 : Env}, runI T gi.i τ1 H (fun v H' => some (putD τ1 gi.d v, H')) = some (τ', H') → H' = H ∧ runI T gi.i τ1 H2 (fun v H' => some (putD τ1 gi.d v, H')) = some (τ', H2) := by
    intro τ1 h1
    rw [zX, Option.bind_eq_some_iff] at h1
    obtain ⟨⟨v, H3⟩, h2, h3⟩ := h1
    simp only [Option.some.injEq, Prod.mk.injEq] at h3
    obtain ⟨rfl, rfl⟩ := h3
    obtain ⟨h4, h5⟩ := zoo (H2 := H2) hp h2
    rw [zX, h5]
    exact ⟨h4, rfl⟩
  unfold stepG runG at h ⊢
  split at h
  · exact run h
  · split at h
    · rename_i e
      simp only [e]
      split at h
      · rcases zd h with ⟨rfl, h⟩ | ⟨rfl, h⟩
        · exact run h
        · simp only [Option.some.injEq, Prod.mk.injEq] at h
          obtain ⟨rfl, rfl⟩ := h
          exact ⟨rfl, rfl⟩
      · rcases zd h with ⟨rfl, h⟩ | ⟨rfl, h⟩
        · simp only [Option.some.injEq, Prod.mk.injEq] at h
          obtain ⟨rfl, rfl⟩ := h
          exact ⟨rfl, rfl⟩
        · exact run h
    · rename_i e
      simp only [e]
      simp only [Option.some.injEq, Prod.mk.injEq] at h
      obtain ⟨rfl, rfl⟩ := h
      exact ⟨rfl, rfl⟩
    · simp at h
theorem zgd {i : I} (h : i.quiet = true) : i.mono T = true := by
  unfold I.quiet at h
  simp only [Bool.or_eq_true] at h
  rcases h with h | h
  · exact zvj h
  · cases i <;> simp only [I.isLdc, Bool.false_eq_true] at h <;> rfl
theorem zor {gi : GI} {n : Nat} {ag : Bool} {s : Nat} (hi : gi.i = .ldc n ag s) (h : stepG T gi τ H = some (τ', H')) {H2 : Heap} (hH2 : ∀ β off cs t z, Tm.get τ s = .ptr β off → H[β]? = some (.cells cs t z) → H2[β]? = some (.cells cs t z)) :
    H' = H ∧ stepG T gi τ H2 = some (τ', H2) := by
  have run : ∀ {τ1 : Env}, (Tm.get τ1 s = Tm.get τ s) → runI T gi.i τ1 H (fun v H' => some (putD τ1 gi.d v, H')) = some (τ', H') → H' = H ∧ runI T gi.i τ1 H2 (fun v H' => some (putD τ1 gi.d v, H')) = some (τ', H2) := by
    intro τ1 e h1
    rw [hi] at h1 ⊢
    simp only [runI, e] at h1 ⊢
    split at h1
    · rename_i β off e1
      split at h1
      · rename_i cs t z e2
        simp only [hH2 β off cs t z e1 e2]
        rw [zF, Option.bind_eq_some_iff] at h1 ⊢
        obtain ⟨v, h2, h3⟩ := h1
        simp only [Option.some.injEq, Prod.mk.injEq] at h3
        obtain ⟨rfl, rfl⟩ := h3
        exact ⟨rfl, v, h2, rfl⟩
      · simp at h1
    · simp at h1
  have same : ∀ {m : Nat} {v : SV}, Tm.get τ m = v → Tm.get ((m, v) :: τ) s = Tm.get τ s := fun e => zd4 e s
  unfold stepG runG at h ⊢
  split at h
  · exact run rfl h
  · split at h
    · rename_i e
      simp only [e]
      split at h
      · rcases zd h with ⟨rfl, h⟩ | ⟨rfl, h⟩
        · exact run (same e) h
        · simp only [Option.some.injEq, Prod.mk.injEq] at h
          obtain ⟨rfl, rfl⟩ := h
          exact ⟨rfl, rfl⟩
      · rcases zd h with ⟨rfl, h⟩ | ⟨rfl, h⟩
        · simp only [Option.some.injEq, Prod.mk.injEq] at h
          obtain ⟨rfl, rfl⟩ := h
          exact ⟨rfl, rfl⟩
        · exact run (same e) h
    · rename_i e
      simp only [e]
      simp only [Option.some.injEq, Prod.mk.injEq] at h
      obtain ⟨rfl, rfl⟩ := h
      exact ⟨rfl, rfl⟩
    · simp at h
theorem zos {gi : GI} (hq : gi.i.quiet = true) (h : stepG T gi τ H = some (τ', H')) : H' = H := by
  unfold I.quiet at hq
  simp only [Bool.or_eq_true] at hq
  rcases hq with hq | hq
  · exact (zoq hq h []).1
  · cases hi : gi.i <;> rw [hi] at hq <;> simp only [I.isLdc, Bool.false_eq_true] at hq
    exact (zor hi h (H2 := H) fun _ _ _ _ _ _ h => h).1
theorem zbx {i : I} (h : i.quiet = false) : i.pure = false ∧ i.isLdc = false := by
  unfold I.quiet at h
  simpa using h
theorem zvl (hT : TabOK P T) {i : I} (hl : i.isCall = true) (h : runI T i τ H (fun v H => some (v, H)) = some (v, H')) : H.length ≤ H'.length ∧ ∀ γ, γ < H.length → γ ∉ i.touch τ → H'[γ]? = H[γ]? := by
  cases i <;> simp only [I.isCall, Bool.false_eq_true] at hl
  case call f as =>
    simp only [runI] at h
    obtain ⟨te, x, y, h1, h2, h3, h5⟩ := zi2 h
    obtain ⟨h6, h7⟩ := hT.tch f te h1 _ _ _ _ _ _ h2 h5
    refine ⟨h6, fun γ h8 h9 => h7 γ h8 ?_⟩
    cases as with
    | nil => simp [SV.refs]
    | cons a as => simpa [I.touch] using h9
  case app K sz t s x =>
    simp only [runI] at h
    obtain ⟨y, rfl⟩ := zop h
    refine ⟨by rw [zof]; omega, fun γ h8 h9 => ?_⟩
    rw [List.getElem?_append_left (by rw [zk]; exact h8), zbt, if_neg (fun h => h9 (by simpa [I.touch] using h.1))]
theorem zvm {tc rd : List Nat} (h : apart tc rd = true) : ∀ β ∈ rd, β ∉ tc := by
  unfold apart at h
  simp only [List.all_eq_true] at h
  intro β hβ hm
  have := h β hβ
  simp only [Bool.not_eq_true', List.any_eq_false] at this
  exact this β hm (Nat.beq_refl β)
theorem zot {k : Env → Heap → Option R} {r : R} : ∀ {gs : List GI} {tc rd : List Nat} {τ : Env} {H : Heap}, (∀ β ∈ rd, β ∉ tc) → runRD T gs tc rd τ H k = some r →
    ∃ st : Nat → Env × Heap, st 0 = (τ, H) ∧ (∀ j gi, gs[j]? = some gi → stepG T gi (st j).1 (st j).2 = some (st (j + 1))) ∧ k (st gs.length).1 (st gs.length).2 = some r ∧
      ∀ β, (β ∈ rd ∨ ∃ (j : Nat) (gj : GI), gs[j]? = some gj ∧ β ∈ gj.calmOf (st j).1) → β ∉ tc ∧ ∀ (i : Nat) (gi : GI), gs[i]? = some gi → β ∉ gi.touched T (st i).1
  | [], tc, rd, τ, H, hd, h => ⟨fun _ => (τ, H), rfl, fun j gi hj => by simp at hj, h, fun β hb => by
      rcases hb with hb | ⟨j, gj, hj, _⟩
      · exact ⟨hd β hb, fun i gi hi => by simp at hi⟩
      · simp at hj⟩
  | gi :: gs, tc, rd, τ, H, hd, h => by
    simp only [runRD] at h
    rcases zd h with ⟨ha, h⟩ | ⟨_, h⟩
    · rw [zf6, Option.bind_eq_some_iff] at h
      obtain ⟨⟨τ1, H1⟩, h1, h2⟩ := h
      obtain ⟨st, h3, h4, h5, h6⟩ := zot (zvm ha) h2
      refine ⟨fun j => match j with | 0 => (τ, H) | j + 1 => st j, rfl, fun j gj hj => ?_, h5, fun β hb => ?_⟩
      · cases j with
        | zero => simp at hj; subst hj; simp only [h3]; exact h1
        | succ j => exact h4 j gj (by simpa using hj)
      · obtain ⟨h8, h10⟩ := h6 β (by
          rcases hb with hb | ⟨j, gj, hj, hb⟩
          · exact .inl (List.mem_append.2 (.inr hb))
          · cases j with
            | zero => simp at hj; subst hj; exact .inl (List.mem_append.2 (.inl hb))
            | succ j => exact .inr ⟨j, gj, by simpa using hj, hb⟩)
        refine ⟨fun h => h8 (List.mem_append.2 (.inr h)), fun i gi' hi => ?_⟩
        cases i with
        | zero => simp at hi; subst hi; exact fun h => h8 (List.mem_append.2 (.inl h))
        | succ i => exact h10 i gi' (by simpa using hi)
    · simp at h
end
section
variable {P : Program} {T : Tab} {ops : Array Oper} {gs : List GI} {B : Nat → Nat → Prop} {st : Nat → Env × Heap} {N : Nat}
def lst (L : Array Bool) (j : Nat) : Prop := L.getD j false = true
structure DInv (T : Tab) (gs : List GI) (B : Nat → Nat → Prop) (st : Nat → Env × Heap) (N n : Nat) (ρ0 : Map) (w0 : World) (L : Array Bool) (a : Act) (w : World) (ρ : Map) (J : Nat) : Prop where
  size : L.size = n
  N : a.tmps.size = N
  d : a.defers = []
  closed : ∀ j, lst L j → ∀ i, B i j → lst L i
  Jle : J ≤ n
  Jl : ∀ i gi, i < J → gs[i]? = some gi → gi.i.mono T = false → lst L i
  Ju : J < n → ¬ lst L J ∧ ∃ gi, gs[J]? = some gi ∧ gi.i.mono T = false
  h : HRel ρ (st J).2 w
  u : ∀ β, (st J).2.length ≤ β → ρ β = .unborn
  ui : ∀ i, i < J → ¬ lst L i → ∀ β, (st i).2.length ≤ β → β < (st (i + 1)).2.length → ρ β = .unborn
  s : ∀ s j, j ≤ n → (∀ i gi, i < j → gs[i]? = some gi → gi.d = some s → lst L i) → (∀ i gi, j ≤ i → gs[i]? = some gi → gi.d = some s → ¬ lst L i) → VRel ρ w (Tm.get (st j).1 s) (a.tmps.getD s undef)
  st : Step ρ0 w0 ρ w
theorem zi7 (hst : ∀ j gi, gs[j]? = some gi → stepG T gi (st j).1 (st j).2 = some (st (j + 1))) {s j : Nat} : ∀ {k : Nat}, j ≤ k → k ≤ gs.length →
    (∀ i gi, j ≤ i → i < k → gs[i]? = some gi → gi.d ≠ some s) → Tm.get (st k).1 s = Tm.get (st j).1 s
  | 0, hj, _, _ => by rw [Nat.le_zero.1 hj]
  | k + 1, hj, hk, h => by
    rcases Nat.lt_or_ge j (k + 1) with hlt | hge
    · have hkl : k < gs.length := by omega
      have h1 := hst k gs[k] (List.getElem?_eq_getElem hkl)
      have h2 := h k gs[k] (by omega) (by omega) (List.getElem?_eq_getElem hkl)
      obtain ⟨b, _, _, h3, h4⟩ := zga h1
      have e : Tm.get (st (k + 1)).1 s = Tm.get (st k).1 s := by
        cases b with
        | true => obtain ⟨v, _, h5⟩ := h3 rfl; rw [h5, if_neg h2]
        | false => rw [(h4 rfl).2, if_neg h2]
      rw [e]
      exact zi7 hst (by omega) (by omega) fun i gi h5 h6 h7 => h i gi h5 (by omega) h7
    · have : j = k + 1 := by omega
      rw [this]
theorem zac (hT : TabOK P T) (hst : ∀ j gi, gs[j]? = some gi → stepG T gi (st j).1 (st j).2 = some (st (j + 1))) {j : Nat} : ∀ {k : Nat}, j ≤ k → k ≤ gs.length →
    (∀ i gi, j ≤ i → i < k → gs[i]? = some gi → gi.i.mono T = true) → ∃ Δ, (st k).2 = (st j).2 ++ Δ
  | 0, hj, _, _ => by rw [Nat.le_zero.1 hj]; exact ⟨[], by simp⟩
  | k + 1, hj, hk, h => by
    rcases Nat.lt_or_ge j (k + 1) with hlt | hge
    · have hkl : k < gs.length := by omega
      obtain ⟨Δ, h1⟩ := zi6 hT (h k gs[k] (by omega) (by omega) (List.getElem?_eq_getElem hkl)) (hst k gs[k] (List.getElem?_eq_getElem hkl))
      obtain ⟨Δ', h2⟩ := zac hT hst (show j ≤ k by omega) (by omega) fun i gi h5 h6 h7 => h i gi h5 (by omega) h7
      exact ⟨Δ' ++ Δ, by rw [h1, h2, List.append_assoc]⟩
    · have : j = k + 1 := by omega
      rw [this]; exact ⟨[], by simp⟩
theorem next_w {n : Nat} (hn : gs.length = n) : ∀ (m lo : Nat), lo + m = n → ∃ J, lo ≤ J ∧ J ≤ n ∧ (∀ i gi, lo ≤ i → i < J → gs[i]? = some gi → gi.i.mono T = true) ∧ (J < n → ∃ gi, gs[J]? = some gi ∧ gi.i.mono T = false)
  | 0, lo, h => ⟨lo, Nat.le_refl _, by omega, fun i gi h1 h2 => by omega, fun h1 => by omega⟩
  | m + 1, lo, h => by
    have hlo : lo < gs.length := by omega
    cases hm : gs[lo].i.mono T with
    | false => exact ⟨lo, Nat.le_refl _, by omega, fun i gi h1 h2 => by omega, fun _ => ⟨gs[lo], List.getElem?_eq_getElem hlo, hm⟩⟩
    | true =>
      obtain ⟨J, h1, h2, h3, h4⟩ := next_w hn m (lo + 1) (by omega)
      refine ⟨J, by omega, h2, fun i gi h5 h6 h7 => ?_, h4⟩
      rcases Nat.lt_or_ge lo i with h8 | h8
      · exact h3 i gi h8 h6 h7
      · have : i = lo := by omega
        subst this
        rw [List.getElem?_eq_getElem hlo] at h7
        cases h7; exact hm
theorem lst_set {L : Array Bool} {j : Nat} (hj : j < L.size) (i : Nat) : lst (L.setIfInBounds j true) i ↔ i = j ∨ lst L i := by
  unfold lst
  by_cases h : j = i
  · subst h; simp [hj]
  · rw [getD_set_ne false h]; simp [Ne.symm h]
theorem hits_of {d : Option Nat} {l : List Nat} {s : Nat} (hd : d = some s) (h : s ∈ l) : hits d l = true := by
  subst hd; simp [hits]; exact h
theorem zvn {d e : Option Nat} {s : Nat} (hd : d = some s) (he : e = some s) : sameD d e = true := by
  subst hd; subst he; simp [sameD]
theorem HRel.pre {ρ : Map} {H Δ : Heap} {w : World} (h : HRel ρ (H ++ Δ) w) : HRel ρ H w where
  dead β hl hr := by have := h.dead β (by simp; omega) hr; rwa [List.getElem?_append_left hl] at this
  none_ β hl hr := by have := h.none_ β (by simp; omega) hr; rwa [List.getElem?_append_left hl] at this
  at_ β hl b o n sz hr := by have := h.at_ β (by simp; omega) b o n sz hr; rwa [List.getElem?_append_left hl] at this
  inj := h.inj
  lt := h.lt
  resl := h.resl
  resf := h.resf
theorem HRel.ext {ρ : Map} {H : Heap} {w : World} (h : HRel ρ H w) (hu : ∀ β, H.length ≤ β → ρ β = .unborn) (Δ : Heap) : HRel ρ (H ++ Δ) w where
  dead β hl hr := by
    rcases Nat.lt_or_ge β H.length with h1 | h1
    · rw [List.getElem?_append_left h1]; exact h.dead β h1 hr
    · rw [hu β h1] at hr; cases hr
  none_ β hl hr := by
    rcases Nat.lt_or_ge β H.length with h1 | h1
    · rw [List.getElem?_append_left h1]; exact h.none_ β h1 hr
    · rw [hu β h1] at hr; cases hr
  at_ β hl b o n sz hr := by
    rcases Nat.lt_or_ge β H.length with h1 | h1
    · rw [List.getElem?_append_left h1]; exact h.at_ β h1 b o n sz hr
    · rw [hu β h1] at hr; cases hr
  inj := h.inj
  lt := h.lt
  resl := h.resl
  resf := h.resf
theorem HRel.mid {ρ ρ' : Map} {H H' Δ : Heap} {w w' : World} {v : SV} {u : Value} (h : HRel ρ (H' ++ Δ) w) (hg : Good true ρ H w v H' u w' ρ') : HRel ρ' (H' ++ Δ) w' where
  dead β hl hr := by
    rcases Nat.lt_or_ge β H'.length with h1 | h1
    · rw [List.getElem?_append_left h1]; exact hg.hrel.dead β h1 hr
    · rw [(hg.mono rfl).2.1 β (.inr h1)] at hr; exact h.dead β hl hr
  none_ β hl hr := by
    rcases Nat.lt_or_ge β H'.length with h1 | h1
    · rw [List.getElem?_append_left h1]; exact hg.hrel.none_ β h1 hr
    · rw [(hg.mono rfl).2.1 β (.inr h1)] at hr; exact h.none_ β hl hr
  at_ β hl b o n sz hr := by
    rcases Nat.lt_or_ge β H'.length with h1 | h1
    · rw [List.getElem?_append_left h1]; exact hg.hrel.at_ β h1 b o n sz hr
    · rw [(hg.mono rfl).2.1 β (.inr h1)] at hr
      obtain ⟨x, h2, h3⟩ := h.at_ β hl b o n sz hr
      exact ⟨x, h2, h3.keep hg.step ((hg.mono rfl).2.2 b (h.lt _ _ _ _ _ hr)) fun b' hb' => ⟨h.vlt hb', (hg.mono rfl).2.2 b' (h.vlt hb')⟩⟩
  inj := hg.hrel.inj
  lt := hg.hrel.lt
  resl := hg.hrel.resl
  resf := hg.hrel.resf
variable {n : Nat} {ρ0 : Map} {w0 : World} {L : Array Bool} {a : Act} {w : World} {ρ : Map} {J : Nat}
theorem DInv.slots (hi : DInv T gs B st N n ρ0 w0 L a w ρ J) (hord : Ordered T ops gs B) (hn : gs.length = n) (hst : ∀ j gi, gs[j]? = some gi → stepG T gi (st j).1 (st j).2 = some (st (j + 1)))
    {j : Nat} {gi : GI} {o : Oper} (hj : j < n) (hun : ¬ lst L j) (hgi : gs[j]? = some gi) (hl : LOp P N ops o gi) {v : SV} {u : Value} {w' : World} {ρ' : Map} (hs : Step ρ w ρ' w') (hv : VRel ρ' w' v u)
    (hnx : ∀ m, Tm.get (st (j + 1)).1 m = if gi.d = some m then v else Tm.get (st j).1 m) :
    ∀ s k, k ≤ n → (∀ i gi, i < k → gs[i]? = some gi → gi.d = some s → lst (L.setIfInBounds j true) i) → (∀ i gi, k ≤ i → gs[i]? = some gi → gi.d = some s → ¬ lst (L.setIfInBounds j true) i) →
      VRel ρ' w' (Tm.get (st k).1 s) ((a.put o.dst u).tmps.getD s undef) := by
  intro s k hk h1 h2
  have hjs : j < L.size := by rw [hi.size]; exact hj
  rw [put_get (fun d hd => by rw [hi.N]; exact hl.lt d hd), ← hl.d]
  by_cases hd : gi.d = some s
  · rw [if_pos hd]
    have hjk : j < k := by
      rcases Nat.lt_or_ge j k with h | h
      · exact h
      · exact absurd ((lst_set hjs j).2 (.inl rfl)) (h2 j gi h hgi hd)
    have hc := zi7 (s := s) hst (show j + 1 ≤ k by omega) (by omega) fun i gi' h3 h4 h5 h6 => by
      have h7 := (lst_set hjs i).1 (h1 i gi' h4 h5 h6)
      rcases h7 with h7 | h7
      · omega
      · have hb : B j i := hord.pair j i gi gi' (by omega) hgi h5 (by
          simp only [Inf.clash, GI.inf]; rw [zvn hd h6]; simp)
        exact hun (hi.closed i h7 j hb)
    rw [hc, hnx, if_pos hd]
    exact hv
  · rw [if_neg hd]
    refine (hi.s s k hk (fun i gi' h3 h4 h5 => ?_) (fun i gi' h3 h4 h5 h6 => h2 i gi' h3 h4 h5 ((lst_set hjs i).2 (.inr h6)))).step hs
    rcases (lst_set hjs i).1 (h1 i gi' h3 h4 h5) with h7 | h7
    · subst h7
      rw [hgi] at h4; cases h4
      exact absurd h5 hd
    · exact h7
theorem DInv.reads (hi : DInv T gs B st N n ρ0 w0 L a w ρ J) (hord : Ordered T ops gs B) (hn : gs.length = n) {j : Nat} {gi : GI} (hj : j < n) (hun : ¬ lst L j) (hgi : gs[j]? = some gi) (hanc : ∀ i, B i j → lst L i) :
    ∀ s ∈ gi.reads, VRel ρ w (Tm.get (st j).1 s) (a.tmps.getD s undef) := by
  intro s hs
  refine hi.s s j (by omega) (fun i gi' h1 h2 h3 => ?_) (fun i gi' h1 h2 h3 h4 => ?_)
  · refine hanc i (hord.pair i j gi' gi h1 h2 hgi ?_)
    simp only [Inf.clash, GI.inf]; rw [hits_of h3 hs]; simp
  · rcases Nat.lt_or_ge j i with h5 | h5
    · refine hun (hi.closed i h4 j (hord.pair j i gi gi' h5 hgi h2 ?_))
      simp only [Inf.clash, GI.inf]; rw [hits_of h3 hs]; simp
    · have : i = j := by omega
      subst this; exact hun h4
end
end Go.Proofs.Ytmkekjmckdkcnaa.Den
namespace Go.Proofs.Ytmkekjmckdkcnaa.Den
open Go Go.RowKit
section
variable {P : Program} {T : Tab} {ops : Array Oper} {gs : List GI} {B : Nat → Nat → Prop} {st : Nat → Env × Heap} {N : Nat}
variable {n : Nat} {ρ0 : Map} {w0 : World} {L : Array Bool} {a : Act} {w : World} {ρ : Map} {J : Nat}
theorem zi8 (hord : Ordered T ops gs B) (hc : ∀ j, lst L j → ∀ i, B i j → lst L i) {j : Nat} (hj : j < L.size) (hanc : ∀ i, B i j → lst L i) :
    ∀ k, lst (L.setIfInBounds j true) k → ∀ i, B i k → lst (L.setIfInBounds j true) i := by
  intro k hk i hb
  rcases (lst_set hj k).1 hk with h | h
  · subst h; exact (lst_set hj i).2 (.inr (hanc i hb))
  · exact (lst_set hj i).2 (.inr (hc k h i hb))
theorem DInv.mids (hi : DInv T gs B st N n ρ0 w0 L a w ρ J) (hord : Ordered T ops gs B) {j : Nat} {gi : GI} (hjJ : j < J) (hun : ¬ lst L j) (hgi : gs[j]? = some gi) (hp : gi.i.quiet = false) :
    ∀ i gi', j ≤ i → i < J → gs[i]? = some gi' → gi'.i.mono T = true := by
  intro i gi' h1 h2 h3
  cases h4 : gi'.i.mono T with
  | true => rfl
  | false =>
    have h5 := hi.Jl i gi' h2 h3 h4
    rcases Nat.lt_or_ge j i with h6 | h6
    · refine absurd (hi.closed i h5 j (hord.pair j i gi gi' h6 hgi h3 ?_)) hun
      simp [Inf.clash, GI.inf, h4, zbx hp]
    · have : i = j := by omega
      subst this; exact absurd h5 hun
theorem DInv.pure (hT : TabOK P T) (hi : DInv T gs B st N n ρ0 w0 L a w ρ J) (hord : Ordered T ops gs B) (hn : gs.length = n) (hst : ∀ j gi, gs[j]? = some gi → stepG T gi (st j).1 (st j).2 = some (st (j + 1)))
    {j : Nat} {gi : GI} {o : Oper} (hj : j < n) (hun : ¬ lst L j) (hgi : gs[j]? = some gi) (hl : LOp P N ops o gi) (hanc : ∀ i, B i j → lst L i) (hm : gi.i.mono T = true) (h2 : stepG T gi (st j).1 (st J).2 = some ((st (j + 1)).1, (st J).2)) {K : Act → World → Prop} {Q : Exit → Act → World → Prop}
    (hK : ∀ a' w' ρ', DInv T gs B st N n ρ0 w0 (L.setIfInBounds j true) a' w' ρ' J → K a' w') :
    if Region.wanted o (yielded ops a.tmps) = true then o.wp P a w K Q else K (a.put o.dst undef) w := by
  have hjs : j < L.size := by rw [hi.size]; exact hj
  refine zgb (m := true) hT hl (fun _ => hm) hi.N hi.d (hi.reads hord hn hj hun hgi hanc) hi.h (fun β h3 h4 => by omega) (fun h => by cases h) h2 fun v u w' ρ' hg hnx => hK _ _ ρ' ?_
  have hρ : ∀ β, ρ' β = ρ β := fun β => (hg.mono rfl).2.1 β (by omega)
  exact {
    size := by simp [hi.size]
    N := by rw [zgc]; exact hi.N
    d := by rw [put_defers']; exact hi.d
    closed := zi8 hord hi.closed hjs hanc
    Jle := hi.Jle
    Jl := fun i gi' h3 h4 h5 => (lst_set hjs i).2 (.inr (hi.Jl i gi' h3 h4 h5))
    Ju := fun h3 => by
      obtain ⟨h4, gi', h5, h6⟩ := hi.Ju h3
      refine ⟨fun h7 => ?_, gi', h5, h6⟩
      rcases (lst_set hjs J).1 h7 with h8 | h8
      · subst h8; rw [hgi] at h5; cases h5; rw [hm] at h6; cases h6
      · exact h4 h8
    h := hg.hrel
    u := fun β h3 => by rw [hρ]; exact hi.u β h3
    ui := fun i h3 h4 β h5 h6 => by rw [hρ]; exact hi.ui i h3 (fun h7 => h4 ((lst_set hjs i).2 (.inr h7))) β h5 h6
    s := hi.slots hord hn hst hj hun hgi hl hg.step hg.vrel hnx
    st := hi.st.trans hg.step }
theorem DInv.mono (hT : TabOK P T) (hi : DInv T gs B st N n ρ0 w0 L a w ρ J) (hord : Ordered T ops gs B) (hn : gs.length = n) (hst : ∀ j gi, gs[j]? = some gi → stepG T gi (st j).1 (st j).2 = some (st (j + 1)))
    {j : Nat} {gi : GI} {o : Oper} (hj : j < n) (hun : ¬ lst L j) (hgi : gs[j]? = some gi) (hl : LOp P N ops o gi) (hanc : ∀ i, B i j → lst L i) (hp : gi.i.quiet = false) (hm : gi.i.mono T = true) {K : Act → World → Prop} {Q : Exit → Act → World → Prop}
    (hK : ∀ a' w' ρ', DInv T gs B st N n ρ0 w0 (L.setIfInBounds j true) a' w' ρ' J → K a' w') :
    if Region.wanted o (yielded ops a.tmps) = true then o.wp P a w K Q else K (a.put o.dst undef) w := by
  have hjs : j < L.size := by rw [hi.size]; exact hj
  have hjJ : j < J := by
    rcases Nat.lt_or_ge j J with h | h
    · exact h
    · have hJn : J < n := by omega
      obtain ⟨h4, gi', h5, h6⟩ := hi.Ju hJn
      have hne : J ≠ j := by rintro rfl; rw [hgi] at h5; cases h5; rw [hm] at h6; cases h6
      refine absurd (hanc J (hord.pair J j gi' gi (by omega) h5 hgi ?_)) h4
      simp [Inf.clash, GI.inf, h6, zbx hp]
  have hJn := hi.Jle
  have hmid := hi.mids hord hjJ hun hgi hp
  obtain ⟨Δ, hΔ⟩ := zac hT hst (show j + 1 ≤ J by omega) (by omega) fun i gi' h1 h2 h3 => hmid i gi' (by omega) h2 h3
  obtain ⟨Δ1, hΔ1⟩ := zi6 hT hm (hst j gi hgi)
  have hH : HRel ρ (st j).2 w := by
    have := hi.h
    rw [hΔ, hΔ1, List.append_assoc] at this
    exact this.pre
  have hlen : (st (j + 1)).2.length ≤ (st J).2.length := by rw [hΔ]; simp
  refine zgb (m := true) hT hl (fun _ => hm) hi.N hi.d (hi.reads hord hn hj hun hgi hanc) hH (fun β h3 h4 => hi.ui j hjJ hun β h3 h4) (fun h => by cases h) (hst j gi hgi) fun v u w' ρ' hg hnx => hK _ _ ρ' ?_
  have hρ : ∀ β, (β < (st j).2.length ∨ (st (j + 1)).2.length ≤ β) → ρ' β = ρ β := (hg.mono rfl).2.1
  have hle : ∀ i k, i ≤ k → k ≤ J → j ≤ i → (st i).2.length ≤ (st k).2.length := by
    intro i k h1 h2 h3
    obtain ⟨Δ2, h4⟩ := zac hT hst h1 (by omega) fun q gi' h5 h6 h7 => hmid q gi' (by omega) (by omega) h7
    rw [h4]; simp
  exact {
    size := by simp [hi.size]
    N := by rw [zgc]; exact hi.N
    d := by rw [put_defers']; exact hi.d
    closed := zi8 hord hi.closed hjs hanc
    Jle := hi.Jle
    Jl := fun i gi' h3 h4 h5 => (lst_set hjs i).2 (.inr (hi.Jl i gi' h3 h4 h5))
    Ju := fun h3 => by
      obtain ⟨h4, gi', h5, h6⟩ := hi.Ju h3
      refine ⟨fun h7 => ?_, gi', h5, h6⟩
      rcases (lst_set hjs J).1 h7 with h8 | h8
      · omega
      · exact h4 h8
    h := by
      have := hi.h
      rw [hΔ] at this ⊢
      exact this.mid hg
    u := fun β h3 => by rw [hρ β (.inr (by omega))]; exact hi.u β h3
    ui := fun i h3 h4 β h5 h6 => by
      have hnl : ¬ lst L i := fun h7 => h4 ((lst_set hjs i).2 (.inr h7))
      have hij : i ≠ j := by rintro rfl; exact h4 ((lst_set hjs i).2 (.inl rfl))
      have := hi.ui i h3 hnl β h5 h6
      rcases Nat.lt_or_ge j i with h8 | h8
      · rw [hρ β (.inr (Nat.le_trans (hle (j + 1) i h8 (by omega) (by omega)) h5))]; exact this
      · have hin : i < gs.length := by omega
        have hgi' := List.getElem?_eq_getElem hin
        cases hpi : gs[i].i.quiet with
        | true =>
          have := zos hpi (hst i _ hgi')
          rw [this] at h6; omega
        | false =>
          have hmi := hi.mids hord h3 hnl hgi' hpi
          obtain ⟨Δ2, h9⟩ := zac hT hst (show i + 1 ≤ j by omega) (by omega) fun q gi' h10 h11 h12 => hmi q gi' (by omega) (by omega) h12
          rw [hρ β (.inl (by rw [h9]; simp; omega))]; exact this
    s := hi.slots hord hn hst hj hun hgi hl hg.step hg.vrel hnx
    st := hi.st.trans hg.step }
theorem DInv.change (hT : TabOK P T) (hi : DInv T gs B st N n ρ0 w0 L a w ρ J) (hord : Ordered T ops gs B) (hn : gs.length = n) (hst : ∀ j gi, gs[j]? = some gi → stepG T gi (st j).1 (st j).2 = some (st (j + 1)))
    {j : Nat} {gi : GI} {o : Oper} (hj : j < n) (hun : ¬ lst L j) (hgi : gs[j]? = some gi) (hl : LOp P N ops o gi) (hanc : ∀ i, B i j → lst L i) (hm : gi.i.mono T = false) {K : Act → World → Prop} {Q : Exit → Act → World → Prop}
    (hK : ∀ a' w' ρ' J', DInv T gs B st N n ρ0 w0 (L.setIfInBounds j true) a' w' ρ' J' → K a' w') :
    if Region.wanted o (yielded ops a.tmps) = true then o.wp P a w K Q else K (a.put o.dst undef) w := by
  have hjs : j < L.size := by rw [hi.size]; exact hj
  have hp : gi.i.quiet = false := by
    cases h : gi.i.quiet with
    | false => rfl
    | true => rw [zgd h] at hm; cases hm
  obtain rfl : j = J := by
    rcases Nat.lt_trichotomy j J with h | h | h
    · exact absurd (hi.Jl j gi h hgi hm) hun
    · exact h
    · obtain ⟨h4, gi', h5, h6⟩ := hi.Ju (by omega)
      refine absurd (hanc J (hord.pair J j gi' gi h h5 hgi ?_)) h4
      simp [Inf.clash, GI.inf, h6, zbx hp]
  refine zgb (m := false) hT hl (by simp) hi.N hi.d (hi.reads hord hn hj hun hgi hanc) hi.h (fun β h3 h4 => hi.u β h3) (fun _ β h3 => hi.u β h3) (hst j gi hgi) fun v u w' ρ' hg hnx => ?_
  obtain ⟨J', h1, h2, h3, h4⟩ := next_w hn (n - (j + 1)) (j + 1) (by omega)
  obtain ⟨Δ, hΔ⟩ := zac hT hst h1 (by omega) h3
  have hub : ∀ β, (st (j + 1)).2.length ≤ β → ρ' β = .unborn := fun β h5 => hg.unb β (hi.u β (Nat.le_trans hg.len h5)) h5
  refine hK _ _ ρ' J' {
    size := by simp [hi.size]
    N := by rw [zgc]; exact hi.N
    d := by rw [put_defers']; exact hi.d
    closed := zi8 hord hi.closed hjs hanc
    Jle := h2
    Jl := fun i gi' h5 h6 h7 => (lst_set hjs i).2 (by
      rcases Nat.lt_trichotomy i j with h8 | h8 | h8
      · exact .inr (hi.Jl i gi' h8 h6 h7)
      · exact .inl h8
      · rw [h3 i gi' h8 h5 h6] at h7; cases h7)
    Ju := fun h5 => by
      obtain ⟨gi', h6, h7⟩ := h4 h5
      refine ⟨fun h8 => ?_, gi', h6, h7⟩
      rcases (lst_set hjs J').1 h8 with h9 | h9
      · omega
      · refine hun (hi.closed J' h9 j (hord.pair j J' gi gi' (by omega) hgi h6 ?_))
        simp [Inf.clash, GI.inf, hm, zbx (show gi'.i.quiet = false from by
          cases h : gi'.i.quiet with
          | false => rfl
          | true => rw [zgd h] at h7; cases h7)]
    h := by rw [hΔ]; exact hg.hrel.ext hub Δ
    u := fun β h5 => hub β (by rw [hΔ] at h5; simp at h5; omega)
    ui := fun i h5 h6 β h7 h8 => by
      have hnl : ¬ lst L i := fun h7 => h6 ((lst_set hjs i).2 (.inr h7))
      have hij : i ≠ j := by rintro rfl; exact h6 ((lst_set hjs i).2 (.inl rfl))
      rcases Nat.lt_or_ge i j with h9 | h9
      · have hin : i < gs.length := by omega
        have hgi' := List.getElem?_eq_getElem hin
        cases hpi : gs[i].i.quiet with
        | true =>
          have := zos hpi (hst i _ hgi')
          rw [this] at h8; omega
        | false =>
          refine absurd (hanc i (hord.pair i j _ gi h9 hgi' hgi ?_)) hnl
          simp [Inf.clash, GI.inf, hm, zbx hpi]
      · obtain ⟨Δ2, h10⟩ := zac hT hst (show j + 1 ≤ i by omega) (by omega) fun q gi' h10 h11 h12 => h3 q gi' h10 (by omega) h12
        exact hub β (by rw [h10] at h7; simp at h7; omega)
    s := hi.slots hord hn hst hj hun hgi hl hg.step hg.vrel hnx
    st := hi.st.trans hg.step }
theorem zi9 (hT : TabOK P T) (hst : ∀ j gi, gs[j]? = some gi → stepG T gi (st j).1 (st j).2 = some (st (j + 1))) {β : Nat} {j : Nat} : ∀ {k : Nat}, j ≤ k → k ≤ gs.length →
    (∀ (i : Nat) (gi : GI), j ≤ i → i < k → gs[i]? = some gi → gi.i.mono T = false → gi.i.isCall = true ∧ β ∉ gi.i.touch (st i).1) → β < (st j).2.length → β < (st k).2.length ∧ (st k).2[β]? = (st j).2[β]?
  | 0, hj, _, _, hb => by rw [Nat.le_zero.1 hj] at hb ⊢; exact ⟨hb, rfl⟩
  | k + 1, hj, hk, hc, hb => by
    rcases Nat.lt_or_ge j (k + 1) with hlt | hge
    · obtain ⟨h1, h2⟩ := zi9 hT hst (show j ≤ k by omega) (by omega) (fun i gi h1 h2 => hc i gi h1 (by omega)) hb
      have hkl : k < gs.length := by omega
      have hgk := List.getElem?_eq_getElem hkl
      have h3 := hst k _ hgk
      cases hm : gs[k].i.mono T with
      | true =>
        obtain ⟨Δ, h6⟩ := zi6 hT hm h3
        rw [h6, List.length_append, List.getElem?_append_left h1]
        exact ⟨by omega, h2⟩
      | false =>
        obtain ⟨h4, h5⟩ := hc k _ (by omega) (by omega) hgk hm
        obtain ⟨b, _, _, h7, h8⟩ := zga h3
        cases b with
        | false => rw [(h8 rfl).1]; exact ⟨h1, h2⟩
        | true =>
          obtain ⟨v, h9, _⟩ := h7 rfl
          obtain ⟨h10, h11⟩ := zvl hT h4 h9
          exact ⟨by omega, by rw [h11 β h1 h5]; exact h2⟩
    · have : j = k + 1 := by omega
      subst this; exact ⟨hb, rfl⟩
theorem DInv.ldc (hT : TabOK P T) (hi : DInv T gs B st N n ρ0 w0 L a w ρ J) (hord : Ordered T ops gs B) (hn : gs.length = n) (hst : ∀ j gi, gs[j]? = some gi → stepG T gi (st j).1 (st j).2 = some (st (j + 1)))
    {j : Nat} {gi : GI} (hj : j < n) (hun : ¬ lst L j) (hgi : gs[j]? = some gi) (hanc : ∀ i, B i j → lst L i) {m s : Nat} {ag : Bool} (hi' : gi.i = .ldc m ag s)
    (hc : ∀ β ∈ gi.calmOf (st j).1, ∀ (i : Nat) (gi : GI), gs[i]? = some gi → β ∉ gi.touched T (st i).1) :
    stepG T gi (st j).1 (st J).2 = some ((st (j + 1)).1, (st J).2) := by
  refine (zor hi' (hst j gi hgi) fun β off cs t z hp hb => ?_).2
  have hβj : β < (st j).2.length := (List.getElem?_eq_some_iff.1 hb).1
  have hcβ := hc β (by simp [GI.calmOf, hi', hp, SV.refs])
  have htch : ∀ (i : Nat) (gi : GI), gs[i]? = some gi → gi.i.mono T = false → β ∉ gi.i.touch (st i).1 := fun i gi h1 h2 => by
    have := hcβ i gi h1
    rw [GI.touched, h2] at this
    exact this
  have hpj : gi.i.pure = false := by rw [hi']; rfl
  have hrd := hi.reads hord hn hj hun hgi hanc s (by
    have : s ∈ gi.i.slots := by simp [hi', I.slots, I.args, S.slot]
    unfold GI.reads
    split
    · exact this
    · exact List.mem_cons_of_mem _ this)
  rw [hp] at hrd
  have hborn : β < (st J).2.length := by
    rcases Nat.lt_or_ge β (st J).2.length with h | h
    · exact h
    · have := hi.u β h
      simp only [VRel, this] at hrd
  have hJ := hi.Jle
  have np : ∀ {i : I}, i.mono T = false → i.pure = false ∧ i.isLdc = false := fun {i} h => by
    cases hq : i.quiet with
    | false => exact zbx hq
    | true => rw [zgd hq] at h; cases h
  rcases Nat.le_total j J with h | h
  · rw [(zi9 hT hst h (by omega) (fun i gi' h1 h2 h3 h4 => ⟨?_, htch i gi' h3 h4⟩) hβj).2]; exact hb
    cases hcl : gi'.i.isCall with
    | true => rfl
    | false =>
      have hij : j < i := by
        rcases Nat.lt_or_ge j i with h5 | h5
        · exact h5
        · obtain rfl : i = j := by omega
          rw [hgi] at h3; cases h3
          rw [hi'] at h4; simp [I.mono] at h4
      refine absurd (hi.closed i (hi.Jl i gi' h2 h3 h4) j (hord.pair j i gi gi' hij hgi h3 ?_)) hun
      simp [Inf.clash, GI.inf, h4, hcl, hpj]
  · rw [← (zi9 hT hst h (by omega) (fun i gi' h1 h2 h3 h4 => ⟨?_, htch i gi' h3 h4⟩) hborn).2]; exact hb
    cases hcl : gi'.i.isCall with
    | true => rfl
    | false =>
      obtain ⟨hJl, giJ, h5, h6⟩ := hi.Ju (by omega)
      have hil : lst L i := hanc i (hord.pair i j gi' gi h2 h3 hgi (by simp [Inf.clash, GI.inf, h4, hcl, hpj]))
      rcases Nat.lt_or_ge J i with h7 | h7
      · exact absurd (hi.closed i hil J (hord.pair J i giJ gi' h7 h5 h3 (by simp [Inf.clash, GI.inf, h6, np h4]))) hJl
      · obtain rfl : i = J := by omega
        exact absurd hil hJl
def unl (L : Array Bool) : Nat := L.toList.count false
theorem unl_set {j : Nat} (hj : j < L.size) (hun : ¬ lst L j) : unl L = unl (L.setIfInBounds j true) + 1 := by
  unfold unl
  have hl : j < L.toList.length := by simpa using hj
  rw [Array.toList_setIfInBounds, List.count_set hl]
  have h1 : L.toList[j] = false := by
    unfold lst at hun
    have : L.getD j false = L.toList[j] := by simp [hj]
    rw [this] at hun; simpa using hun
  have h2 : 0 < L.toList.count false := List.count_pos_iff.2 (h1 ▸ List.getElem_mem hl)
  rw [h1]
  generalize L.toList.count false = c at h2 ⊢
  show c = (c - 1 + 0) + 1
  omega
theorem zvo (hT : TabOK P T) (hord : Ordered T ops gs B) (hn : gs.length = n) (hops : ops.size = n) (hls : ∀ (j : Nat) (o : Oper) (gi : GI), ops[j]? = some o → gs[j]? = some gi → LOp P N ops o gi)
    (hst : ∀ j gi, gs[j]? = some gi → stepG T gi (st j).1 (st j).2 = some (st (j + 1))) {Q : Exit → Act → World → Prop}
    (hcalm : ∀ (j : Nat) (gj : GI), gs[j]? = some gj → ∀ β ∈ gj.calmOf (st j).1, ∀ (i : Nat) (gi : GI), gs[i]? = some gi → β ∉ gi.touched T (st i).1)
    (hQ : ∀ ρ' a' w', At P N ρ' (st n).2 w' (st n).1 a' → Step ρ0 w0 ρ' w' → Q .normal a' w') :
    ∀ (fuel : Nat) (L : Array Bool) (a : Act) (w : World) (ρ : Map) (J : Nat), unl L = fuel → DInv T gs B st N n ρ0 w0 L a w ρ J → wpAny P .any ops Q fuel L a w := by
  have fin : ∀ {L : Array Bool} {a : Act} {w : World} {ρ : Map} {J : Nat}, (∀ j, j < n → lst L j) → DInv T gs B st N n ρ0 w0 L a w ρ J → Q .normal a w := by
    intro L a w ρ J hall hi
    have hJ : J = n := by
      rcases Nat.lt_or_ge J n with h | h
      · exact absurd (hall J h) (hi.Ju h).1
      · have := hi.Jle; omega
    subst hJ
    refine hQ ρ a w ⟨⟨hi.N, hi.d, fun s => ?_⟩, hi.h, hi.u⟩ hi.st
    refine hi.s s J (Nat.le_refl _) (fun i gi h1 _ _ => hall i h1) (fun i gi h1 h2 _ => ?_)
    have := (List.getElem?_eq_some_iff.1 h2).1
    omega
  have allof : ∀ {L : Array Bool}, L.size = n → Region.ready .any ops L = [] → ∀ j, j < n → lst L j := by
    intro L hL hr j
    induction j using Nat.strongRecOn with
    | ind j ih =>
      intro hj
      by_cases hl : lst L j
      · exact hl
      · have hm : j ∈ Region.ready .any ops L := mem_ready.2 ⟨by
          unfold lst at hl
          have h1 : j < L.size := by omega
          simp [h1] at hl ⊢; exact hl, ops[j]'(by omega), Array.getElem?_eq_getElem (by omega), fun e he hb => by
          have h1 := hord.back j _ (Array.getElem?_eq_getElem (by omega)) e he hb
          exact ih e.on h1 (by omega)⟩
        rw [hr] at hm; cases hm
  intro fuel
  induction fuel with
  | zero =>
    intro L a w ρ J hu hi
    have hall : ∀ j, j < n → lst L j := by
      intro j hj
      by_cases hl : lst L j
      · exact hl
      · have := unl_set (by rw [hi.size]; exact hj) hl
        omega
    refine ⟨?_, fin hall hi⟩
    cases hr : Region.ready .any ops L with
    | nil => rfl
    | cons x xs =>
      have hx : x ∈ Region.ready .any ops L := by rw [hr]; simp
      obtain ⟨h1, o, ho, _⟩ := mem_ready.1 hx
      have hx1 : x < n := by rw [← hops]; exact (Array.getElem?_eq_some_iff.1 ho).1
      have h2 := hall x hx1
      unfold lst at h2
      have h3 : x < L.size := by rw [hi.size]; exact hx1
      simp [h3] at h1 h2
      rw [h1] at h2; cases h2
  | succ fuel ih =>
    intro L a w ρ J hu hi
    refine ⟨fun hr => fin (allof hi.size hr) hi, fun j hj => ?_⟩
    obtain ⟨h1, o, ho, hall⟩ := mem_ready.1 hj
    have hjn : j < n := by rw [← hops]; exact (Array.getElem?_eq_some_iff.1 ho).1
    have hjs : j < L.size := by rw [hi.size]; exact hjn
    have hun : ¬ lst L j := by
      unfold lst
      simp [hjs] at h1 ⊢; exact h1
    have hgi : gs[j]? = some (gs[j]'(by omega)) := List.getElem?_eq_getElem (by omega)
    have hl := hls j o _ ho hgi
    have hanc : ∀ i, B i j → lst L i := by
      intro i hb
      obtain ⟨e, he, hbd, h2⟩ := hord.anc j o ho i hb
      have h3 : lst L e.on := hall e he hbd
      rcases h2 with h2 | h2
      · subst h2; exact h3
      · exact hi.closed e.on h3 i h2
    have hu' : unl (L.setIfInBounds j true) = fuel := by have := unl_set hjs hun; omega
    have key : if Region.wanted o (yielded ops a.tmps) = true then o.wp P a w (wpAny P .any ops Q fuel (L.setIfInBounds j true)) Q else wpAny P .any ops Q fuel (L.setIfInBounds j true) (a.put o.dst undef) w := by
      cases hp : (gs[j]'(by omega)).i.quiet with
      | true =>
        have h2 : stepG T (gs[j]'(by omega)) (st j).1 (st J).2 = some ((st (j + 1)).1, (st J).2) := by
          have hq := hp
          unfold I.quiet at hq
          simp only [Bool.or_eq_true] at hq
          rcases hq with hq | hq
          · exact (zoq hq (hst j _ hgi) (st J).2).2
          · cases hil : (gs[j]'(by omega)).i <;> rw [hil] at hq <;> simp only [I.isLdc, Bool.false_eq_true] at hq
            exact hi.ldc hT hord hn hst hjn hun hgi hanc hil (hcalm j _ hgi)
        exact hi.pure hT hord hn hst hjn hun hgi hl hanc (zgd hp) h2 fun a' w' ρ' hi' => ih _ a' w' ρ' J hu' hi'
      | false =>
        cases hm : (gs[j]'(by omega)).i.mono T with
        | true => exact hi.mono hT hord hn hst hjn hun hgi hl hanc hp hm fun a' w' ρ' hi' => ih _ a' w' ρ' J hu' hi'
        | false => exact hi.change hT hord hn hst hjn hun hgi hl hanc hm fun a' w' ρ' J' hi' => ih _ a' w' ρ' J' hu' hi'
    unfold wpOp
    simp only [ho]
    split
    · rename_i hw; rw [if_pos hw] at key; exact .inl key
    · rename_i hw; rw [if_neg hw] at key; exact key
theorem zvp {R : Type} {τ : Env} {H : Heap} {k : Env → Heap → Option R} {r : R} (hT : TabOK P T) (hlen : gs.length = ops.size) (hord : orderOK T ops.toList gs = true) (hls : ∀ (j : Nat) (o : Oper) (gi : GI), ops[j]? = some o → gs[j]? = some gi → LOp P N ops o gi)
    (hat : At P N ρ H w τ a) (he : runRD T gs [] [] τ H k = some r) {Q : Exit → Act → World → Prop}
    (hQ : ∀ τ' H' ρ' a' w', At P N ρ' H' w' τ' a' → Step ρ w ρ' w' → k τ' H' = some r → Q .normal a' w') :
    wpAny P .any ops Q ops.size (Array.replicate ops.size false) a w := by
  obtain ⟨B, hB⟩ := zvi hlen hord
  obtain ⟨st, h0, hst, hk, hcm⟩ := zot (by simp) he
  obtain ⟨J, h1, h2, h3, h4⟩ := next_w (T := T) hlen ops.size 0 (by omega)
  obtain ⟨Δ, hΔ⟩ := zac hT hst h1 (by omega) h3
  have hno : ∀ j, ¬ lst (Array.replicate ops.size false) j := by
    intro j
    unfold lst
    by_cases hj : j < ops.size
    · simp [hj]
    · simp [hj]
  rw [h0] at hΔ
  refine zvo (ρ0 := ρ) (w0 := w) hT hB hlen rfl hls hst (fun j gj hj β hb => (hcm β (.inr ⟨j, gj, hj, hb⟩)).2) (fun ρ' a' w' hat' hst' => hQ _ _ ρ' a' w' hat' hst' (by rw [← hlen]; exact hk)) ops.size _ a w ρ J (by simp [unl]) {
    size := by simp
    N := hat.t.1
    d := hat.t.2.1
    closed := fun j h => absurd h (hno j)
    Jle := h2
    Jl := fun i gi h5 h6 h7 => by rw [h3 i gi (by omega) h5 h6] at h7; cases h7
    Ju := fun h5 => ⟨hno J, h4 h5⟩
    h := by rw [hΔ]; exact hat.h.ext hat.u Δ
    u := fun β h5 => hat.u β (by rw [hΔ] at h5; simp at h5; omega)
    ui := fun i h5 _ β h6 _ => by
      obtain ⟨Δ2, h7⟩ := zac hT hst (show 0 ≤ i by omega) (by omega) fun q gi h8 h9 h10 => h3 q gi h8 (by omega) h10
      rw [h0] at h7
      exact hat.u β (by rw [h7] at h6; simp at h6; omega)
    s := fun s j hj h5 _ => by
      have hc := zi7 (s := s) hst (show 0 ≤ j by omega) (by omega) fun i gi h6 h7 h8 h9 => hno i (h5 i gi h7 h8 h9)
      rw [hc, h0]; exact hat.t.2.2 s
    st := Step.refl _ _ }
end
end Go.Proofs.Ytmkekjmckdkcnaa.Den
