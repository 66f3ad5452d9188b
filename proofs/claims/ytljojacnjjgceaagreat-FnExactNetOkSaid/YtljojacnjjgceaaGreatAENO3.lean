/- Part 3 of the texts behind the row. -/
import Derived.Test.YtljojacnjjgceaaGreatAENO2
import Derived.ArgAppend
set_option linter.unusedVariables false
set_option linter.unusedSimpArgs false
namespace Go.Proofs.YtljojacnjjgceaaGreat.Den
open Go Go.RowKit
section
variable {P:Program} {o:Oper} {a:Act} {m:Bool} {ρ:Map} {H H':Heap} {w:World} {τ:Env} {N:Nat} {T:Tab} {v:SV}
theorem zmi {x:SV} {u:Value} {cs:List SV} (h:x.cells? = some cs) (hv:VRel ρ w x u):VRels ρ w cs u.cells.toList:=by
 have one:∀ {x:SV},x.oneB = true → VRel ρ w x u → VRels ρ w [x] u.cells.toList:=by
  intro x h1 h2
  have h3:=zvr h2 h1
  have h4:u.cells.toList = [u]:=by cases u <;> simp [Value.oneCell'] at h3 <;> rfl
  rw [h4]; exact VRels.single h2
 cases x <;> simp only [SV.cells?,Option.some.injEq,reduceCtorEq] at h <;> subst h
 case agg cs =>
  simp only [VRel] at hv
  obtain ⟨us,rfl,h1⟩:=hv
  exact h1
 all_goals exact one rfl hv
theorem zpI {cs us:List SV} {vs ws:List Value} {off:Nat} (h1:VRels ρ w cs vs) (h2:VRels ρ w us ws):VRels ρ w (setCells cs off us) (vs.take off ++ (ws ++ vs.drop (off + ws.length))):=by
 unfold setCells
 rw [h2.length]
 exact (h1.split).1.append (h2.append (h1.split).2)
theorem zGA (vs:List Value):∀ (off k:Nat) (C:Array Value),off + k + vs.length ≤ C.size →
  ((vs.zipIdx k).foldl (fun cs (x:Value × Nat) => cs.setIfInBounds (off + x.2) x.1) C).toList = C.toList.take (off + k) ++ (vs ++ C.toList.drop (off + k + vs.length)):=by
 induction vs with
 | nil => intro off k C h; simp
 | cons v vs ih =>
  intro off k C h
  simp only [List.zipIdx_cons,List.foldl_cons]
  rw [ih off (k + 1) _ (by simp at h ⊢; omega)]
  have:=list_seg_step C.toList (off + k) v vs (by simp at h ⊢; omega)
  simp only [Array.toList_setIfInBounds]
  rw [show off + (k + 1) = off + k + 1 by omega]
  simpa [List.append_assoc] using this
theorem ziv {place:Nat → Option (Nat × Nat)} (ht:TRel ρ w τ a N):∀ {parts:List (Nat × Operand)} {ps:List (Nat × Nat × S)} {cs cs':List SV} {C:Array Value},
  partsL P place parts = some ps → fillP τ ps cs = some cs' → VRels ρ w cs C.toList →
  ∃ C',Instr.fill place C (parts.map fun p => (p.1,a.eval p.2)) = some C' ∧ VRels ρ w cs' C'.toList
 | [],ps,cs,cs',C,h1,h2,h3 => by
  simp [partsL] at h1; subst h1
  simp [fillP] at h2; subst h2
  exact ⟨C,rfl,h3⟩
 | (i,x) :: parts,ps,cs,cs',C,h1,h2,h3 => by
  simp only [partsL] at h1
  split at h1
  ·rename_i off n s ps' hp hx hps
   simp at h1; subst h1
   simp only [fillP] at h2
   split at h2
   ·rename_i us hus
    split at h2
    ·rename_i hle
     have hu:=zmi hus (opL_rel ht hx)
     have hul:=hu.length
     have hcl:=h3.length
     simp only [Array.length_toList] at hul hcl
     have hcond:¬ ((a.eval x).cells.size ≠ n ∨ off + (a.eval x).cells.size > C.size):=by omega
     have hf:=zGA (a.eval x).cells.toList off 0 C (by simp; omega)
     have hr:=zpI (off:=off) h3 hu
     simp only [Nat.add_zero] at hf
     rw [← hf] at hr
     obtain ⟨C',h4,h5⟩:=ziv ht hps h2 hr
     refine ⟨C',?_,h5⟩
     simp only [List.map_cons,Instr.fill,hp]
     have hb:((decide ((a.eval x).cells.size ≠ n) || decide (off + (a.eval x).cells.size > C.size))) = false:=by
      simp; omega
     rw [if_neg (by simpa using hb)]
     rw [← h4]
     congr 1
     rw [← Array.foldl_toList,Array.toList_zipIdx]
    ·simp at h2
   ·simp at h2
  ·simp at h1
theorem zvB {α β:Type} (f:α → Sem β) (g:α → β) (w:World):∀ (l:List α),(∀ x ∈ l,(f x).run P w = .ok (g x) w) → (l.mapM f).run P w = .ok (l.map g) w
 | [],_ => by simp
 | x :: l,h => by
  rw [List.mapM_cons]
  simp only [Sem.run_bind,h x (by simp),Result.andThen_ok,zvB f g w l (fun y hy => h y (by simp [hy])),Sem.run_pure,List.map_cons]
theorem zGB {t:TypeId} {fs:Array Field} {sz by_:Nat} {zs:List SV} {parts:Array (Nat × Operand)} {ps:List (Nat × Nat × S)} (hop:o.op = .build t parts) (hu:P.underlying t = some (.struct fs))
  (hz:tinfo P t = some (sz,zs,by_)) (hfs:∀ f ∈ fs.toList,(P.info? f.type).isSome = true) (hps:partsL P (placeL P fs) parts.toList = some ps) (ht:TRel ρ w τ a N) (hH:HRel ρ H w)
  (he:runI T (.build zs ps) τ H (fun v H => some (v,H)) = some (v,H')):OpOK P o a m ρ H w v H':=by
 simp only [runI] at he
 split at he
 ·rename_i cs hcs
  simp at he; obtain ⟨rfl,rfl⟩:=he
  obtain ⟨i,z,hi,hzz,_,_,hsv,_⟩:=zal hz
  obtain ⟨C',h1,h2⟩:=ziv (P:=P) ht hps hcs (svsOf_rel hsv)
  have hzero:(zeroValue t).run P w = .ok z w:=by simp [zeroValue,typeInfo,hi,hzz]
  have hmap:(fs.mapM fun f => do pure (f.offset,← sizeOf f.type):Sem (Array (Nat × Nat))).run P w = .ok (fs.map fun f => (f.offset,P.cellsOf f.type)) w:=by
   rw [Array.mapM_eq_mapM_toList]
   rw [Sem.run_map,zvB _ (fun f:Field => (f.offset,P.cellsOf f.type))]
   ·simp only [Result.andThen_ok]; congr 1; apply Array.ext'; simp
   ·intro f hf
    obtain ⟨j,hj⟩:=Option.isSome_iff_exists.1 (hfs f hf)
    simp [zm hj,Program.cellsOf,hj]
  have hplace:(fun i => (fs.map fun f => (f.offset,P.cellsOf f.type))[i]?) = placeL P fs:=by
   funext i
   simp only [placeL,Array.getElem?_map]
   cases hf:fs[i]? with
   | none => rfl
   | some f =>
    obtain ⟨j,hj⟩:=Option.isSome_iff_exists.1 (hfs f (by rw [← Array.getElem?_toList] at hf; exact List.mem_of_getElem? hf))
    simp [hj,Program.cellsOf]
  refine OpOK.same hH (u:=.agg C') ?_ (by simp only [VRel]; exact ⟨_,rfl,h2⟩)
  simp only [execOp,hop,Instr.build,Sem.run_bind,hzero,Result.andThen_ok,run_underlying hu,hmap]
  rw [hplace]
  have e:(parts.map fun x => (x.1,a.eval x.2)).toList = parts.toList.map fun p => (p.1,a.eval p.2):=by simp
  rw [e,h1]
  rfl
 ·simp at he
theorem zGC {t el:TypeId} {n:Nat} {sz by_:Nat} {j:TypeInfo} {zs:List SV} {parts:Array (Nat × Operand)} {ps:List (Nat × Nat × S)} (hop:o.op = .build t parts) (hu:P.underlying t = some (.array n el))
  (hz:tinfo P t = some (sz,zs,by_)) (hj:P.info? el = some j) (hps:partsL P (fun i => some (i * j.size,j.size)) parts.toList = some ps) (ht:TRel ρ w τ a N) (hH:HRel ρ H w)
  (he:runI T (.build zs ps) τ H (fun v H => some (v,H)) = some (v,H')):OpOK P o a m ρ H w v H':=by
 simp only [runI] at he
 split at he
 ·rename_i cs hcs
  simp at he; obtain ⟨rfl,rfl⟩:=he
  obtain ⟨i,z,hi,hzz,_,_,hsv,_⟩:=zal hz
  obtain ⟨C',h1,h2⟩:=ziv (P:=P) ht hps hcs (svsOf_rel hsv)
  have hzero:(zeroValue t).run P w = .ok z w:=by simp [zeroValue,typeInfo,hi,hzz]
  refine OpOK.same hH (u:=.agg C') ?_ (by simp only [VRel]; exact ⟨_,rfl,h2⟩)
  simp only [execOp,hop,Instr.build,Sem.run_bind,hzero,Result.andThen_ok,run_underlying hu,zm hj]
  have e:(parts.map fun x => (x.1,a.eval x.2)).toList = parts.toList.map fun p => (p.1,a.eval p.2):=by simp
  rw [e,h1]
  rfl
 ·simp at he
theorem zaR {O:Obj} {n sz:Nat} {x:Blk} {u:Value} (hH:HRel ρ H w) (hu:ρ H.length = .unborn)
  (hx:BRel (ρ.put H.length (.at w.heap.size 0 n sz)) (w.alloc O) w.heap.size 0 n sz x) (hv:VRel (ρ.put H.length (.at w.heap.size 0 n sz)) (w.alloc O) v u) :
  Good m ρ H w v (H ++ [x]) u (w.alloc O) (ρ.put H.length (.at w.heap.size 0 n sz)) where
 step:=Step.allocO _ _ _ _ hu
 hrel:=hH.alloc hu hx
 vrel:=hv
 len:=by simp
 unb β h1 h2:=by
  have:β ≠ H.length:=by rw [List.length_append,List.length_singleton] at h2; omega
  rw [Map.put_other _ _ this]; exact h1
 mono _:=by
  refine ⟨⟨_,rfl⟩,fun β h2 => ?_,fun b hb => ?_,fun _ _ h => h⟩
  ·have:β ≠ H.length:=by rintro rfl; simp at h2; omega
   exact Map.put_other _ _ this
  ·simp only [World.alloc]; rw [Array.getElem?_push,if_neg (by omega)]
theorem zpJ {cs:List SV} {C:Array Value} {t:TypeId} {n sz:Nat} (hu:ρ H.length = .unborn) (hcs:VRels ρ w cs (C.toList.take cs.length)) (hl:cs.length = n * sz) (hC:cs.length ≤ C.size) :
  BRel (ρ.put H.length (.at w.heap.size 0 n sz)) (w.alloc (.cells C t (0,0))) w.heap.size 0 n sz (.cells cs t sz):=by
 simp only [BRel]
 refine ⟨by first | rfl | trivial,hl,C,t,heap_alloc_new w _,by omega,fun j s hs => ?_⟩
 obtain ⟨u,h1,h2⟩:=hcs.get j s hs
 rw [List.getElem?_take] at h1
 split at h1
 ·rw [Array.getElem?_toList] at h1
  exact ⟨u,by rw [Nat.zero_add]; exact h1,h2.step (Step.alloc _ _ _ _ _ hu)⟩
 ·simp at h1
theorem zpK {K:Kd} {xs:List K.T} {C:Array Value} {t:TypeId} (hu:ρ H.length = .unborn) (hC:xs.length * K.sz ≤ C.size) (hrow:RowRel w (Free ρ w) K xs C 0) :
  BRel (ρ.put H.length (.at w.heap.size 0 xs.length K.sz)) (w.alloc (.cells C t (0,0))) w.heap.size 0 xs.length K.sz (.arr K xs t):=by
 simp only [BRel]
 refine ⟨by first | rfl | trivial,by first | rfl | trivial,C,t,heap_alloc_new w _,by omega,fun i x hx => ?_⟩
 obtain ⟨es,h1,h2⟩:=hrow i x hx
 exact ⟨es,h1.step (Step.alloc _ _ _ _ _ hu),h2⟩
theorem zGD {e:TypeId} {sz by_:Nat} {zs:List SV} (hop:o.op = .alloc e) (hz:tinfo P e = some (sz,zs,by_)) (hH:HRel ρ H w) (hu:ρ H.length = .unborn)
  (he:runI T (.alloc zs e) τ H (fun v H => some (v,H)) = some (v,H')):OpOK P o a m ρ H w v H':=by
 simp only [runI] at he
 simp at he; obtain ⟨rfl,rfl⟩:=he
 obtain ⟨i,z,hi,hzz,_,_,hsv,_⟩:=zal hz
 have hzero:(zeroValue e).run P w = .ok z w:=by simp [zeroValue,typeInfo,hi,hzz]
 have hcs:VRels ρ w zs z.cells.toList:=svsOf_rel hsv
 have hl:=hcs.length
 simp only [Array.length_toList] at hl
 refine OpOK.value (w':=w.alloc (.cells z.cells e (0,0))) (u:=.pointer (some ⟨w.heap.size,0,none⟩)) ?_ (zaR (n:=1) (sz:=zs.length) hH hu ?_ ?_)
 ·simp only [execOp,hop,Instr.alloc,Sem.run_bind,hzero,Result.andThen_ok,newVar,newRow,run_newObj,Sem.run_pure]; rfl
 ·exact zpJ hu (by rw [hl,List.take_of_length_le (by simp)]; exact hcs) (by simp) (by omega)
 ·simp only [VRel,Map.put_same]
theorem snd_box {e:TypeId} {x:Operand} {sx:S} (hop:o.op = .box e x) (hx:opL x = some sx) (ht:TRel ρ w τ a N) (hH:HRel ρ H w) (hu:ρ H.length = .unborn)
  (he:runI T (.box e sx) τ H (fun v H => some (v,H)) = some (v,H')):OpOK P o a m ρ H w v H':=by
 have vx:=opL_rel ht hx
 have hrun:(execOp a.eval o).run P w = .ok (.value (.pointer (some ⟨w.heap.size,0,none⟩))) (w.alloc (.cells (a.eval x).cells e (0,0))):=by
  simp only [execOp,hop,Instr.box,Sem.run_bind,newVar,newRow,run_newObj,Result.andThen_ok,Sem.run_pure]; rfl
 simp only [runI] at he
 split at he
 ·rename_i K xs ex
  rw [ex] at vx
  simp at he; obtain ⟨rfl,rfl⟩:=he
  simp only [VRel] at vx
  obtain ⟨vs,hv,hsz,hel⟩:=vx
  refine OpOK.value hrun (zaR (n:=xs.length) (sz:=K.sz) hH hu ?_ ?_)
  ·refine zpK hu (by rw [hv]; simp [Value.cells,hsz]) fun i y hy => ?_
   obtain ⟨es,h1,h2⟩:=hel i y hy
   refine ⟨es,h1,fun j u hj => ?_⟩
   rw [hv,Nat.zero_add]; exact h2 j u hj
  ·simp only [VRel,Map.put_same]
 ·split at he
  ·rename_i cs hcs
   simp at he; obtain ⟨rfl,rfl⟩:=he
   have hc:=zmi hcs vx
   have hl:=hc.length
   simp only [Array.length_toList] at hl
   refine OpOK.value hrun (zaR (n:=1) (sz:=cs.length) hH hu ?_ ?_)
   ·exact zpJ hu (by rw [hl,List.take_of_length_le (by simp)]; exact hc) (by simp) (by omega)
   ·simp only [VRel,Map.put_same]
  ·simp at he
theorem zGE {e:TypeId} {n:Nat} {by_:Nat} {zs:List SV} {K:Kd} (hK:K = .int .i64 ∨ K = .bool) (hop:o.op = .alloc e) (hz:tinfo P e = some (n,zs,by_)) (h0:(zs.all fun x => isZero K [x]) = true) (hH:HRel ρ H w) (hu:ρ H.length = .unborn)
  (he:runI T (.allocA K n e) τ H (fun v H => some (v,H)) = some (v,H')):OpOK P o a m ρ H w v H':=by
 rcases hK with rfl | rfl
 ·simp only [runI] at he
  simp at he; obtain ⟨rfl,rfl⟩:=he
  obtain ⟨i,z,hi,hzz,_,_,hsv,hl'⟩:=zal hz
  have hzero:(zeroValue e).run P w = .ok z w:=by simp [zeroValue,typeInfo,hi,hzz]
  have hcs:VRels ρ w zs z.cells.toList:=svsOf_rel hsv
  have hl:=hcs.length
  simp only [Array.length_toList] at hl
  have hlen:(List.replicate n (Kd.dflt (.int .i64))).length = n:=by simp
  refine OpOK.value (w':=w.alloc (.cells z.cells e (0,0))) (u:=.pointer (some ⟨w.heap.size,0,none⟩)) ?_ (zaR (n:=(List.replicate n (Kd.dflt (.int .i64))).length) (sz:=Kd.sz (.int .i64)) hH hu ?_ ?_)
  ·simp only [execOp,hop,Instr.alloc,Sem.run_bind,hzero,Result.andThen_ok,newVar,newRow,run_newObj,Sem.run_pure]; rfl
  ·refine zpK hu (by rw [hlen]; simp [Kd.sz]; omega) fun i x hx => ?_
   have hin:i < n:=by have:=(List.getElem?_eq_some_iff.1 hx).1; simpa using this
   have hx0:x = (0:Int):=by
    rw [List.getElem?_replicate,if_pos hin] at hx
    exact (Option.some.inj hx).symm
   subst hx0
   refine ⟨[.int .i64 0],rfl,fun j u hj => ?_⟩
   cases j with
   | succ j => simp at hj
   | zero =>
    simp at hj; subst hj
    have hzi:i < zs.length:=by omega
    obtain ⟨u,h1,h2⟩:=hcs.get i zs[i] (List.getElem?_eq_getElem hzi)
    have h3:=List.all_eq_true.1 h0 zs[i] (List.getElem_mem hzi)
    have h4:zs[i] = .int .i64 0:=by
     simp only [isZero] at h3
     split at h3
     ·rename_i k' heq
      simp at heq h3
      rw [heq,h3]
     ·simp at h3
    rw [h4] at h2
    simp only [VRel] at h2
    subst h2
    rw [Array.getElem?_toList] at h1
    simpa [Kd.sz] using h1
  ·simp only [VRel,Map.put_same]
 ·simp only [runI] at he
  simp at he; obtain ⟨rfl,rfl⟩:=he
  obtain ⟨i,z,hi,hzz,_,_,hsv,hl'⟩:=zal hz
  have hzero:(zeroValue e).run P w = .ok z w:=by simp [zeroValue,typeInfo,hi,hzz]
  have hcs:VRels ρ w zs z.cells.toList:=svsOf_rel hsv
  have hl:=hcs.length
  simp only [Array.length_toList] at hl
  have hlen:(List.replicate n (Kd.dflt .bool)).length = n:=by simp
  refine OpOK.value (w':=w.alloc (.cells z.cells e (0,0))) (u:=.pointer (some ⟨w.heap.size,0,none⟩)) ?_ (zaR (n:=(List.replicate n (Kd.dflt .bool)).length) (sz:=Kd.sz .bool) hH hu ?_ ?_)
  ·simp only [execOp,hop,Instr.alloc,Sem.run_bind,hzero,Result.andThen_ok,newVar,newRow,run_newObj,Sem.run_pure]; rfl
  ·refine zpK hu (by rw [hlen]; simp [Kd.sz]; omega) fun i x hx => ?_
   have hin:i < n:=by have:=(List.getElem?_eq_some_iff.1 hx).1; simpa using this
   have hx0:x = false:=by
    rw [List.getElem?_replicate,if_pos hin] at hx
    exact (Option.some.inj hx).symm
   subst hx0
   refine ⟨[.bool false],rfl,fun j u hj => ?_⟩
   cases j with
   | succ j => simp at hj
   | zero =>
    simp at hj; subst hj
    have hzi:i < zs.length:=by omega
    obtain ⟨u,h1,h2⟩:=hcs.get i zs[i] (List.getElem?_eq_getElem hzi)
    have h3:=List.all_eq_true.1 h0 zs[i] (List.getElem_mem hzi)
    have h4:zs[i] = .bool false:=by
     simp only [isZero] at h3
     split at h3
     ·rename_i heq
      simpa using heq
     ·simp at h3
    rw [h4] at h2
    simp only [VRel] at h2
    subst h2
    rw [Array.getElem?_toList] at h1
    simpa [Kd.sz] using h1
  ·simp only [VRel,Map.put_same]
theorem zaS {α:Type} (l us:List α) (k j:Nat) (h:k + us.length ≤ l.length) :
  (l.take k ++ us ++ l.drop (k + us.length))[j]? = if k ≤ j ∧ j < k + us.length then us[j - k]? else l[j]?:=by
 rw [List.append_assoc,List.getElem?_append,List.length_take,Nat.min_eq_left (by omega)]
 by_cases h1:j < k
 ·rw [if_pos h1,if_neg (by omega),List.getElem?_take,if_pos h1]
 ·rw [if_neg h1,List.getElem?_append]
  by_cases h2:j - k < us.length
  ·rw [if_pos h2,if_pos (by omega)]
  ·rw [if_neg h2,if_neg (by omega),List.getElem?_drop]
   congr 1; omega
theorem zpL {t:TypeId} {i:TypeInfo} {b o':Nat} {C:Array Value} {t':TypeId} {u:Value} (hi:P.info? t = some i) (hs:u.cells.size = i.size) (hb:w.heap[b]? = some (.cells C t' (0,0))) (hle:o' + i.size ≤ C.size)
  (h1:∀ x ∈ u.cells.toList,x.oneCell' = true) :
  (Instr.storeAt t (.pointer (some ⟨b,o',none⟩)) u).run P w = .ok () (w.setRow b (C.toList.take o' ++ u.cells.toList ++ C.toList.drop (o' + u.cells.toList.length)).toArray):=by
 have:=run_storeCells_at (P:=P) b o' t' u.cells.toList 0 C w hb (by simp; omega) h1
 simp only [Nat.add_zero] at this
 simp [Instr.storeAt,Instr.sureAddr,storeVar,zm hi,hs,this]
theorem zvC {β b o' n sz:Nat} {C C':Array Value} {t:TypeId} {x:Blk} (hH:HRel ρ H w) (hl:β < H.length) (hr:ρ β = .at b o' n sz) (hb:w.heap[b]? = some (.cells C t (0,0))) (hs:C'.size = C.size)
  (hx:BRel ρ (w.setRow b C') b o' n sz x):Good false ρ H w .junk (H.set β x) undef (w.setRow b C') ρ where
 step:=Step.setRow hr hb hs
 hrel:=hH.setRow hl hr hb hs hx
 vrel:=by simp [VRel]
 len:=by simp
 unb β h1 h2:=h1
 mono h:=by simp at h
theorem one_all {us:List SV} {vs:List Value} (h:VRels ρ w us vs) (h1:us.all SV.oneB = true):∀ x ∈ vs,x.oneCell' = true:=by
 intro x hx
 obtain ⟨j,hj⟩:=List.mem_iff_getElem?.1 hx
 have hlt:j < vs.length:=(List.getElem?_eq_some_iff.1 hj).1
 have hlu:j < us.length:=by rw [h.length]; exact hlt
 obtain ⟨u,h2,h3⟩:=h.get j us[j] (List.getElem?_eq_getElem hlu)
 rw [hj] at h2; cases h2
 exact zvr h3 (List.all_eq_true.1 h1 _ (List.getElem_mem hlu))
theorem row_raw {β b o n sz:Nat} {K:Kd} {xs:List K.T} {t:TypeId} (hH:HRel ρ H w) (hb:H[β]? = some (.arr K xs t)) (hr:ρ β = .at b o n sz) :
  xs.length = n ∧ K.sz = sz ∧ ∃ C tC,w.heap[b]? = some (.cells C tC (0,0)) ∧ o + n * sz ≤ C.size ∧ RowRel w (Free ρ w) K xs C o:=by
 have hl:β < H.length:=(List.getElem?_eq_some_iff.1 hb).1
 obtain ⟨x,h1,h2⟩:=hH.at_ β hl _ _ _ _ hr
 rw [hb] at h1; simp at h1; subst h1
 simpa only [BRel] using h2
theorem zpM:∀ {K:Kd} (x:K.T),SV.refsL (enc K x) = []
 | .int _,_ => rfl
 | .bool,_ => rfl
 | .unit,_ => rfl
 | .pair a b,x => by simp [enc,zmd,zpM x.1,zpM x.2]
 | .list e,_ => rfl
theorem zpN {γ:Nat}:∀ {cs:List SV},γ ∈ SV.refsL cs ↔ ∃ c ∈ cs,γ ∈ c.refs
 | [] => by simp [SV.refsL]
 | c :: cs => by simp [SV.refsL,zpN (cs:=cs)]
theorem zGF {K:Kd} {x:K.T} {j:Nat} {us:List SV} {γ:Nat} (h:γ ∈ SV.refsL (setCells (enc K x) j us)):γ ∈ SV.refsL us:=by
 rw [zpN] at h ⊢
 obtain ⟨c,hc,hg⟩:=h
 unfold setCells at hc
 have hno:∀ c ∈ enc K x,γ ∉ c.refs:=fun c hc hg => by
  have:γ ∈ SV.refsL (enc K x):=zpN.2 ⟨c,hc,hg⟩
  rw [zpM] at this; cases this
 rcases List.mem_append.1 hc with h1 | h1
 ·exact absurd hg (hno c (List.mem_of_mem_take h1))
 ·rcases List.mem_append.1 h1 with h2 | h2
  ·exact ⟨c,h2,hg⟩
  ·exact absurd hg (hno c (List.mem_of_mem_drop h2))
theorem zmj (hH:HRel ρ H w) {rs:List Nat} {γ b o n sz:Nat} (hg:γ ∈ rs) (hr:ρ γ = .at b o n sz):Free (ρ.kill rs) w b:=by
 refine ⟨hH.lt _ _ _ _ _ hr,hH.resf _ _ _ _ _ hr,fun β o' n' sz' h => ?_⟩
 simp only [Map.kill] at h
 split at h
 ·cases h
 ·rename_i hn
  have:=hH.inj _ _ _ _ _ _ _ _ _ hr h
  subst this
  exact hn ⟨hg,by rw [hr]; rfl⟩
theorem kill_at {rs:List Nat} {β:Nat} (h:β ∉ rs):(ρ.kill rs) β = ρ β:=by
 simp only [Map.kill]; rw [if_neg (fun h2 => h h2.1)]
theorem zvD {ρ:Map} {H:Heap} {w:World} {t:TypeId} {i:TypeInfo} {u:Value} {vs cs:List SV} {β b o' n sz d k j:Nat} {K:Kd} {xs:List K.T} (hH:HRel ρ H w) (hi:P.info? t = some i) (hc:VRels ρ w vs u.cells.toList) (hlen:vs.length = i.size) (hone:vs.all SV.oneB = true)
  (hb:H[β]? = some (.tree d K xs (some (k,cs)))) (hr:ρ β = .at b o' n sz) (hle:j + i.size ≤ K.sz) :
  ∃ w',(Instr.storeAt t (.pointer (some ⟨b,o' + k * sz + j,none⟩)) u).run P w = .ok () w' ∧ Good false ρ H w .junk (H.set β (.tree d K xs (some (k,setCells cs j vs)))) undef w' ρ:=by
 have hlt:β < H.length:=(List.getElem?_eq_some_iff.1 hb).1
 obtain ⟨y,h1,h2⟩:=hH.at_ β hlt _ _ _ _ hr
 rw [hb] at h1; simp only [Option.some.injEq] at h1; subst h1
 simp only [BRel] at h2
 obtain ⟨rfl,rfl,C,tC,us,tk,hC,hCs,hul,hus,hseq,hnd,hvl,hex⟩:=h2
 obtain ⟨hk,hcl⟩:=hex _ rfl
 simp only at hk hcl
 have hkz:(k + 1) * K.sz ≤ xs.length * K.sz:=Nat.mul_le_mul_right _ hk
 rw [Nat.add_mul,Nat.one_mul] at hkz
 have hwl:u.cells.toList.length = i.size:=by rw [← hc.length]; exact hlen
 generalize hws:u.cells.toList = ws at hc hwl
 have hone':=one_all hc hone
 have hs':((C.toList.take (o' + k * K.sz + j) ++ ws ++ C.toList.drop (o' + k * K.sz + j + ws.length)).toArray).size = C.size:=by
  simp only [List.size_toArray,List.length_append,List.length_take,List.length_drop,Array.length_toList]; omega
 have hpl:∀ c,ExRel ρ w (some (k,cs)) c → c.length = K.sz:=fun c hc => by rw [← (hc _ rfl).length]; exact hcl
 obtain ⟨hq,hput⟩:=hseq.put hpl (fun _ _ _ h => h.length) hk
 have hws':u.cells.size = i.size:=by rw [← hwl,← hws,Array.length_toList]
 have hrun:=zpL (P:=P) (o':=o' + k * K.sz + j) (u:=u) hi hws' hC (by omega) (by rw [hws]; exact hone')
 rw [hws] at hrun
 have hst:=Step.setRow (w:=w) (C':=(C.toList.take (o' + k * K.sz + j) ++ ws ++ C.toList.drop (o' + k * K.sz + j + ws.length)).toArray) hr hC hs'
 refine ⟨_,hrun,zvC hH hlt hr hC hs' ?_⟩
 generalize hc0:(us.drop (k * K.sz)).take K.sz = c at hq
 have hc0l:c.length = K.sz:=by rw [← hc0]; simp; omega
 have hc':=zpI (off:=j) (hq _ rfl) hc
 simp only [BRel]
 refine ⟨trivial,trivial,_,_,us.take (k * K.sz) ++ (c.take j ++ (ws ++ c.drop (j + ws.length))) ++ us.drop (k * K.sz + K.sz),tk,setRow_heap w b C _ tC _ hC,by rw [hs']; exact hCs,?_,fun q v hv => ?_,?_,hnd,hvl,fun p hp => ?_⟩
 ·simp; omega
 ·have hl1:(c.take j ++ (ws ++ c.drop (j + ws.length))).length = K.sz:=by simp; omega
  have e1:=zaS us (c.take j ++ (ws ++ c.drop (j + ws.length))) (k * K.sz) q (by rw [hl1]; omega)
  rw [hl1] at e1
  rw [e1] at hv
  rw [List.getElem?_toArray,zaS _ _ _ _ (by simp only [Array.length_toList]; omega)]
  split at hv
  ·rename_i hq1
   rw [← List.append_assoc,zaS _ _ _ _ (by omega)] at hv
   split at hv
   ·rename_i hq2
    rw [if_pos (by omega),← hv]; congr 1; omega
   ·rename_i hq2
    rw [if_neg (by omega),Array.getElem?_toList]
    rw [← hc0,List.getElem?_take,if_pos (by omega),List.getElem?_drop] at hv
    rw [← hus _ _ hv]; congr 1; omega
  ·rename_i hq1
   rw [if_neg (by omega),Array.getElem?_toList]
   exact hus _ _ hv
 ·refine (hput (ExRel ρ (w.setRow b _) (some (k,setCells cs j vs))) _ fun p hp => ?_).mono (fun _ h => h) fun x _ c t ht h => h.keep (fun K x cs hc => hc.step hst) fun b' hb' => ?_
  ·cases hp; exact hc'.step hst
  ·have hne:b ≠ b':=by rintro rfl; exact hH.resf _ _ _ _ _ hr (.inr (by rw [hvl _ (ht _ hb')]; simp))
   simp only [World.setRow]; rw [Array.getElem?_modify,if_neg hne]
 ·cases hp
  exact ⟨hk,by rw [zpC (by omega)]; exact hcl⟩
theorem snd_st {t:TypeId} {i:TypeInfo} {x y:Operand} {sx sy:S} (hop:o.op = .store t x y) (hi:P.info? t = some i) (hx:opL x = some sx) (hy:opL y = some sy) (ht:TRel ρ w τ a N) (hH:HRel ρ H w)
  (hun:∀ γ,H.length ≤ γ → ρ γ = .unborn) (he:runI T (.st i.size sx sy) τ H (fun v H => some (v,H)) = some (v,H')):OpOK P o a false ρ H w v H':=by
 have vx:=opL_rel ht hx
 have vy:=opL_rel ht hy
 simp only [runI,stI] at he
 split at he
 ·simp at he
 ·rename_i vs hvs
  have hc:=zmi hvs vy
  have hcl:=hc.length
  simp only [Array.length_toList] at hcl
  split at he
  ·rename_i hlen
   split at he
   ·rename_i β off ex
    rw [ex] at vx
    split at he
    ·rename_i cs t' z hb
     split at he
     ·rename_i hle
      obtain ⟨hle,hone⟩:=hle
      simp at he; obtain ⟨rfl,rfl⟩:=he
      obtain ⟨b,o',n,sz,hr,hu⟩:=ptr_rel hH hb (by simp) vx
      obtain ⟨C,tC,hC,hz,hn,hsz,hcs,hm⟩:=zL hH hb hr
      have hlt:β < H.length:=(List.getElem?_eq_some_iff.1 hb).1
      have hone':=one_all hc hone
      have hul:(a.eval y).cells.toList.length = i.size:=by simp; omega
      have hs':((C.toList.take (o' + off) ++ (a.eval y).cells.toList ++ C.toList.drop (o' + off + (a.eval y).cells.toList.length)).toArray).size = C.size:=by
       simp only [List.size_toArray,List.length_append,List.length_take,List.length_drop,Array.length_toList] at hul ⊢; omega
      refine OpOK.skip (w':=w.setRow b _) (by
       simp only [execOp,hop,Sem.run_bind,hu,zpL (o':=o' + off) hi (by omega) hC (by omega) hone',Result.andThen_ok,Sem.run_pure]) (zvC hH hlt hr hC hs' ?_)
      simp only [BRel]
      refine ⟨hz,by rw [zpC (by omega)]; exact hn,_,_,setRow_heap w b C _ tC _ hC,by rw [hs']; exact hsz,fun j s hs => ?_⟩
      rw [zGj (by omega)] at hs
      have hst:=Step.setRow (C':=(C.toList.take (o' + off) ++ (a.eval y).cells.toList ++ C.toList.drop (o' + off + (a.eval y).cells.toList.length)).toArray) hr hC hs'
      rw [List.getElem?_toArray,zaS _ _ _ _ (by simp only [Array.length_toList] at hul ⊢; omega)]
      split at hs
      ·rename_i hj
       obtain ⟨u,h1,h2⟩:=hc.get _ _ hs
       refine ⟨u,?_,h2.step hst⟩
       rw [if_pos (by omega),← h1]; congr 1; omega
      ·rename_i hj
       obtain ⟨u,h1,h2⟩:=hcs.get _ _ hs
       rw [List.getElem?_take] at h1
       split at h1
       ·rw [List.getElem?_drop] at h1
        refine ⟨u,?_,h2.step hst⟩
        rw [if_neg (by omega)]; exact h1
       ·simp at h1
     ·simp at he
    ·simp at he
   ·rename_i β k j ex
    rw [ex] at vx
    split at he
    ·rename_i K xs t' hb
     split at he
     ·simp at he
     ·rename_i hnc
      split at he
      ·rename_i y' hdec
       split at he
       ·rename_i hle
        obtain ⟨hle,hone⟩:=hle
        obtain ⟨hk,he⟩:=za he
        simp at he; obtain ⟨rfl,rfl⟩:=he
        have hk:k < xs.length:=by simpa using hk
        obtain ⟨b,o',n,sz,hr,hu⟩:=zim hH hb (by simp) vx
        have hlt:β < H.length:=(List.getElem?_eq_some_iff.1 hb).1
        have hβ:β ∉ SV.refsL vs:=by simpa using hnc
        obtain ⟨hn,hsz,C,tC,hC,hCs,hrow⟩:=row_raw hH hb hr
        subst hn; subst hsz
        obtain ⟨es,he1,he2⟩:=hrow k (xs.getD k K.dflt) (by simp [List.getD,List.getElem?_eq_getElem hk])
        have hel:=he1.length
        have hul:(a.eval y).cells.toList.length = i.size:=by simp; omega
        have hkz:(k + 1) * K.sz ≤ xs.length * K.sz:=Nat.mul_le_mul_right _ hk
        rw [Nat.add_mul,Nat.one_mul] at hkz
        have hone':=one_all hc hone
        have hs':((C.toList.take (o' + k * K.sz + j) ++ (a.eval y).cells.toList ++ C.toList.drop (o' + k * K.sz + j + (a.eval y).cells.toList.length)).toArray).size = C.size:=by
         simp only [List.size_toArray,List.length_append,List.length_take,List.length_drop,Array.length_toList] at hul ⊢; omega
        have hr1:(ρ.kill (SV.refsL vs)) β = .at b o' xs.length K.sz:=by rw [kill_at hβ]; exact hr
        have hst:=(Step.kill (ρ:=ρ) (w:=w) (SV.refsL vs)).trans (Step.setRow (C':=(C.toList.take (o' + k * K.sz + j) ++ (a.eval y).cells.toList ++ C.toList.drop (o' + k * K.sz + j + (a.eval y).cells.toList.length)).toArray) hr1 hC hs')
        have hdr:=zax (dp:=false) (B:=fun b'' => Free ρ w b'' ∨ ∃ γ ∈ SV.refsL vs,∃ o n sz,ρ γ = .at b'' o n sz) hH (fun _ h => .inl h) (fun h => by cases h)
         (fun γ b'' o n sz hg hrg => .inr ⟨γ,zGF (hg.resolve_left (by simp)),o,n,sz,hrg⟩) hdec (zpI (off:=j) (enc_rel he1) hc)
        have hB:∀ b'',(Free ρ w b'' ∨ ∃ γ ∈ SV.refsL vs,∃ o n sz,ρ γ = .at b'' o n sz) → Free (ρ.kill (SV.refsL vs)) w b'' ∧ b'' ≠ b:=by
         rintro b'' (h | ⟨γ,hg,o1,n1,sz1,hrg⟩)
         ·exact ⟨h.step (Step.kill _),fun e => h.2.2 _ _ _ _ (by rw [e]; exact hr)⟩
         ·refine ⟨zmj hH hg hrg,fun e => ?_⟩
          subst e
          have:=hH.inj _ _ _ _ _ _ _ _ _ hrg hr
          subst this; exact hβ hg
        refine OpOK.skip (w':=w.setRow b _) (by
         simp only [execOp,hop,Sem.run_bind,hu,zpL (o':=o' + k * K.sz + j) hi (by omega) hC (by omega) hone',Result.andThen_ok,Sem.run_pure])
         ⟨hst,(hH.kill _).setRow (by rw [zc]; exact hlt) hr1 hC hs' ?_,by simp [VRel],by simp [zc],fun γ h1 h2 => zak h1,by simp⟩
        simp only [BRel]
        refine ⟨by simp,by first | rfl | trivial,_,_,setRow_heap w b C _ tC _ hC,by rw [hs']; exact hCs,fun q z hq => ?_⟩
        rw [List.getElem?_set] at hq
        split at hq
        ·rename_i hkq
         subst hkq
         simp [hk] at hq; subst hq
         refine ⟨_,CRel.mono (w':=w.setRow b _) (fun b'' h => (hB b'' h).1.step (Step.setRow hr1 hC hs')) (fun b'' h => ?_) hdr,fun jj u hu' => ?_⟩
         ·simp only [World.setRow]; rw [Array.getElem?_modify,if_neg (hB b'' h).2.symm]
         ·rw [List.getElem?_toArray,zaS _ _ _ _ (by simp only [Array.length_toList] at hul ⊢; omega)]
          rw [← List.append_assoc,zaS _ _ _ _ (by omega)] at hu'
          split at hu'
          ·rw [if_pos (by omega),← hu']; congr 1; omega
          ·rename_i hjj
           have hjl:jj < es.length:=(List.getElem?_eq_some_iff.1 hu').1
           rw [if_neg (by omega),Array.getElem?_toList]
           exact he2 jj u hu'
        ·rename_i hkq
         obtain ⟨es',h1,h2⟩:=hrow q z hq
         refine ⟨es',h1.step hst,fun jj u hu' => ?_⟩
         have hjl:jj < K.sz:=by rw [← h1.length]; exact (List.getElem?_eq_some_iff.1 hu').1
         have hne:q * K.sz + jj < k * K.sz ∨ (k + 1) * K.sz ≤ q * K.sz + jj:=by
          rcases Nat.lt_or_gt_of_ne hkq with h3 | h3
          ·right; have:(k + 1) * K.sz ≤ q * K.sz:=Nat.mul_le_mul_right _ h3; omega
          ·left; have:(q + 1) * K.sz ≤ k * K.sz:=Nat.mul_le_mul_right _ h3; rw [Nat.add_mul,Nat.one_mul] at this; omega
         rw [Nat.add_mul,Nat.one_mul] at hne
         rw [List.getElem?_toArray,zaS _ _ _ _ (by simp only [Array.length_toList] at hul ⊢; omega),if_neg (by omega),Array.getElem?_toList]
         exact h2 jj u hu'
       ·simp at he
      ·simp at he
    ·rename_i d K xs ex' hb
     split at he
     ·rename_i hle
      obtain ⟨hle,hone⟩:=hle
      obtain ⟨b,o',n,sz,hr,hu⟩:=zim hH hb (by simp) vx
      have hlt:β < H.length:=(List.getElem?_eq_some_iff.1 hb).1
      split at he
      ·obtain ⟨hk,he⟩:=za he
       simp only [Option.some.injEq,Prod.mk.injEq] at he
       obtain ⟨rfl,rfl⟩:=he
       obtain ⟨ρ1,g1,g2,g3,g4⟩:=zpF hH hun hb hr (of_decide_eq_true hk)
       have hb1:(H.set β (.tree d K xs (some (k,(expl K d (xs.getD k K.dflt) H.length).1))) ++ (expl K d (xs.getD k K.dflt) H.length).2)[β]? = some (.tree d K xs (some (k,(expl K d (xs.getD k K.dflt) H.length).1))):=by
        rw [List.getElem?_append_left (by simpa using hlt)]; simp [hlt]
       obtain ⟨w',h5,h6⟩:=zvD (P:=P) g1 hi (hc.step g2) hlen hone hb1 (by rw [g3 β hlt]; exact hr) hle
       refine OpOK.skip (w':=w') (by
        simp only [execOp,hop,Sem.run_bind,hu,h5,Result.andThen_ok,Sem.run_pure]) (ρ':=ρ1) ⟨g2.trans h6.step,?_,h6.vrel,by simp,fun γ h7 h8 => g4 γ (by simpa using h8),by simp⟩
       have e:(H ++ (expl K d (xs.getD k K.dflt) H.length).2).set β (.tree d K xs (some (k,setCells (expl K d (xs.getD k K.dflt) H.length).1 j vs))) =
         (H.set β (.tree d K xs (some (k,(expl K d (xs.getD k K.dflt) H.length).1))) ++ (expl K d (xs.getD k K.dflt) H.length).2).set β (.tree d K xs (some (k,setCells (expl K d (xs.getD k K.dflt) H.length).1 j vs))):=by
        rw [List.set_append_left _ _ hlt,List.set_append_left _ _ (by simpa using hlt)]; simp
       rw [e]; exact h6.hrel
      ·rename_i k' cs
       obtain ⟨hk,he⟩:=za he
       have hk:=of_decide_eq_true hk
       subst hk
       simp only [Option.some.injEq,Prod.mk.injEq] at he
       obtain ⟨rfl,rfl⟩:=he
       obtain ⟨w',h5,h6⟩:=zvD (P:=P) hH hi hc hlen hone hb hr hle
       exact OpOK.skip (w':=w') (by
        simp only [execOp,hop,Sem.run_bind,hu,h5,Result.andThen_ok,Sem.run_pure]) h6
     ·simp at he
    ·simp at he
   ·simp at he
  ·simp at he
end
end Go.Proofs.YtljojacnjjgceaaGreat.Den
namespace Go.Proofs.YtljojacnjjgceaaGreat.Den
open Go Go.RowKit
section
variable {P:Program} {o:Oper} {a:Act} {m:Bool} {ρ:Map} {H H':Heap} {w w':World} {τ:Env} {N:Nat} {T:Tab} {v:SV}
theorem Step.realloc {rs:List Nat} (C:Array Value) (t:TypeId) (n sz:Nat) (hu:ρ H.length = .unborn) :
  Step ρ w ((ρ.kill rs).put H.length (.at w.heap.size 0 n sz)) (w.drew.alloc (.cells C t (0,0))) :=
 ((Step.kill rs).trans Step.drew).trans (Step.alloc (w:=w.drew) H.length C t n sz (zak hu))
theorem Step.inplace {rs:List Nat} {β b o n sz:Nat} {C C':Array Value} {t:TypeId} (o' n' sz':Nat) (hr:ρ β = .at b o n sz) (hu:ρ H.length = .unborn) (hb:w.heap[b]? = some (.cells C t (0,0))) (hs:C'.size = C.size) :
  Step ρ w ((ρ.kill rs).put H.length (.at b o' n' sz')) (w.setRow b C'):=by
 have h1:=Step.setRow hr hb hs
 exact {
  os:=rfl,tape:=rfl,output:=rfl
  size:=h1.size
  kept:=h1.kept
  shape:=h1.shape
  img:=fun γ b1 o1 n1 sz1 hg => by
   by_cases e:γ = H.length
   ·subst e; rw [Map.put_same] at hg; injection hg with h2; subst h2; exact .inl ⟨β,o,n,sz,hr⟩
   ·rw [Map.put_other _ _ e] at hg
    simp only [Map.kill] at hg
    split at hg
    ·cases hg
    ·exact .inl ⟨γ,o1,n1,sz1,hg⟩
  ref:=fun γ hg => by
   have e:γ ≠ H.length:=by rintro rfl; exact hg hu
   rw [Map.put_other _ _ e]
   simp only [Map.kill]
   split
   ·exact .inr rfl
   ·exact .inl rfl
  res:=rfl
  vl:=fun _ _ h => ours_vl h }
def RowsAt (w:World) (B:Nat → Prop) (K:Kd) (ys:List K.T) (ad:Addr):Prop :=
 ∀ (i:Nat) (y:K.T),ys[i]? = some y → ∃ es,CRel w B K y es ∧ ∀ (j:Nat) (u:Value),es[j]? = some u → w.cell? (ad.add (i * K.sz + j)) = some u
def RowL (w:World) (B:Nat → Prop) (K:Kd) (ys:List K.T) (cs:List Value):Prop :=
 ∀ (i:Nat) (y:K.T),ys[i]? = some y → ∃ es,CRel w B K y es ∧ ∀ (j:Nat) (u:Value),es[j]? = some u → cs[i * K.sz + j]? = some u
theorem flat_of {B:Nat → Prop} {K:Kd}:∀ {ys:List K.T} {ad:Addr},RowsAt w B K ys ad →
  ∃ cs:List Value,cs.length = ys.length * K.sz ∧ (∀ j u,cs[j]? = some u → w.cell? (ad.add j) = some u) ∧ (∀ u ∈ cs,u.oneCell' = true) ∧ RowL w B K ys cs
 | [],ad,_ => ⟨[],by simp,by simp,by simp,fun i y h => by simp at h⟩
 | y :: ys,ad,h => by
  obtain ⟨es,h1,h2⟩:=h 0 y rfl
  have ht:RowsAt w B K ys (ad.add K.sz):=fun i z hz => by
   obtain ⟨es',h3,h4⟩:=h (i + 1) z (by simpa using hz)
   exact ⟨es',h3,fun j u hu => by rw [add_add,← h4 j u hu]; congr 2; rw [Nat.add_mul]; omega⟩
  obtain ⟨cs,h3,h4,h5,h6⟩:=flat_of ht
  have hl:=h1.length
  refine ⟨es ++ cs,by simp [h3,hl,Nat.add_mul]; omega,fun j u hu => ?_,fun u hu => ?_,fun i z hz => ?_⟩
  ·rw [List.getElem?_append] at hu
   split at hu
   ·have:=h2 j u hu; simpa using this
   ·have:=h4 _ u hu; rw [add_add] at this; rw [← this]; congr 2; omega
  ·rcases List.mem_append.1 hu with h7 | h7
   ·exact zmc h1 u h7
   ·exact h5 u h7
  ·cases i with
   | zero =>
    simp at hz; subst hz
    exact ⟨es,h1,fun j u hu => by
     have:j < es.length:=(List.getElem?_eq_some_iff.1 hu).1
     rw [Nat.zero_mul,Nat.zero_add,List.getElem?_append_left this]; exact hu⟩
   | succ i =>
    obtain ⟨es',h7,h8⟩:=h6 i z (by simpa using hz)
    refine ⟨es',h7,fun j u hu => ?_⟩
    rw [List.getElem?_append_right (by rw [hl,Nat.add_mul]; omega),← h8 j u hu]
    congr 1; rw [hl,Nat.add_mul]; omega
theorem RowL.append {B:Nat → Prop} {K:Kd} {xs ys:List K.T} {cs ds:List Value} (h1:RowL w B K xs cs) (hl:cs.length = xs.length * K.sz) (h2:RowL w B K ys ds):RowL w B K (xs ++ ys) (cs ++ ds):=by
 intro i y hy
 rw [List.getElem?_append] at hy
 split at hy
 ·rename_i hi
  obtain ⟨es,h3,h4⟩:=h1 i y hy
  refine ⟨es,h3,fun j u hu => ?_⟩
  have:=h4 j u hu
  rw [List.getElem?_append_left (List.getElem?_eq_some_iff.1 this).1]; exact this
 ·rename_i hi
  obtain ⟨es,h3,h4⟩:=h2 _ y hy
  refine ⟨es,h3,fun j u hu => ?_⟩
  have hle:xs.length * K.sz ≤ i * K.sz:=Nat.mul_le_mul_right _ (by omega)
  rw [List.getElem?_append_right (by omega),← h4 j u hu]
  congr 1
  rw [hl,Nat.sub_mul]; omega
theorem RowL.rel {B:Nat → Prop} {K:Kd} {xs:List K.T} {cs:List Value} {C:Array Value} {o:Nat} (h:RowL w B K xs cs) (hc:∀ j u,cs[j]? = some u → C[o + j]? = some u):RowRel w B K xs C o:=by
 intro i x hx
 obtain ⟨es,h1,h2⟩:=h i x hx
 exact ⟨es,h1,fun j u hu => by rw [Nat.add_assoc]; exact hc _ u (h2 j u hu)⟩
theorem RowL.mono {B B':Nat → Prop} {K:Kd} {xs:List K.T} {cs:List Value} (hB:∀ b,B b → B' b) (hw:∀ b,B b → w'.heap[b]? = w.heap[b]?) (h:RowL w B K xs cs):RowL w' B' K xs cs:=by
 intro i x hx
 obtain ⟨es,h1,h2⟩:=h i x hx
 exact ⟨es,CRel.mono hB hw h1,h2⟩
theorem zvE (hH:HRel ρ H w) {x:SV} {u:Value} {K:Kd} {ys:List K.T} (h:decH false H (.list K) [x] = some ys) (hv:VRel ρ w x u) :
  ∃ ad c,u = .slice ad ys.length c ∧ ys.length ≤ c ∧ (0 < ys.length → ∃ a',ad = some a' ∧ RowsAt w (Free ρ w) K ys a') ∧
   ((x = .nils ∨ (∃ β,x = .own β) ∨ ∃ β o l,x = .sub β o l) → (ys = [] ∧ c = 0 ∧ ∀ β ∈ x.refs,β < H.length) ∨ ∃ β b o0 n0 o1,x.refs = [β] ∧ β < H.length ∧ ρ β = .at b o0 n0 K.sz ∧ ad = some ⟨b,o1,none⟩ ∧ Room w b (o1 + c * K.sz)):=by
 unfold decH at h
 split at h
 ·rename_i e' xs heq
  simp at heq; subst heq
  split at h
  ·rename_i he
   subst he
   simp at h; subst h
   simp only [VRel,CRel] at hv
   obtain ⟨ad,c,e1,hc,hx⟩:=hv
   simp at e1
   exact ⟨ad,c,e1,hc,fun h0 => by
    obtain ⟨a',e2,_,h3⟩:=hx h0
    exact ⟨a',e2,h3⟩,fun h => by simp at h⟩
  ·simp at h
 ·rename_i heq
  simp at heq; subst heq
  simp at h; subst h
  simp only [VRel] at hv
  obtain ⟨ad,rfl⟩:=hv
  exact ⟨ad,0,rfl,Nat.le_refl _,fun h => by simp at h,fun _ => .inl ⟨rfl,rfl,by simp [SV.refs]⟩⟩
 ·rename_i β heq
  simp at heq; subst heq
  split at h
  ·rename_i e' xs t hb
   have hlt:β < H.length:=(List.getElem?_eq_some_iff.1 hb).1
   split at h
   ·rename_i he
    subst he
    simp at h; subst h
    rcases own_rel hH hb (by simp) hv with ⟨hr,ad,rfl⟩ | ⟨b,o,n,sz,c,hr,hc,rfl,hroom⟩
    ·have:=ziq hH hb hr; subst this
     exact ⟨ad,0,rfl,Nat.le_refl _,fun h => by simp at h,fun _ => .inl ⟨rfl,rfl,by simp [SV.refs,hlt]⟩⟩
    ·obtain ⟨rfl,rfl,C,tC,hC,_,hrow⟩:=row_raw hH hb hr
     refine ⟨_,c,rfl,hc,fun _ => ⟨_,rfl,fun i y hy => ?_⟩,fun _ => .inr ⟨β,b,o,_,o,by simp [SV.refs],hlt,hr,rfl,hroom⟩⟩
     obtain ⟨es,h1,h2⟩:=hrow i y hy
     exact ⟨es,h1,fun j u hu => by rw [zd,zn hC,← Nat.add_assoc]; exact h2 j u hu⟩
   ·simp at h
  ·rename_i ds t z hb
   have hlt:β < H.length:=(List.getElem?_eq_some_iff.1 hb).1
   split at h
   ·rename_i hz
    obtain ⟨rfl,hz0⟩:=hz
    simp only [cond] at h
    rcases own_rel hH hb (by simp) hv with ⟨hr,ad,rfl⟩ | ⟨b,o,n,sz,c,hr,hc,rfl,hroom⟩
    ·have:=zcx hH hb hr; subst this
     simp [decRows] at h; subst h
     exact ⟨ad,0,rfl,Nat.le_refl _,fun h => by simp at h,fun _ => .inl ⟨rfl,rfl,by simp [SV.refs,hlt]⟩⟩
    ·obtain ⟨C,tC,hC,hsz,hn,hle,hcs,hm⟩:=zL hH hb hr
     subst hsz
     have hrows:=zeB (fun cs x vs h1 h2 => zB h1 h2) K.sz _ _ _ _ h hcs
     have hn':ds.length / K.sz = n:=by rw [hn]; exact Nat.mul_div_cancel _ (by omega)
     rw [hn'] at hrows
     refine ⟨_,c,by rw [hrows.1],by rw [hrows.1]; exact hc,fun _ => ⟨_,rfl,fun i y hy => ?_⟩,fun _ => .inr ⟨β,b,o,n,o,by simp [SV.refs],hlt,hr,rfl,hroom⟩⟩
     refine ⟨_,hrows.2 i y hy,fun j u hu => ?_⟩
     rw [List.getElem?_take] at hu
     split at hu
     ·rw [List.getElem?_drop] at hu
      have:=hm _ u hu
      exact this
     ·simp at hu
   ·simp at h
  ·split at h
   ·split at h
    ·rename_i hd; cases hd
    ·simp at h
   ·simp at h
  ·simp at h
 ·rename_i β off len heq
  simp at heq; subst heq
  split at h
  ·rename_i e' xs t hb
   have hlt:β < H.length:=(List.getElem?_eq_some_iff.1 hb).1
   split at h
   ·rename_i he
    subst he
    simp at h; subst h
    simp only [VRel] at hv
    rcases hr:ρ β with _ | _ | _ | ⟨b,o,n,sz⟩ <;> rw [hr] at hv <;> simp only at hv
    ·exact absurd hr (live_of hH hb (by simp))
    ·obtain ⟨rfl,ad,rfl⟩:=hv
     exact ⟨ad,0,by simp,by simp,fun h => by simp at h,fun _ => .inl ⟨by simp,rfl,by simp [SV.refs,hlt]⟩⟩
    ·obtain ⟨hn,ad,c,rfl,hc,ha⟩:=hv
     obtain ⟨rfl,rfl,C,tC,hC,_,hrow⟩:=row_raw hH hb hr
     have hl:((xs.drop off).take len).length = len:=by simp; omega
     refine ⟨ad,c,by rw [hl],by rw [hl]; exact hc,fun h0 => ?_,fun _ => ?_⟩
     ·rcases ha with ⟨h3,_⟩ | ⟨rfl,_⟩
      ·rw [hl] at h0; omega
      ·refine ⟨_,rfl,fun i y hy => ?_⟩
       rw [List.getElem?_take] at hy
       split at hy
       ·rw [List.getElem?_drop] at hy
        obtain ⟨es,h3,h4⟩:=hrow _ y hy
        refine ⟨es,h3,fun j u hu => ?_⟩
        rw [zd,zn hC,← h4 j u hu]
        congr 1; rw [Nat.add_mul]; omega
       ·simp at hy
     ·rcases ha with ⟨rfl,rfl⟩ | ⟨rfl,hroom⟩
      ·exact .inl ⟨by simp,rfl,by simp [SV.refs,hlt]⟩
      ·exact .inr ⟨β,b,o,_,_,by simp [SV.refs],hlt,hr,rfl,hroom⟩
   ·simp at h
  ·split at h
   ·rename_i hz; cases hz.1
   ·simp at h
  ·simp at h
 ·simp at h
theorem cellsN {e:TypeId} {i:TypeInfo} {z:Value} (hi:P.info? e = some i) (hz:i.zero = some z) (w:World):(zeroValue e).run P w = .ok z w:=by simp [zeroValue,typeInfo,hi,hz]
theorem ziw {sz n cx:Nat} {ax:Option Addr} {news:List Value} (hl:news.length = n * sz) (hn:0 < n → ∃ ad,ax = some ad ∧ ∀ j u,news[j]? = some u → w.cell? (ad.add j) = some u) :
  (Builtin.firstCells sz n (.slice ax n cx)).run P w = .ok news.toArray w:=by
 rcases Nat.eq_zero_or_pos n with h0 | h0
 ·subst h0
  have:news = []:=List.eq_nil_of_length_eq_zero (by simpa using hl)
  subst this
  cases ax with
  | none => exact run_firstCells_none w _ _ _ _
  | some ad => exact run_firstCells_some w _ _ _ _ _ [] (by simp) (by simp)
 ·obtain ⟨ad,rfl,h⟩:=hn h0
  exact run_firstCells_some w _ _ _ _ _ news hl h
theorem zvF {t ty e:TypeId} {i:TypeInfo} {b o' n c m cx:Nat} {ax:Option Addr} {news:List Value} {C:Array Value} {t':TypeId} (ht:P.underlying t = some (.slice e)) (hi:P.info? e = some i)
  (hC:w.heap[b]? = some (.cells C t' (0,0))) (hroom:o' + c * i.size ≤ C.size) (hfit:n + m ≤ c) (hl:news.length = m * i.size)
  (hn:0 < m → ∃ ad,ax = some ad ∧ ∀ j u,news[j]? = some u → w.cell? (ad.add j) = some u) (h1:∀ u ∈ news,u.oneCell' = true) :
  (Builtin.append_ #[t,t] ty #[.slice (some ⟨b,o',none⟩) n c,.slice ax m cx]).run P w =
   .ok (.slice (some ⟨b,o',none⟩) (n + m) c) (w.setRow b (C.toList.take (o' + n * i.size) ++ news ++ C.toList.drop (o' + n * i.size + news.length)).toArray):=by
 have hf:=ziw (P:=P) (w:=w) (cx:=cx) hl hn
 have hle:(n + m) * i.size ≤ c * i.size:=Nat.mul_le_mul_right _ hfit
 rw [Nat.add_mul] at hle
 have hs:=run_storeCells_at (P:=P) b (o' + n * i.size) t' news 0 C w hC (by omega) h1
 simp only [Nat.add_zero] at hs
 simp [Builtin.append_,run_underlying ht,sizeOf,typeInfo,hi,Builtin.lenOf,hfit,hf,zd,hs]
theorem zvG {t ty e:TypeId} {i:TypeInfo} {as ax:Option Addr} {cx:Nat} (ht:P.underlying t = some (.slice e)) (hi:P.info? e = some i) :
  (Builtin.append_ #[t,t] ty #[.slice as 0 0,.slice ax 0 cx]).run P w = .ok (.slice as 0 0) w:=by
 have hf:=ziw (P:=P) (w:=w) (sz:=i.size) (n:=0) (cx:=cx) (ax:=ax) (news:=[]) (by simp) (by simp)
 cases as with
 | none => simp [Builtin.append_,run_underlying ht,sizeOf,typeInfo,hi,Builtin.lenOf,hf]
 | some ad => simp [Builtin.append_,run_underlying ht,sizeOf,typeInfo,hi,Builtin.lenOf,hf,storeCells]
theorem zvH {t ty e:TypeId} {i:TypeInfo} {z:Value} {as ax:Option Addr} {n c m cx:Nat} {olds news:List Value} (ht:P.underlying t = some (.slice e)) (hi:P.info? e = some i) (hz:i.zero = some z) (hzs:z.cells.size = i.size)
  (hlo:olds.length = n * i.size) (ho:0 < n → ∃ ad,as = some ad ∧ ∀ j u,olds[j]? = some u → w.cell? (ad.add j) = some u)
  (hl:news.length = m * i.size) (hn:0 < m → ∃ ad,ax = some ad ∧ ∀ j u,news[j]? = some u → w.cell? (ad.add j) = some u)
  (hg:c < n + m) (hlim:n + m < LIM) (hb:i.bytes ≤ 32768) :
  ∃ (cap:Nat) (C:Array Value),n + m ≤ cap ∧ C.size = cap * i.size ∧ (∀ (j:Nat) (u:Value),(olds ++ news)[j]? = some u → C[j]? = some u) ∧
   (Builtin.append_ #[t,t] ty #[.slice as n c,.slice ax m cx]).run P w = .ok (.slice (some ⟨w.heap.size,0,none⟩) (n + m) cap) (w.drew.alloc (.cells C e (0,0))):=by
 have hf:=ziw (P:=P) (w:=w.drew) (cx:=cx) hl (by simpa using hn)
 have hfo:=ziw (P:=P) (w:=w.drew) (cx:=c) hlo (by simpa using ho)
 have hnn:¬ (n + m ≤ c):=by omega
 have hcap:n + m ≤ grownCap w (n + m) c e:=by unfold grownCap Question.cut; simp
 have h63:¬ (9223372036854775807 < ((n:Int) + (m:Int))):=by simp only [LIM] at hlim; omega
 have h48:¬ (281474976710656 < Builtin.nextslicecap (n + m) c * i.bytes):=by
  have h1:=nextslicecap_le hg
  have h2:Builtin.nextslicecap (n + m) c * i.bytes ≤ (2 * (n + m)) * 32768:=Nat.mul_le_mul h1 hb
  simp only [LIM] at hlim
  omega
 refine ⟨grownCap w (n + m) c e,olds.toArray ++ news.toArray ++ Builtin.zeroCells z.cells (grownCap w (n + m) c e - (n + m)),hcap,?_,?_,?_⟩
 ·simp [Builtin.zeroCells,hlo,hl,hzs,← Nat.add_mul]
  congr 1; omega
 ·intro j u hu
  rw [Array.getElem?_append_left (by have:=(List.getElem?_eq_some_iff.1 hu).1; simpa using this)]
  simpa using hu
 ·simp [Builtin.append_,run_underlying ht,sizeOf,typeInfo,zeroValue,hi,hz,Builtin.lenOf,hnn,h63,h48,Question.forced,hf,hfo,newRow,grownCap]
  congr 2
  apply Array.ext'
  simp [List.append_assoc]
theorem zvI {t ty e:TypeId} {sz by_:Nat} {zs:List SV} {rs:List Nat} {as ax:Option Addr} {n c m cx:Nat} {olds news:List Value} {x:Blk} (ht:P.underlying t = some (.slice e)) (hz:tinfo P e = some (sz,zs,by_)) (hb:by_ ≤ 32768)
  (hH:HRel ρ H w) (hu:ρ H.length = .unborn) (hlim:n + m < LIM) (hnc:n ≤ c)
  (hlo:olds.length = n * sz) (ho:0 < n → ∃ ad,as = some ad ∧ ∀ (j:Nat) (u:Value),olds[j]? = some u → w.cell? (ad.add j) = some u)
  (hl:news.length = m * sz) (hn:0 < m → ∃ ad,ax = some ad ∧ ∀ (j:Nat) (u:Value),news[j]? = some u → w.cell? (ad.add j) = some u) (h1:∀ u ∈ news,u.oneCell' = true)
  (hs:(n = 0 ∧ c = 0) ∨ ∃ β b o0 n0 o1,rs = [β] ∧ ρ β = .at b o0 n0 sz ∧ as = some ⟨b,o1,none⟩ ∧ Room w b (o1 + c * sz))
  (h0:n = 0 → m = 0 → x.empty) {mo:Bool} (hmo:mo = true → rs = [])
  (hx:∀ (ρ':Map) (w':World) (b o1:Nat) (C:Array Value) (tC:TypeId),Step ρ w ρ' w' → w'.heap[b]? = some (.cells C tC (0,0)) → o1 + (n + m) * sz ≤ C.size → (∀ (j:Nat) (u:Value),(olds ++ news)[j]? = some u → C[o1 + j]? = some u) →
   BRel ρ' w' b o1 (n + m) sz x) :
  ∃ u w' ρ',(Builtin.append_ #[t,t] ty #[.slice as n c,.slice ax m cx]).run P w = .ok u w' ∧ Good mo ρ H w (.own H.length) (kill rs H ++ [x]) u w' ρ':=by
 obtain ⟨i,z,hi,hzz,rfl,rfl,hsv,hzl⟩:=zal hz
 have hzs:z.cells.size = i.size:=by
  have:=(svsOf_rel (ρ:=ρ) (w:=w) hsv).length
  simp only [Array.length_toList] at this; omega
 by_cases hfit:n + m ≤ c
 ·rcases hs with ⟨rfl,rfl⟩ | ⟨β,b,o0,n0,o1,rfl,hr,rfl,C,tC,hC,hroom⟩
  ·obtain rfl:m = 0:=by omega
   refine ⟨_,w,(ρ.kill rs).put H.length .none_,zvG ht hi,zan hH hu ((Step.kill rs).trans (Step.ghost _ _ (by simp) (zak hu))) (fun _ _ _ _ _ _ _ => rfl) (fun _ _ _ => rfl) (.inl ⟨rfl,h0 rfl rfl⟩) (fun h => ⟨hmo h,fun _ _ => rfl⟩) ?_⟩
   simp only [VRel,Map.put_same]
   exact ⟨_,rfl⟩
  ·have hmul:(n + m) * i.size ≤ c * i.size:=Nat.mul_le_mul_right _ hfit
   have hmul':=hmul
   rw [Nat.add_mul] at hmul'
   have hlast:(C.toList.take (o1 + n * i.size) ++ news ++ C.toList.drop (o1 + n * i.size + news.length)).toArray.size = C.size:=by
    simp; omega
   have hst:=Step.inplace (rs:=[β]) o1 (n + m) i.size hr hu hC hlast
   refine ⟨_,w.setRow b _,_,zvF ht hi hC hroom hfit hl hn h1,zan hH hu hst (fun γ b' o' n' sz' hγ hr' => ?_) (fun b2 t2 hv2 => by have:b ≠ b2:=(by rintro rfl; exact hH.resf _ _ _ _ _ hr (.inr (by rw [hv2]; simp))); simp only [World.setRow]; rw [Array.getElem?_modify,if_neg this]) (.inr ⟨b,o1,n + m,i.size,rfl,?_,hH.resf _ _ _ _ _ hr,fun γ o' n' sz' hγ hr' => ?_,?_⟩) (fun h => by have:=hmo h; simp at this) ?_⟩
   ·have:b ≠ b':=by
     rintro rfl
     have:=hH.inj _ _ _ _ _ _ _ _ _ hr hr'
     subst this; simp at hγ
    simp only [World.setRow]; rw [Array.getElem?_modify,if_neg this]
   ·have:=hH.lt _ _ _ _ _ hr; simpa [World.setRow] using this
   ·have:=hH.inj _ _ _ _ _ _ _ _ _ hr hr'
    subst this; simp at hγ
   ·refine hx _ _ b o1 _ tC hst (setRow_heap w b C _ tC _ hC) (by rw [hlast]; omega) fun j u hj => ?_
    rw [List.getElem?_toArray,zaS _ _ _ _ (by simp; omega)]
    rw [List.getElem?_append] at hj
    split at hj
    ·rename_i hjl
     rw [if_neg (by omega),Array.getElem?_toList]
     have hn0:0 < n:=by
      rcases Nat.eq_zero_or_pos n with h | h
      ·subst h; omega
      ·exact h
     obtain ⟨ad,e1,h3⟩:=ho hn0
     simp at e1; subst e1
     have:=h3 j u hj
     rw [zd,zn hC] at this; exact this
    ·rename_i hjl
     have:=(List.getElem?_eq_some_iff.1 hj).1
     rw [if_pos (by omega),← hj]; congr 1; omega
   ·simp only [VRel,Map.put_same]
    exact ⟨c,hfit,rfl,_,tC,setRow_heap w b C _ tC _ hC,by rw [hlast]; exact hroom⟩
 ·obtain ⟨cap,C,hcap,hCs,hCc,hrun⟩:=zvH (P:=P) (ty:=ty) (cx:=cx) (c:=c) ht hi hzz hzs hlo ho hl hn (show c < n + m by omega) hlim hb
  have hst:=Step.realloc (ρ:=ρ) (w:=w) (rs:=rs) C e (n + m) i.size hu
  have hmul:(n + m) * i.size ≤ cap * i.size:=Nat.mul_le_mul_right _ hcap
  have hnew:(w.drew.alloc (.cells C e (0,0))).heap[w.heap.size]? = some (.cells C e (0,0)):=heap_alloc_new w.drew _
  refine ⟨_,_,_,hrun,zan hH hu hst (fun γ b' o' n' sz' hγ hr' => ?_) (fun b2 t2 hv2 => by first | exact zeC (hH.vlt hv2) | exact zeD (hH.vlt hv2)) (.inr ⟨w.heap.size,0,n + m,i.size,rfl,by simp,fun h => ?_,fun γ o' n' sz' hγ hr' => ?_,?_⟩) (fun h => ⟨hmo h,fun b hb => by simp only [World.alloc]; rw [Array.getElem?_push,if_neg (by simp; omega)]; rfl⟩) ?_⟩
  ·have:=hH.lt _ _ _ _ _ hr'
   simp only [World.alloc]; rw [Array.getElem?_push,if_neg (by simp; omega)]; rfl
  ·have:=hH.resl _ h; omega
  ·have:=hH.lt _ _ _ _ _ hr'; omega
  ·exact hx _ _ _ 0 C e hst hnew (by omega) (fun j u hj => by rw [Nat.zero_add]; exact hCc j u hj)
  ·simp only [VRel,Map.put_same]
   exact ⟨cap,hcap,rfl,C,e,hnew,by omega⟩
theorem zvJ (hH:HRel ρ H w) {sz:Nat} {x:SV} {u:Value} {cs:List SV} (hz:sz ≠ 0) (h:cellsOfRow H sz x = some cs) (hv:VRel ρ w x u) :
  ∃ ad n c vs,cs.length = n * sz ∧ u = .slice ad n c ∧ n ≤ c ∧ VRels ρ w cs vs ∧ (0 < n → ∃ a',ad = some a' ∧ ∀ (j:Nat) (u:Value),vs[j]? = some u → w.cell? (a'.add j) = some u) ∧
   ((n = 0 ∧ c = 0) ∨ ∃ β b o0 n0 o1,x.refs = [β] ∧ ρ β = .at b o0 n0 sz ∧ ad = some ⟨b,o1,none⟩ ∧ Room w b (o1 + c * sz)):=by
 unfold cellsOfRow at h
 split at h
 ·simp at h; subst h
  simp only [VRel] at hv
  obtain ⟨ad,rfl⟩:=hv
  exact ⟨ad,0,0,[],by simp,rfl,Nat.le_refl _,by simp [VRels],by simp,.inl ⟨rfl,rfl⟩⟩
 ·rename_i β
  split at h
  ·rename_i cs' t z hb
   split at h
   ·rename_i hzz
    simp at h; subst h; subst hzz
    rcases own_rel hH hb (by simp) hv with ⟨hr,ad,rfl⟩ | ⟨b,o,n,sz,c,hr,hc,rfl,hroom⟩
    ·have:=zcx hH hb hr; subst this
     exact ⟨ad,0,0,[],by simp,rfl,Nat.le_refl _,by simp [VRels],by simp,.inl ⟨rfl,rfl⟩⟩
    ·obtain ⟨C,tC,hC,rfl,hn,hle,hcs,hm⟩:=zL hH hb hr
     exact ⟨_,n,c,_,hn,rfl,hc,hcs,fun _ => ⟨_,rfl,hm⟩,.inr ⟨β,b,o,n,o,by simp [SV.refs],hr,rfl,hroom⟩⟩
   ·simp at h
  ·simp at h
 ·simp at h
theorem snd_app {c:Call} {t e:TypeId} {s x:Operand} {ss sx:S} {K:Option Kd} {sz by_:Nat} {zs:List SV} (hop:o.op = .call c) (hc:c.callee = .builtin .append) (hargs:c.args = #[s,x]) (hty:c.argTypes = #[t,t])
  (hu:P.underlying t = some (.slice e)) (hz:tinfo P e = some (sz,zs,by_)) (hb:by_ ≤ 32768) (hs:opL s = some ss) (hx:opL x = some sx) (ht:TRel ρ w τ a N) (hH:HRel ρ H w) (hun:ρ H.length = .unborn)
  (hmo:m = true → (ss.ev τ).refs = []) (he:appI H K sz e (ss.ev τ) (sx.ev τ) (fun v H => some (v,H)) = some (v,H')):OpOK P o a m ρ H w v H':=by
 have vs:=opL_rel ht hs
 have vx:=opL_rel ht hx
 have fin:∀ {u:Value} {w':World} {ρ':Map},(Builtin.append_ #[t,t] o.type #[a.eval s,a.eval x]).run P w = .ok u w' → Good m ρ H w v H' u w' ρ' → OpOK P o a m ρ H w v H':=by
  intro u w' ρ' hr hg
  refine OpOK.value ?_ hg
  simp [execOp,hop,resolve,hc,hargs,hty,invoke,builtin,hr]
 have typed:∀ {K:Kd} {base ys:List K.T},(ss.ev τ = .nils ∨ (∃ β,ss.ev τ = .own β) ∨ ∃ β o l,ss.ev τ = .sub β o l) → decH false H (.list K) [ss.ev τ] = some base → decH false H (.list K) [sx.ev τ] = some ys → K.sz = sz → base.length + ys.length < LIM →
   v = .own H.length → H' = kill (ss.ev τ).refs H ++ [.arr K (base ++ ys) e] → OpOK P o a m ρ H w v H':=by
  intro K base ys hform h1 h2 hKs hlim hv hH'
  subst hv; subst hH'
  obtain ⟨as,cs,e1,hcs,ha,hform'⟩:=zvE hH h1 vs
  obtain ⟨ax,cx,e2,hcx,hax,_⟩:=zvE hH h2 vx
  have olds:∃ olds:List Value,olds.length = base.length * K.sz ∧ (0 < base.length → ∃ ad,as = some ad ∧ ∀ (j:Nat) (u:Value),olds[j]? = some u → w.cell? (ad.add j) = some u) ∧ (∀ u ∈ olds,u.oneCell' = true) ∧ RowL w (Free ρ w) K base olds:=by
   rcases Nat.eq_zero_or_pos base.length with h0 | h0
   ·exact ⟨[],by simp [h0],fun h => by omega,by simp,fun i y hy => by rw [List.eq_nil_of_length_eq_zero h0] at hy; simp at hy⟩
   ·obtain ⟨ad,e3,h3⟩:=ha h0
    obtain ⟨cs',h4,h5,h6,h7⟩:=flat_of h3
    exact ⟨cs',h4,fun _ => ⟨ad,e3,h5⟩,h6,h7⟩
  have news:∃ news:List Value,news.length = ys.length * K.sz ∧ (0 < ys.length → ∃ ad,ax = some ad ∧ ∀ (j:Nat) (u:Value),news[j]? = some u → w.cell? (ad.add j) = some u) ∧ (∀ u ∈ news,u.oneCell' = true) ∧ RowL w (Free ρ w) K ys news:=by
   rcases Nat.eq_zero_or_pos ys.length with h0 | h0
   ·exact ⟨[],by simp [h0],fun h => by omega,by simp,fun i y hy => by rw [List.eq_nil_of_length_eq_zero h0] at hy; simp at hy⟩
   ·obtain ⟨ad,e3,h3⟩:=hax h0
    obtain ⟨cs',h4,h5,h6,h7⟩:=flat_of h3
    exact ⟨cs',h4,fun _ => ⟨ad,e3,h5⟩,h6,h7⟩
  obtain ⟨olds,ho1,ho2,ho3,ho4⟩:=olds
  obtain ⟨news,hn1,hn2,hn3,hn4⟩:=news
  obtain ⟨u,w',ρ',hr,hg⟩:=zvI (mo:=m) (P:=P) (ty:=o.type) (x:=.arr K (base ++ ys) e) (rs:=(ss.ev τ).refs) (hmo:=hmo) (cx:=cx) hu hz hb hH hun hlim hcs (by rw [ho1,hKs]) ho2 (by rw [hn1,hKs]) hn2 hn3
   (by
    rcases hform' hform with ⟨h3,h4,_⟩ | ⟨β,b,o0,n0,o1,h3,_,h4,h5,h6⟩
    ·exact .inl ⟨by rw [h3]; rfl,h4⟩
    ·exact .inr ⟨β,b,o0,n0,o1,h3,by rw [h4,hKs],h5,by rw [← hKs]; exact h6⟩)
   (fun h3 h4 => .inl ⟨K,e,by rw [List.eq_nil_of_length_eq_zero h3,List.eq_nil_of_length_eq_zero h4]; rfl⟩)
   (fun ρ' w' b o1 C tC hst hC hle hcell => by
    simp only [BRel]
    refine ⟨by simp,hKs,C,tC,hC,hle,?_⟩
    exact RowL.rel (RowL.mono (fun _ hb => hb.step hst) (fun b hb => hst.free b hb) (ho4.append ho1 hn4)) hcell)
  rw [← e1,← e2] at hr
  exact fin hr hg
 have cellsCase:∀ {cs ds:List SV},cellsOfRow H sz (ss.ev τ) = some cs → cellsOfRow H sz (sx.ev τ) = some ds → cs.length + ds.length < 65536 → sz ≠ 0 → ds.all SV.oneB = true → v = .own H.length → H' = kill (ss.ev τ).refs H ++ [.cells (cs ++ ds) e sz] → OpOK P o a m ρ H w v H':=by
  intro cs ds h1 h2 hlim hsz hone hv hH'
  subst hv; subst hH'
  obtain ⟨as,n,c1,vs1,hl1,e1,hc1,hr1,hm1,hform⟩:=zvJ hH hsz h1 vs
  obtain ⟨ax,n2,c2,vs2,hl2,e2,hc2,hr2,hm2,_⟩:=zvJ hH hsz h2 vx
  have hn1:n ≤ n * sz:=Nat.le_mul_of_pos_right _ (by omega)
  have hn2:n2 ≤ n2 * sz:=Nat.le_mul_of_pos_right _ (by omega)
  obtain ⟨u,w',ρ',hr,hg⟩:=zvI (mo:=m) (P:=P) (ty:=o.type) (x:=.cells (cs ++ ds) e sz) (rs:=(ss.ev τ).refs) (hmo:=hmo) (cx:=c2) (olds:=vs1) (news:=vs2) (m:=n2) hu hz hb hH hun (by simp only [LIM]; omega) hc1 (by rw [← hr1.length]; exact hl1) hm1 (by rw [← hr2.length]; exact hl2) hm2 (one_all hr2 hone) hform
   (fun h3 h4 => .inr (.inl ⟨e,sz,by
    subst h3; subst h4
    rw [List.eq_nil_of_length_eq_zero (l:=cs) (by simpa using hl1),List.eq_nil_of_length_eq_zero (l:=ds) (by simpa using hl2)]; rfl⟩))
   (fun ρ' w' b o1 C tC hst hC hle hcell => by
    simp only [BRel]
    refine ⟨by first | rfl | trivial,by simp [hl1,hl2,Nat.add_mul],C,tC,hC,hle,fun j s hj => ?_⟩
    obtain ⟨u,h3,h4⟩:=(hr1.append hr2).get j s hj
    exact ⟨u,hcell j u h3,h4.step hst⟩)
  rw [← e1,← e2] at hr
  exact fin hr hg
 unfold appI at he
 have ⟨hrow,he2⟩:=(zg he).resolve_right (by simp)
 have hforms:(ss.ev τ = .nils ∨ (∃ β,ss.ev τ = .own β) ∨ ∃ β o l,ss.ev τ = .sub β o l):=by
  unfold SV.row at hrow
  split at hrow
  ·rename_i h; exact .inl h
  ·rename_i h; exact .inr (.inl ⟨_,h⟩)
  ·rename_i h; exact .inr (.inr ⟨_,_,_,h⟩)
  ·simp at hrow
 clear he
 unfold appB at he2
 split at he2
 ·split at he2
  ·rename_i base ys h1 h2
   split at he2
   ·rename_i hKs
    obtain ⟨hlim,he2⟩:=za he2
    simp only [Option.some.injEq,Prod.mk.injEq] at he2
    exact typed hforms h1 h2 hKs (by simpa using hlim) he2.1.symm he2.2.symm
   ·simp at he2
  ·split at he2
   ·rename_i cs ds h1 h2
    split at he2
    ·rename_i hcond
     simp only [Option.some.injEq,Prod.mk.injEq] at he2
     exact cellsCase h1 h2 hcond.1 hcond.2.1 hcond.2.2 he2.1.symm he2.2.symm
    ·simp at he2
   ·simp at he2
 ·split at he2
  ·rename_i cs ds h1 h2
   split at he2
   ·rename_i hcond
    simp only [Option.some.injEq,Prod.mk.injEq] at he2
    exact cellsCase h1 h2 hcond.1 hcond.2.1 hcond.2.2 he2.1.symm he2.2.symm
   ·simp at he2
  ·simp at he2
end
end Go.Proofs.YtljojacnjjgceaaGreat.Den
namespace Go.Proofs.YtljojacnjjgceaaGreat.Den
open Go Go.RowKit
section
variable {P:Program} {o:Oper} {a:Act} {m:Bool} {ρ:Map} {H H':Heap} {w w':World} {τ:Env} {N:Nat} {T:Tab} {v:SV}
theorem zmk {B:Nat → Prop}:∀ {K:Kd} {cs:List SV} {vs:List Value},isZero K cs = true → VRels ρ w cs vs → CRel w B K K.dflt vs
 | .int k,cs,vs,h,hv => by
  simp only [isZero] at h
  split at h
  ·obtain ⟨u,rfl,hu⟩:=hv.single'
   simp at h; subst h
   simp only [VRel] at hu; subst hu; rfl
  ·simp at h
 | .bool,cs,vs,h,hv => by
  simp only [isZero] at h
  split at h
  ·obtain ⟨u,rfl,hu⟩:=hv.single'
   simp only [VRel] at hu; subst hu; rfl
  ·simp at h
 | .unit,cs,vs,h,hv => by
  simp only [isZero] at h
  split at h
  ·simp only [VRels] at hv; subst hv; rfl
  ·simp at h
 | .pair a b,cs,vs,h,hv => by
  simp only [isZero,Bool.and_eq_true] at h
  have hs:=hv.split (n:=a.sz)
  exact ⟨_,_,(List.take_append_drop a.sz vs).symm,zmk h.1 hs.1,zmk h.2 hs.2⟩
 | .list e,cs,vs,h,hv => by
  simp only [isZero] at h
  split at h
  ·obtain ⟨u,rfl,hu⟩:=hv.single'
   simp only [VRel] at hu
   obtain ⟨a,rfl⟩:=hu
   exact ⟨a,0,rfl,Nat.le_refl _,fun h => absurd h (by simp [Kd.dflt])⟩
  ·simp at h
theorem zpO {α:Type} {zs:List α}:∀ (m i:Nat),i < m * zs.length → ((List.replicate m zs).flatten)[i]? = zs[i % zs.length]?
 | 0,i,h => by simp at h
 | m + 1,i,h => by
  rw [List.replicate_succ,List.flatten_cons,List.getElem?_append]
  split
  ·rename_i hi; rw [Nat.mod_eq_of_lt hi]
  ·rename_i hi
   rw [zpO m _ (by rw [Nat.add_mul] at h; omega),← Nat.mod_eq_sub_mod (by omega)]
theorem zpP {α:Type} {zs:List α} (m:Nat):((List.replicate m zs).flatten).length = m * zs.length:=by
 simp
theorem zpQ {z:Array Value} {n i:Nat} (h:i < n) (hz:0 < z.size):(madeCells z n)[i]? = z[i % z.size]?:=by
 simp [madeCells,h,Nat.mod_lt _ hz]
theorem zvK {zs:List SV} {z:Array Value} (h:VRels ρ w zs z.toList) (m:Nat):VRels ρ w ((List.replicate m zs).flatten) (madeCells z (m * zs.length)).toList:=by
 have hl:=h.length
 simp only [Array.length_toList] at hl
 refine VRels.of (by simp [size_madeCells]) fun i s u h1 h2 => ?_
 have hi:i < m * zs.length:=by rw [← zpP]; exact (List.getElem?_eq_some_iff.1 h1).1
 have hpos:0 < zs.length:=Nat.pos_of_ne_zero fun h0 => by rw [h0] at hi; simp at hi
 rw [zpO _ _ hi] at h1
 rw [Array.getElem?_toList,zpQ hi (by omega),← hl] at h2
 obtain ⟨u',h3,h4⟩:=h.get _ _ h1
 rw [Array.getElem?_toList,h2] at h3
 cases h3; exact h4
theorem zGG {K:Kd} {zs:List SV} {z:Array Value} (h:VRels ρ w zs z.toList) (h0:isZero K zs = true) (hK:K.sz = zs.length) {m c:Nat} (hmc:m ≤ c) :
  RowRel w (Free ρ w) K (List.replicate m K.dflt) (madeCells z (c * zs.length)) 0:=by
 intro i x hx
 have hl:=h.length
 simp only [Array.length_toList] at hl
 have hi:i < m:=by have:=(List.getElem?_eq_some_iff.1 hx).1; simpa using this
 rw [List.getElem?_replicate,if_pos hi] at hx
 cases hx
 refine ⟨z.toList,zmk h0 h,fun j u hu => ?_⟩
 have hj:j < zs.length:=by rw [hl]; have:=(List.getElem?_eq_some_iff.1 hu).1; simpa using this
 have hle:(i + 1) * zs.length ≤ c * zs.length:=Nat.mul_le_mul_right _ (by omega)
 rw [Nat.add_mul] at hle
 rw [Nat.zero_add,hK,zpQ (by omega) (by omega),← hl,Nat.mul_comm,Nat.mul_add_mod,Nat.mod_eq_of_lt hj]
 simpa using hu
theorem snd_mk {t e:TypeId} {l c:Operand} {sl sc:S} {sz by_:Nat} {zs:List SV} {K:Option Kd} (hop:o.op = .makeSlice t l c) (hu:P.underlying t = some (.slice e)) (hz:tinfo P e = some (sz,zs,by_)) (hb:by_ ≤ 32768) (hsz:sz ≠ 0)
  (hK:∀ k,K = some k → k.sz = sz ∧ isZero k zs = true) (hl:opL l = some sl) (hc:opL c = some sc) (ht:TRel ρ w τ a N) (hH:HRel ρ H w) (hun:ρ H.length = .unborn)
  (he:runI T (.mk K zs e sl (some sc)) τ H (fun v H => some (v,H)) = some (v,H')):OpOK P o a m ρ H w v H':=by
 have vl:=opL_rel ht hl
 have vc:=opL_rel ht hc
 obtain ⟨i,z,hi,hzz,rfl,rfl,hsv,hzl⟩:=zal hz
 have hzr:VRels ρ w zs z.cells.toList:=svsOf_rel hsv
 simp only [runI,mkI,Option.map_some] at he
 split at he
 ·rename_i kl ml e1
  rw [e1] at vl
  simp only [VRel] at vl
  have fin:∀ {kc:IntKind} {cc:Int} {x:Blk},a.eval c = .int kc cc → 0 ≤ ml → ml ≤ cc → cc < (LIM:Int) → v = .own H.length → H' = H ++ [x] →
    BRel (ρ.put H.length (.at w.heap.size 0 ml.toNat i.size)) (w.alloc (.cells (madeCells z.cells (cc.toNat * i.size)) e (0,0))) w.heap.size 0 ml.toNat i.size x → OpOK P o a m ρ H w v H':=by
   intro kc cc x e2 h0 h1 h2 hv hH' hx
   subst hv; subst hH'
   refine OpOK.value (w':=w.alloc (.cells (madeCells z.cells (cc.toNat * i.size)) e (0,0))) (u:=.slice (some ⟨w.heap.size,0,none⟩) ml.toNat cc.toNat) ?_ (zaR (n:=ml.toNat) (sz:=i.size) hH hun hx ?_)
   ·simp only [LIM] at h2
    have hbb:(i.bytes:Int) * cc ≤ 281474976710656:=by
     have h3:(i.bytes:Int) * cc ≤ 32768 * cc:=Int.mul_le_mul_of_nonneg_right (by omega) (by omega)
     omega
    simp [execOp,hop,vl,e2,run_make w t e i z hu hi hzz kl kc ml cc h0 h1 hbb (by omega)]
   ·simp only [VRel,Map.put_same]
    exact ⟨cc.toNat,by omega,rfl,_,e,heap_alloc_new w _,by simp [size_madeCells]⟩
  split at he
  ·rename_i e2
   simp at e2
  ·rename_i k2 cc e2
   simp at e2
   rw [e2] at vc
   simp only [VRel] at vc
   split at he
   ·rename_i k
    obtain ⟨hk1,hk2⟩:=hK k rfl
    obtain ⟨h0,he⟩:=za he
    obtain ⟨h1,he⟩:=za he
    obtain ⟨h2,he⟩:=za he
    simp only [Option.some.injEq,Prod.mk.injEq] at he
    simp only [decide_eq_true_eq] at h0 h1 h2
    refine fin vc h0 h1 (by simp only [LIM] at h2 ⊢; omega) he.1.symm he.2.symm ?_
    have hst:=Step.alloc (ρ:=ρ) (w:=w) H.length (madeCells z.cells (cc.toNat * i.size)) e ml.toNat i.size hun
    simp only [BRel]
    refine ⟨by simp,hk1,_,e,heap_alloc_new w _,?_,?_⟩
    ·simp only [size_madeCells,Nat.zero_add]
     exact Nat.mul_le_mul_right _ (by omega)
    ·have hr:=zGG (m:=ml.toNat) (c:=cc.toNat) hzr hk2 (by omega) (by omega)
     rw [hzl] at hr
     intro j x hx
     obtain ⟨es,h3,h4⟩:=hr j x hx
     exact ⟨es,h3.step hst,h4⟩
   ·split at he
    ·rename_i m0 c0
     split at he
     ·rename_i hc0
      simp only [Option.some.injEq,Prod.mk.injEq] at he
      refine fin (cc:=(Int.ofNat c0)) vc (by simp) (by simpa using hc0.1) (by have h9:=hc0.2; simp only [LIM] at h9 ⊢; simp; omega) he.1.symm he.2.symm ?_
      have hst:=Step.alloc (ρ:=ρ) (w:=w) H.length (madeCells z.cells (c0 * i.size)) e m0 i.size hun
      have hle:m0 * i.size ≤ c0 * i.size:=Nat.mul_le_mul_right _ hc0.1
      simp only [BRel]
      refine ⟨hzl,by rw [zpP,hzl]; rfl,_,e,heap_alloc_new w _,by rw [size_madeCells,Nat.zero_add]; exact hle,fun j s hj => ?_⟩
      have hj':j < m0 * zs.length:=by rw [← zpP]; exact (List.getElem?_eq_some_iff.1 hj).1
      rw [zpO _ _ hj'] at hj
      obtain ⟨u,h3,h4⟩:=hzr.get _ _ hj
      refine ⟨u,?_,h4.step hst⟩
      have hpos:0 < i.size:=Nat.pos_of_ne_zero hsz
      have hcs:z.cells.size = zs.length:=by have:=hzr.length; simpa using this.symm
      show (madeCells z.cells (c0 * i.size))[0 + j]? = some u
      rw [Nat.zero_add,zpQ (by rw [hzl] at hj'; omega) (by omega),hcs,← Array.getElem?_toList]
      exact h3
     ·simp at he
    ·simp at he
  ·simp at he
 ·simp at he
theorem zvL {B:Nat → Prop} {G:Nat → Prop} {K:Kd} {f:List SV → Option K.T} (hf:∀ cs x vs,(∀ γ ∈ SV.refsL cs,G γ) → f cs = some x → VRels ρ w cs vs → CRel w B K x vs) (sz:Nat) :
  ∀ (n:Nat) (cs:List SV) (xs:List K.T) (vs:List Value),(∀ γ ∈ SV.refsL cs,G γ) → decRows f sz n cs = some xs → VRels ρ w cs vs →
   xs.length = n ∧ ∀ (i:Nat) (x:K.T),xs[i]? = some x → CRel w B K x ((vs.drop (i * sz)).take sz)
 | 0,cs,xs,vs,hG,h,hv => by
  cases cs <;> simp [decRows] at h
  subst h; simp
 | n + 1,cs,xs,vs,hG,h,hv => by
  simp only [decRows] at h
  have hr:SV.refsL cs = SV.refsL (cs.take sz) ++ SV.refsL (cs.drop sz):=by
   rw [← zmd,List.take_append_drop]
  split at h
  ·rename_i x r h1 h2
   simp at h; subst h
   have hs:=hv.split (n:=sz)
   have ih:=zvL hf sz n _ _ _ (fun γ hg => hG γ (by rw [hr]; exact List.mem_append.2 (.inr hg))) h2 hs.2
   refine ⟨by simp [ih.1],fun i y hy => ?_⟩
   cases i with
   | zero => simp at hy; subst hy; simpa using hf _ _ _ (fun γ hg => hG γ (by rw [hr]; exact List.mem_append.2 (.inl hg))) h1 hs.1
   | succ i =>
    simp at hy
    have:=ih.2 i y hy
    rw [List.drop_drop] at this
    rw [Nat.add_mul,Nat.one_mul,Nat.add_comm]; exact this
  ·simp at h
theorem zpR:∀ {ps:List (Nat × Nat × S)} {cs cs':List SV},fillP τ ps cs = some cs' → cs'.length = cs.length
 | [],cs,cs',h => by simp [fillP] at h; rw [h]
 | (off,n,x) :: r,cs,cs',h => by
  simp only [fillP] at h
  split at h
  ·split at h
   ·rename_i hc
    rw [zpR h,zpC (by omega)]
   ·simp at h
  ·simp at h
theorem zml:∀ {xs:List Operand} {ss:List S},opsL xs = some ss → ss.length = xs.length
 | [],_,h => by simp [opsL] at h; subst h; rfl
 | x :: r,_,h => by
  simp only [opsL] at h
  split at h
  ·rename_i p q h1 h2
   simp at h; subst h
   simp [zml h2]
  ·simp at h
theorem Step.junk {x:Obj}:Step ρ w ρ (w.alloc x) where
 os:=rfl
 tape:=rfl
 output:=rfl
 size:=by simp
 kept b hb _ _:=by simp only [World.alloc]; rw [Array.getElem?_push,if_neg (by omega)]
 shape b C t fr h:=⟨C,by
  have:b < w.heap.size:=(Array.getElem?_eq_some_iff.1 h).1
  simp only [World.alloc]; rw [Array.getElem?_push,if_neg (by omega)]; exact h,rfl⟩
 img β b o n sz h:=.inl ⟨β,o,n,sz,h⟩
 ref β h:=.inl rfl
 res:=rfl
 vl _ _ h:=ours_vl h
theorem HRel.junk (h:HRel ρ H w) {x:Obj}:HRel ρ H (w.alloc x) where
 dead:=h.dead
 none_:=h.none_
 at_ β hl b o n sz hr:=by
  obtain ⟨y,h1,h2⟩:=h.at_ β hl b o n sz hr
  have hb:=h.lt _ _ _ _ _ hr
  exact ⟨y,h1,h2.keep Step.junk (zeC hb) fun b' hb' => ⟨zeC (h.vlt hb'),hb'⟩⟩
 inj:=h.inj
 lt β b o n sz hr:=by have:=h.lt _ _ _ _ _ hr; simp; omega
 resl b hb:=by have:=h.resl b hb; simp; omega
 resf:=h.resf
 vr:=h.vr
theorem partsB {sz:Nat}:∀ {parts:List (Nat × Operand)} {xs:List S},opsL (parts.map (·.2)) = some xs →
  partsL P (fun i => some (i * sz,sz)) parts = some (((parts.map (·.1)).zip xs).map fun p => (p.1 * sz,sz,p.2))
 | [],xs,h => by simp [opsL] at h; subst h; rfl
 | (i,x) :: r,xs,h => by
  simp only [List.map_cons,opsL] at h
  split at h
  ·rename_i p q h1 h2
   simp at h; subst h
   simp [partsL,h1,partsB h2]
  ·simp at h
theorem snd_bsl {t e:TypeId} {len:Nat} {parts:Array (Nat × Operand)} {xs:List S} {sz by_:Nat} {zs:List SV} {K:Option Kd} {frz:Bool} (hop:o.op = .buildSlice t len parts) (hu:P.underlying t = some (.slice e)) (hz:tinfo P e = some (sz,zs,by_))
  (hxs:opsL (parts.toList.map (·.2)) = some xs) (hle:len * sz ≤ 16777216) (hsz:sz ≠ 0) (hfm:frz = true → m = false) (ht:TRel ρ w τ a N) (hH:HRel ρ H w) (hun0:H.length < H'.length → ρ H.length = .unborn)
  (he:runI T (.bsl K frz sz len zs e ((parts.toList.map (·.1)).zip xs)) τ H (fun v H => some (v,H)) = some (v,H')):OpOK P o a m ρ H w v H':=by
 obtain ⟨i,z,hi,hzz,rfl,rfl,hsv,hzl⟩:=zal hz
 have hzr:VRels ρ w zs z.cells.toList:=svsOf_rel hsv
 simp only [runI] at he
 unfold bslI at he
 split at he
 ·simp only [Option.some.injEq,Prod.mk.injEq] at he
  obtain ⟨rfl,rfl⟩:=he
  rename_i hpz
  have hpl:=zml hxs
  have hp0:parts.toList = []:=by
   have h3:=congrArg List.length hpz
   rw [List.length_zip,List.length_map,List.length_nil] at h3
   rw [List.length_map] at hpl
   exact List.eq_nil_of_length_eq_zero (by omega)
  have hrun:(execOp a.eval o).run P w = .ok (.value (.slice (some ⟨w.heap.size,0,none⟩) 0 0)) (w.alloc (.cells #[] e (0,0))):=by
   have e1:(parts.map fun x => (x.1,a.eval x.2)).toList = []:=by simp [hp0]
   simp [execOp,hop,Instr.buildSlice,run_underlying hu,zm hi,newRow,Array.range_zero',hp0,Instr.fill]
  refine OpOK.value hrun ⟨Step.junk,hH.junk,?_,Nat.le_refl _,fun _ h _ => h,fun _ => ⟨⟨[],by simp⟩,fun _ _ => rfl,fun b hb => ?_,fun _ _ h => h⟩⟩
  ·simp only [VRel]; exact ⟨_,rfl⟩
  ·simp only [World.alloc]; rw [Array.getElem?_push,if_neg (by omega)]
 ·simp at he
 rename_i len0
 simp only [Nat.succ_eq_add_one] at hop hle
 generalize len0 + 1 = len at *
 have hun:ρ H.length = .unborn:=by
  refine hun0 ?_
  split at he
  ·simp at he
  ·split at he
   ·split at he
    ·split at he
     ·simp only [Option.some.injEq,Prod.mk.injEq] at he
      rw [← he.2]; simp [zc]
     ·simp at he
    ·simp only [Option.some.injEq,Prod.mk.injEq] at he
     rw [← he.2]; simp
   ·simp only [Option.some.injEq,Prod.mk.injEq] at he
    rw [← he.2]; simp
 split at he
 ·simp at he
 ·rename_i cs hcs
  obtain ⟨C,h1,h2⟩:=ziv (P:=P) ht (partsB hxs) hcs (zvK hzr _)
  have hcl:C.size = len * i.size:=by
   have h3:=h2.length
   have h4:=zpR hcs
   simp only [Array.length_toList] at h3
   rw [← h3,h4]; simp [hzl]
  have hrun:(execOp a.eval o).run P w = .ok (.value (.slice (some ⟨w.heap.size,0,none⟩) len len)) (w.alloc (.cells C e (0,0))):=by
   have e1:(parts.map fun x => (x.1,a.eval x.2)).toList = parts.toList.map fun p => (p.1,a.eval p.2):=by simp
   have n1:¬ (2 ^ 24 < len * i.size):=by omega
   rw [hzl] at h1
   by_cases hn:len * i.size = 0
   ·have e2:madeCells z.cells (len * i.size) = #[]:=by rw [hn]; simp [madeCells,Array.range_zero']
    rw [e2] at h1
    simp [execOp,hop,Instr.buildSlice,run_underlying hu,zm hi,hn,newRow,Array.range_zero',h1]
   ·have e2:(Array.range (len * i.size)).map (z.cells[· % z.cells.size]!) = madeCells z.cells (len * i.size):=rfl
    simp only [execOp,hop,Instr.buildSlice,Sem.run_bind,run_underlying hu,Result.andThen_ok,zm hi,n1,if_false,hn,cellsN hi hzz,Sem.run_pure,e1,e2,h1,newRow]
    simp
  have cellsCase:v = .own H.length → H' = H ++ [.cells cs e i.size] → OpOK P o a m ρ H w v H':=by
   intro hv hH'
   subst hv; subst hH'
   have h3:=h2.length
   simp only [Array.length_toList] at h3
   refine OpOK.value hrun (zaR (n:=len) (sz:=i.size) hH hun ?_ ?_)
   ·exact zpJ hun (by rw [h3,List.take_of_length_le (by simp)]; exact h2) (by omega) (by omega)
   ·simp only [VRel,Map.put_same]
    exact ⟨len,Nat.le_refl _,rfl,C,e,heap_alloc_new w _,by omega⟩
  split at he
  ·rename_i k
   split at he
   ·rename_i ys hdec
    split at he
    ·rename_i hk
     simp only [Option.some.injEq,Prod.mk.injEq] at he
     obtain ⟨rfl,rfl⟩:=he
     cases frz with
     | false =>
      simp only [cond] at hdec
      rw [hk] at hdec
      have hrows:=zeB (f:=decH false [] k) (B:=Free ρ w) (fun cs x vs h3 h4 => zB h3 h4) i.size _ _ _ _ hdec h2
      have hst:=Step.alloc (ρ:=ρ) (w:=w) H.length C e len i.size hun
      refine OpOK.value hrun (zaR (n:=len) (sz:=i.size) hH hun ?_ ?_)
      ·simp only [BRel]
       refine ⟨hrows.1,hk,C,e,heap_alloc_new w _,by omega,fun q y hq => ⟨_,(hrows.2 q y hq).step hst,fun j u hu => ?_⟩⟩
       rw [List.getElem?_take] at hu
       split at hu
       ·rw [List.getElem?_drop,Array.getElem?_toList] at hu
        rw [Nat.zero_add,hk]; exact hu
       ·simp at hu
      ·simp only [VRel,Map.put_same]
       exact ⟨len,Nat.le_refl _,rfl,C,e,heap_alloc_new w _,by omega⟩
     | true =>
      obtain rfl:=hfm rfl
      simp only [cond] at hdec ⊢
      rw [hk] at hdec
      have hrows:=zvL (f:=decH false H k) (B:=fun b'' => Free ρ w b'' ∨ ∃ γ ∈ SV.refsL cs,∃ o n sz,ρ γ = .at b'' o n sz) (G:=fun γ => γ ∈ SV.refsL cs)
       (fun cs' x vs hG h3 h4 => zax (dp:=false) hH (fun _ h => .inl h) (fun h => by cases h) (fun γ b'' o n sz hg hrg => .inr ⟨γ,hG γ (hg.resolve_left (by simp)),o,n,sz,hrg⟩) h3 h4) i.size _ _ _ _ (fun γ hg => hg) hdec h2
      have hst:=(Step.kill (ρ:=ρ) (w:=w) (SV.refsL cs)).trans (Step.alloc (w:=w) H.length C e len i.size (zak hun))
      refine OpOK.value hrun (zan hH hun hst (fun γ b' o' n' sz' hγ hr' => ?_) (fun b2 t2 hv2 => by first | exact zeC (hH.vlt hv2) | exact zeD (hH.vlt hv2)) (.inr ⟨w.heap.size,0,len,i.size,rfl,(Array.getElem?_eq_some_iff.1 (heap_alloc_new w (.cells C e (0,0)))).1,fun h => ?_,fun γ o' n' sz' hγ hr' => ?_,?_⟩) (by simp) ?_)
      ·have:=hH.lt _ _ _ _ _ hr'
       simp only [World.alloc]; rw [Array.getElem?_push,if_neg (by omega)]
      ·have:=hH.resl _ h; omega
      ·have:=hH.lt _ _ _ _ _ hr'; omega
      ·simp only [BRel]
       refine ⟨hrows.1,hk,C,e,heap_alloc_new w _,by omega,fun q y hq => ⟨_,CRel.mono (w':=w.alloc (.cells C e (0,0))) (fun b'' h => ?_) (fun b'' h => ?_) (hrows.2 q y hq),fun j u hu => ?_⟩⟩
       ·rcases h with h | ⟨γ,hg,o1,n1,sz1,hrg⟩
        ·exact h.step hst
        ·exact (zmj hH hg hrg).step (Step.alloc (w:=w) H.length C e len i.size (zak hun))
       ·have:b'' < w.heap.size:=by
         rcases h with h | ⟨γ,hg,o1,n1,sz1,hrg⟩
         ·exact h.1
         ·exact hH.lt _ _ _ _ _ hrg
        simp only [World.alloc]; rw [Array.getElem?_push,if_neg (by omega)]
       ·rw [List.getElem?_take] at hu
        split at hu
        ·rw [List.getElem?_drop,Array.getElem?_toList] at hu
         rw [Nat.zero_add,hk]; exact hu
        ·simp at hu
      ·simp only [VRel,Map.put_same]
       exact ⟨len,Nat.le_refl _,rfl,C,e,heap_alloc_new w _,by omega⟩
    ·simp at he
   ·simp only [Option.some.injEq,Prod.mk.injEq] at he
    exact cellsCase he.1.symm he.2.symm
  ·simp only [Option.some.injEq,Prod.mk.injEq] at he
   exact cellsCase he.1.symm he.2.symm
theorem snd_bse {t e:TypeId} {len:Nat} {parts:Array (Nat × Operand)} {xs:List S} {sz by_:Nat} {zs:List SV} {k:Kd} (hop:o.op = .buildSlice t len parts) (hu:P.underlying t = some (.slice e)) (hz:tinfo P e = some (sz,zs,by_))
  (hxs:opsL (parts.toList.map (·.2)) = some xs) (hle:len * sz ≤ 16777216) (hsz:sz ≠ 0) (ht:TRel ρ w τ a N) (hH:HRel ρ H w)
  (he:runI T (.bse k sz len zs ((parts.toList.map (·.1)).zip xs)) τ H (fun v H => some (v,H)) = some (v,H')):OpOK P o a m ρ H w v H':=by
 obtain ⟨i,z,hi,hzz,rfl,rfl,hsv,hzl⟩:=zal hz
 have hzr:VRels ρ w zs z.cells.toList:=svsOf_rel hsv
 simp only [runI] at he
 split at he
 ·rename_i cs hcs
  obtain ⟨C,h1,h2⟩:=ziv (P:=P) ht (partsB hxs) hcs (zvK hzr _)
  have hcl:C.size = len * i.size:=by
   have h3:=h2.length
   have h4:=zpR hcs
   simp only [Array.length_toList] at h3
   rw [← h3,h4]; simp [hzl]
  have hrun:(execOp a.eval o).run P w = .ok (.value (.slice (some ⟨w.heap.size,0,none⟩) len len)) (w.alloc (.cells C e (0,0))):=by
   have e1:(parts.map fun x => (x.1,a.eval x.2)).toList = parts.toList.map fun p => (p.1,a.eval p.2):=by simp
   have n1:¬ (2 ^ 24 < len * i.size):=by omega
   rw [hzl] at h1
   by_cases hn:len * i.size = 0
   ·have e2:madeCells z.cells (len * i.size) = #[]:=by rw [hn]; simp [madeCells,Array.range_zero']
    rw [e2] at h1
    simp [execOp,hop,Instr.buildSlice,run_underlying hu,zm hi,hn,newRow,Array.range_zero',h1]
   ·have e2:(Array.range (len * i.size)).map (z.cells[· % z.cells.size]!) = madeCells z.cells (len * i.size):=rfl
    simp only [execOp,hop,Instr.buildSlice,Sem.run_bind,run_underlying hu,Result.andThen_ok,zm hi,n1,if_false,hn,cellsN hi hzz,Sem.run_pure,e1,e2,h1,newRow]
    simp
  split at he
  ·rename_i ys hdec
   split at he
   ·rename_i hk
    simp only [Option.some.injEq,Prod.mk.injEq] at he
    obtain ⟨rfl,rfl⟩:=he
    rw [hk] at hdec
    have hrows:=zeB (f:=decH false [] k) (B:=Free ρ w) (fun cs x vs h3 h4 => zB h3 h4) i.size _ _ _ _ hdec h2
    refine OpOK.value hrun ⟨Step.junk,hH.junk,?_,Nat.le_refl _,fun _ h _ => h,fun _ => ⟨⟨[],by simp⟩,fun _ _ => rfl,fun b hb => ?_,fun _ _ h => h⟩⟩
    ·simp only [VRel,CRel]
     refine ⟨some ⟨w.heap.size,0,none⟩,len,by rw [hrows.1],by rw [hrows.1]; exact Nat.le_refl _,fun h0 => ⟨⟨w.heap.size,0,none⟩,rfl,⟨by simp,fun h => ?_,fun β o n sz h => ?_⟩,fun q y hq => ⟨_,(hrows.2 q y hq).step Step.junk,fun j u hu => ?_⟩⟩⟩
     ·have:=hH.resl _ h; simp only at this; omega
     ·have:=hH.lt _ _ _ _ _ h; simp only at this; omega
     ·rw [List.getElem?_take] at hu
      split at hu
      ·rw [List.getElem?_drop,Array.getElem?_toList] at hu
       rw [zd,zn (heap_alloc_new w _),Nat.zero_add,hk]; exact hu
      ·simp at hu
    ·simp only [World.alloc]; rw [Array.getElem?_push,if_neg (by omega)]
   ·simp at he
  ·simp at he
 ·simp at he
theorem zGH {e:TypeId} {x:Operand} {sx:S} {K:Kd} (hop:o.op = .box e x) (hx:opL x = some sx) (ht:TRel ρ w τ a N) (hH:HRel ρ H w)
  (he:runI T (.boxe K sx) τ H (fun v H => some (v,H)) = some (v,H')):OpOK P o a m ρ H w v H':=by
 have vx:=opL_rel ht hx
 have hrun:(execOp a.eval o).run P w = .ok (.value (.pointer (some ⟨w.heap.size,0,none⟩))) (w.alloc (.cells (a.eval x).cells e (0,0))):=by
  simp only [execOp,hop,Instr.box,Sem.run_bind,newVar,newRow,run_newObj,Result.andThen_ok,Sem.run_pure]; rfl
 simp only [runI] at he
 split at he
 ·rename_i cs hcs
  split at he
  ·rename_i y hdec
   simp only [Option.some.injEq,Prod.mk.injEq] at he
   obtain ⟨rfl,rfl⟩:=he
   have hc:=zB hdec (zmi hcs vx)
   refine OpOK.value hrun ⟨Step.junk,hH.junk,?_,Nat.le_refl _,fun _ h _ => h,fun _ => ⟨⟨[],by simp⟩,fun _ _ => rfl,fun b hb => ?_,fun _ _ h => h⟩⟩
   ·simp only [VRel]
    refine ⟨⟨w.heap.size,0,none⟩,_,by rw [zd],hc.step Step.junk,⟨by simp,fun h => ?_,fun β o n sz h => ?_⟩,fun j u hj => ?_⟩
    ·have:=hH.resl _ h; simp only at this; omega
    ·have:=hH.lt _ _ _ _ _ h; simp only at this; omega
    ·rw [zd,zn (heap_alloc_new w _),Nat.zero_add]; simpa using hj
   ·simp only [World.alloc]; rw [Array.getElem?_push,if_neg (by omega)]
  ·simp at he
 ·simp at he
end
end Go.Proofs.YtljojacnjjgceaaGreat.Den
namespace Go.Proofs.YtljojacnjjgceaaGreat.Den
open Go Go.RowKit
section
variable {P:Program} {o:Oper} {a:Act} {m:Bool} {ρ:Map} {H H':Heap} {w w':World} {τ:Env} {N:Nat} {T:Tab} {v:SV}
theorem zGI {x:Operand} (h:opL x = some (.c .nils)):a.eval x = .slice none 0 0:=by
 cases x with
 | tmp t => simp [opL] at h
 | const v =>
  simp only [opL,Option.map_eq_some_iff] at h
  obtain ⟨s',h1,h2⟩:=h
  cases h2
  unfold svOf at h1
  split at h1 <;> first | rfl | (simp at h1; done) | skip
  split at h1 <;> simp at h1
 | global g => simp [opL] at h
 | func f => simp [opL] at h
theorem zGJ {x:SV} {u:Value} {l:Nat} (hH:HRel ρ H w) (h:lenOf H x = some l) (h0:0 < l) (hv:VRel ρ w x u):∃ ad c,u = .slice (some ad) l c:=by
 unfold lenOf at h
 split at h
 ·simp at h; subst h
  simp only [VRel,CRel] at hv
  obtain ⟨a,c,e,hc,hx⟩:=hv
  obtain ⟨ad,rfl,_⟩:=hx h0
  simp at e
  exact ⟨ad,c,e⟩
 ·simp at h; omega
 ·rename_i β off l'
  have key:∃ x,H[β]? = some x ∧ x ≠ .dead ∧ l = l':=by
   split at h
   ·rename_i hb; simp at h; exact ⟨_,hb,by simp,h.symm⟩
   ·rename_i hb; simp at h; exact ⟨_,hb,by simp,h.symm⟩
   ·simp at h
  obtain ⟨x,hb,hx,rfl⟩:=key
  simp only [VRel] at hv
  rcases hr:ρ β with _ | _ | _ | ⟨b,o,n,sz⟩ <;> rw [hr] at hv <;> simp only at hv
  ·exact absurd hr (live_of hH hb hx)
  ·obtain ⟨rfl,a,rfl⟩:=hv; omega
  ·obtain ⟨_,a,c,rfl,hc,h4⟩:=hv
   rcases h4 with ⟨rfl,_⟩ | ⟨rfl,_⟩
   ·omega
   ·exact ⟨_,c,rfl⟩
 ·rename_i β
  split at h
  ·rename_i K xs t hb
   simp at h; subst h
   rcases own_rel hH hb (by simp) hv with ⟨hr,a,rfl⟩ | ⟨b,o,n,sz,c,hr,hc,rfl,_⟩
   ·have:=ziq hH hb hr; subst this; simp at h0
   ·obtain ⟨_,hn,_⟩:=row_of hH hb hr
    exact ⟨_,c,by rw [hn]⟩
  ·rename_i d K xs ex hb
   simp at h; subst h
   rcases own_rel hH hb (by simp) hv with ⟨hr,a,rfl⟩ | ⟨b,o,n,sz,c,hr,hc,rfl,_⟩
   ·have:=zpE hH hb hr; subst this; simp at h0
   ·obtain ⟨_,hn,_⟩:=tree_of hH hb hr
    exact ⟨_,c,by rw [hn]⟩
  ·rename_i cs t z hb
   split at h
   ·simp at h
   ·rename_i hz
    simp at h; subst h
    rcases own_rel hH hb (by simp) hv with ⟨hr,a,rfl⟩ | ⟨b,o,n,sz,c,hr,hc,rfl,_⟩
    ·have:=zcx hH hb hr; subst this; simp at h0
    ·obtain ⟨C,tC,_,hsz,hn,_⟩:=zL hH hb hr
     have:cs.length / z = n:=by rw [hn,← hsz]; exact Nat.mul_div_cancel _ (by omega)
     exact ⟨_,c,by rw [this]⟩
  ·simp at h
 ·simp at h
theorem zvM {op:BinOp} {neg:Bool} {t e yt:TypeId} {x y:Operand} {sx:S} (hop:o.op = .binOp op t x y yt) (hn:(op = .eql ∧ neg = false) ∨ (op = .neq ∧ neg = true)) (hu:P.underlying t = some (.slice e))
  (hx:opL x = some sx) (hy:opL y = some (.c .nils))
  (ht:TRel ρ w τ a N) (hH:HRel ρ H w) (he:runI T (.nilt neg sx) τ H (fun v H => some (v,H)) = some (v,H')):OpOK P o a m ρ H w v H':=by
 have vx:=opL_rel ht hx
 have vy:=zGI (a:=a) hy
 simp only [runI] at he
 split at he
 ·rename_i l hl
  obtain ⟨h0,he⟩:=za he
  simp at he h0; obtain ⟨rfl,rfl⟩:=he
  obtain ⟨ad,c,e1⟩:=zGJ hH hl h0 vx
  have hg:∀ w:World,(eqGuard op t x y (.slice (some ad) l c) (.slice none 0 0)).run P w = .ok () w:=by
   intro w; unfold eqGuard; split <;> rfl
  have heq:(Op.equal t (.slice (some ad) l c) (.slice none 0 0)).run P w = .ok false w:=by
   show (Op.equalIn (9999 + 1) t (.slice (some ad) l c) (.slice none 0 0)).run P w = .ok false w
   unfold Op.equalIn
   simp [run_underlying hu]
  refine OpOK.same hH (u:=.bool neg) ?_ (by simp [VRel])
  rcases hn with ⟨rfl,rfl⟩ | ⟨rfl,rfl⟩ <;> simp [execOp,hop,e1,vy,hg,binOp,heq]
 ·simp at he
theorem snd_ixs {t:TypeId} {s:ByteArray} {ix:Operand} {si:S} (hop:o.op = .index t (.const (.string s)) ix) (hu:P.underlying t = some .string) (hi:opL ix = some si)
  (ht:TRel ρ w τ a N) (hH:HRel ρ H w) (he:runI T (.ixs (s.data.toList.map UInt8.toNat) si) τ H (fun v H => some (v,H)) = some (v,H')):OpOK P o a m ρ H w v H':=by
 have vi:=opL_rel ht hi
 simp only [runI] at he
 split at he
 ·rename_i k n e1
  rw [e1] at vi
  simp only [VRel] at vi
  obtain ⟨h0,he⟩:=za he
  obtain ⟨h1,he⟩:=za he
  simp only [decide_eq_true_eq,List.length_map,Array.length_toList] at h0 h1
  simp only [Option.some.injEq,Prod.mk.injEq] at he
  obtain ⟨rfl,rfl⟩:=he
  have hlt:n.toNat < s.data.size:=by omega
  have hg:s[n.toNat]? = some s.data[n.toNat]:=by
   show (if h:n.toNat < s.size then some s[n.toNat] else none) = _
   rw [dif_pos (show n.toNat < s.size from hlt)]; rfl
  have hd:(s.data.toList.map UInt8.toNat).getD n.toNat 0 = s.data[n.toNat].toNat:=by
   rw [List.getD_eq_getElem?_getD,List.getElem?_map,Array.getElem?_toList,Array.getElem?_eq_getElem hlt]; rfl
  refine OpOK.same hH (u:=.int .u8 (s.data[n.toNat].toNat:Int)) ?_ (by simp only [VRel]; rw [hd])
  have e0:a.eval (.const (.string s)) = .string s:=rfl
  simp [execOp,hop,Instr.index,e0,vi,asIntOf,run_underlying hu,h0,hg]
 ·simp at he
theorem zGK {x:Operand} {sx:S} {c:Call} {t e:TypeId} (hop:o.op = .call c) (hc:c.callee = .builtin .cap) (hargs:c.args = #[x]) (hty:c.argTypes = #[t]) (hu:P.underlying t = some (.slice e))
  (hx:opL x = some sx) (ht:TRel ρ w τ a N) (hH:HRel ρ H w) (he:runI T (.cap0 sx) τ H (fun v H => some (v,H)) = some (v,H')):OpOK P o a m ρ H w v H':=by
 have vx:=opL_rel ht hx
 simp only [runI] at he
 split at he
 ·rename_i hl
  simp at he; obtain ⟨rfl,rfl⟩:=he
  rw [hl] at vx
  simp only [VRel] at vx
  obtain ⟨ad,hv⟩:=vx
  refine OpOK.same hH (u:=.int .i64 0) ?_ (by simp [VRel])
  simp [execOp,hop,resolve,hc,hargs,hty,invoke,builtin,Builtin.cap_,run_underlying hu,hv,goInt]
 ·simp at he
theorem zGL {z:Array Value} {n k:Nat} (h:k < n * z.size):(Builtin.zeroCells z n)[k]? = z[k % z.size]?:=by
 have hz:0 < z.size:=by
  rcases Nat.eq_zero_or_pos z.size with h0 | h0
  ·rw [h0] at h; omega
  ·exact h0
 have hm:k % z.size < z.size:=Nat.mod_lt _ hz
 unfold Builtin.zeroCells
 rw [Array.getElem?_map,Array.getElem?_range,if_pos h]
 simp [hm]
theorem zGM {t t' ty e:TypeId} {i:TypeInfo} {z:Value} {k k':IntKind} {as:Option Addr} {n:Nat} (ht:P.underlying t = some (.slice e)) (ht':P.underlying t' = some (.int k')) (hi:P.info? e = some i) (hz:i.zero = some z) (hzs:z.cells.size = i.size) (hsz:i.size ≠ 0)
  (h0:0 < n) (hlim:n < LIM) (hb:i.bytes ≤ 32768) :
  ∃ (cap:Nat) (C:Array Value),n ≤ cap ∧ C.size = cap * i.size ∧ (∀ (j:Nat),j < n * i.size → C[j]? = z.cells[j % i.size]?) ∧
   (Builtin.append_ #[t,t'] ty #[.slice as 0 0,.int k (n:Int)]).run P w = .ok (.slice (some ⟨w.heap.size,0,none⟩) n cap) (w.drew.alloc (.cells C e (0,0))):=by
 have hfo:=ziw (P:=P) (w:=w.drew) (sz:=i.size) (n:=0) (cx:=0) (ax:=as) (news:=[]) (by simp) (by simp)
 have hcap:n ≤ grownCap w (0 + n) 0 e:=by unfold grownCap Question.cut; simp
 have hn63:(n:Int) < 4294967296:=by simp only [LIM] at hlim; omega
 have hw:IntKind.i64.wrap (n:Int) = (n:Int):=by
  unfold IntKind.wrap
  simp only [show IntKind.i64.bits = 64 from rfl,show IntKind.i64.signed = true from rfl,Bool.true_and,decide_eq_true_eq]
  rw [show (2:Int) ^ 64 = 18446744073709551616 from by decide,show (2:Int) ^ (64 - 1) = 9223372036854775808 from by decide]
  split <;> omega
 have hnn:n ≠ 0:=by omega
 have hneg:¬ ((n:Int) < 0):=by omega
 have hbig:¬ (281474976710656 < (n:Int) * (i.bytes:Int)):=by
  have h1:n * i.bytes ≤ n * 32768:=Nat.mul_le_mul_left _ hb
  have h2:(n:Int) * (i.bytes:Int) = ((n * i.bytes:Nat):Int):=by simp
  rw [h2]; omega
 have h63:¬ (9223372036854775807 < (n:Int)):=by omega
 have h48:¬ (281474976710656 < Builtin.nextslicecap n 0 * i.bytes):=by
  have h1:=nextslicecap_le (need:=n) (old:=0) h0
  have h2:Builtin.nextslicecap n 0 * i.bytes ≤ (2 * n) * 32768:=Nat.mul_le_mul h1 hb
  simp only [LIM] at hlim
  omega
 have hns:¬ (n = 0 ∨ i.size = 0):=by omega
 refine ⟨grownCap w (0 + n) 0 e,Builtin.zeroCells z.cells n ++ Builtin.zeroCells z.cells (grownCap w (0 + n) 0 e - n),hcap,?_,?_,?_⟩
 ·simp only [Array.size_append,Builtin.zeroCells,Array.size_map,Array.size_range,hzs,← Nat.add_mul]
  congr 1; omega
 ·intro j hj
  rw [Array.getElem?_append_left (by simp [Builtin.zeroCells,hzs]; exact hj),zGL (by rw [hzs]; exact hj),hzs]
 ·simp [Builtin.append_,run_underlying ht,run_underlying ht',sizeOf,typeInfo,zeroValue,hi,hz,Builtin.lenOf,asInt,asIntOf,hw,hneg,hbig,hnn,h63,h48,hns,hsz,Question.forced,hfo,newRow,grownCap]
  intro h
  rcases Nat.mul_eq_zero.1 h with h | h <;> omega
theorem zGN {t t' ty e:TypeId} {i:TypeInfo} {k k':IntKind} {as:Option Addr} (ht:P.underlying t = some (.slice e)) (ht':P.underlying t' = some (.int k')) (hi:P.info? e = some i) :
  (Builtin.append_ #[t,t'] ty #[.slice as 0 0,.int k 0]).run P w = .ok (.slice as 0 0) w:=by
 have hw:IntKind.i64.wrap 0 = 0:=by decide
 cases as with
 | none => simp [Builtin.append_,run_underlying ht,run_underlying ht',sizeOf,typeInfo,hi,Builtin.lenOf,asInt,asIntOf,hw]
 | some ad => simp [Builtin.append_,run_underlying ht,run_underlying ht',sizeOf,typeInfo,hi,Builtin.lenOf,asInt,asIntOf,hw,storeCells]
theorem zGO {c:Call} {t t' e:TypeId} {s x:Operand} {ss sx:S} {K:Kd} {k':IntKind} {sz by_:Nat} {zs:List SV} (hop:o.op = .call c) (hc:c.callee = .builtin .append) (hargs:c.args = #[s,x]) (hty:c.argTypes = #[t,t'])
  (hu:P.underlying t = some (.slice e)) (hu':P.underlying t' = some (.int k')) (hz:tinfo P e = some (sz,zs,by_)) (hb:by_ ≤ 32768) (hK:K.sz = sz) (h0:isZero K zs = true) (hsz:sz ≠ 0)
  (hs:opL s = some ss) (hx:opL x = some sx) (ht:TRel ρ w τ a N) (hH:HRel ρ H w) (hun:ρ H.length = .unborn)
  (he:runI T (.appz K e ss sx) τ H (fun v H => some (v,H)) = some (v,H')):OpOK P o a m ρ H w v H':=by
 have vs:=opL_rel ht hs
 have vx:=opL_rel ht hx
 obtain ⟨i,z,hi,hzz,rfl,rfl,hsv,hzl⟩:=zal hz
 have hzr:VRels ρ w zs z.cells.toList:=svsOf_rel hsv
 have hzs:z.cells.size = i.size:=by
  have:=hzr.length
  simp only [Array.length_toList] at this; omega
 simp only [runI] at he
 split at he
 ·rename_i k n e1 e2
  rw [e1] at vs; rw [e2] at vx
  simp only [VRel] at vs vx
  obtain ⟨as,hva⟩:=vs
  obtain ⟨g0,he⟩:=za he
  obtain ⟨g1,he⟩:=za he
  simp only [decide_eq_true_eq] at g0 g1
  simp only [Option.some.injEq,Prod.mk.injEq] at he
  obtain ⟨rfl,rfl⟩:=he
  obtain ⟨n,rfl⟩:∃ j:Nat,n = (j:Int):=⟨n.toNat,by omega⟩
  simp only [Int.toNat_natCast] at g1 ⊢
  have fin:∀ {u:Value} {w':World} {ρ':Map},(Builtin.append_ #[t,t'] o.type #[a.eval s,a.eval x]).run P w = .ok u w' → Good m ρ H w (.own H.length) (kill [] H ++ [.arr K (List.replicate n K.dflt) e]) u w' ρ' → OpOK P o a m ρ H w (.own H.length) (H ++ [.arr K (List.replicate n K.dflt) e]):=by
   intro u w' ρ' hr hg
   refine OpOK.value ?_ hg
   simp [execOp,hop,resolve,hc,hargs,hty,invoke,builtin,hr]
  rw [hva,vx] at fin
  rcases Nat.eq_zero_or_pos n with hn | hn
  ·subst hn
   refine fin (zGN hu hu' hi) (zan (rs:=[]) hH hun ((Step.kill []).trans (Step.ghost H.length .none_ (by simp) (zak hun))) (fun _ _ _ _ _ _ _ => rfl) (fun _ _ _ => rfl) (.inl ⟨rfl,.inl ⟨K,e,rfl⟩⟩) (fun h => ⟨rfl,fun _ _ => rfl⟩) ?_)
   simp only [VRel,Map.put_same]
   exact ⟨_,rfl⟩
  ·obtain ⟨cap,C,hcap,hCs,hCz,hrun⟩:=zGM (P:=P) (w:=w) (ty:=o.type) (k:=k) (as:=as) hu hu' hi hzz hzs hsz hn g1 hb
   have hst:=Step.realloc (ρ:=ρ) (w:=w) (rs:=[]) C e n i.size hun
   have hmul:n * i.size ≤ cap * i.size:=Nat.mul_le_mul_right _ hcap
   have hnew:(w.drew.alloc (.cells C e (0,0))).heap[w.heap.size]? = some (.cells C e (0,0)):=heap_alloc_new w.drew _
   refine fin hrun (zan (rs:=[]) hH hun hst (fun γ b' o' n' sz' hγ hr' => ?_) (fun b2 t2 hv2 => by first | exact zeC (hH.vlt hv2) | exact zeD (hH.vlt hv2)) (.inr ⟨w.heap.size,0,n,i.size,rfl,by simp,fun h => ?_,fun γ o' n' sz' hγ hr' => ?_,?_⟩) (fun h => ⟨rfl,fun b hb => by simp only [World.alloc]; rw [Array.getElem?_push,if_neg (by simp; omega)]; rfl⟩) ?_)
   ·have:=hH.lt _ _ _ _ _ hr'
    simp only [World.alloc]; rw [Array.getElem?_push,if_neg (by simp; omega)]; rfl
   ·have:=hH.resl _ h; omega
   ·have:=hH.lt _ _ _ _ _ hr'; omega
   ·simp only [BRel]
    refine ⟨by simp,hK,C,e,hnew,by omega,fun j x hx => ?_⟩
    have hj:j < n:=by have:=(List.getElem?_eq_some_iff.1 hx).1; simpa using this
    rw [List.getElem?_replicate,if_pos hj] at hx
    cases hx
    refine ⟨z.cells.toList,(zmk h0 hzr).step hst,fun q u hq => ?_⟩
    have hq':q < i.size:=by have:=(List.getElem?_eq_some_iff.1 hq).1; simp at this; omega
    have hle:(j + 1) * i.size ≤ n * i.size:=Nat.mul_le_mul_right _ (by omega)
    rw [Nat.add_mul] at hle
    rw [Nat.zero_add,hK,hCz _ (by omega),Nat.mul_comm,Nat.mul_add_mod,Nat.mod_eq_of_lt hq']
    simpa using hq
   ·simp only [VRel,Map.put_same]
    exact ⟨cap,hcap,rfl,C,e,hnew,by omega⟩
 ·simp at he
theorem zvN {β:Nat} {v s:SV} {u:Value} (key:∀ u,VRel ρ w (.own β) u → VRel (ρ.kill [β]) w v u) (h:VRel ρ w s u):VRel (ρ.kill [β]) w (SV.subC β v s) u:=by
 cases s with
 | own γ =>
  simp only [SV.subC]
  by_cases e:γ = β
  ·subst e; rw [Nat.beq_refl]; exact key _ h
  ·rw [show Nat.beq γ β = false from by cases hb:Nat.beq γ β with | true => exact absurd (Nat.eq_of_beq_eq_true hb) e | false => rfl]; exact h.step (Step.kill _)
 | _ => exact h.step (Step.kill _)
theorem zvO {β:Nat} {v:SV} (key:∀ u,VRel ρ w (.own β) u → VRel (ρ.kill [β]) w v u):∀ {cs:List SV} {us:List Value},VRels ρ w cs us → VRels (ρ.kill [β]) w (cs.map (SV.subC β v)) us
 | [],us,h => by simpa [VRels] using h
 | c :: cs,us,h => by
  simp only [VRels] at h
  obtain ⟨u,us',rfl,h1,h2⟩:=h
  simp only [List.map_cons,VRels]
  exact ⟨u,us',rfl,zvN key h1,zvO key h2⟩
theorem HRel.subC {β:Nat} {v:SV} (hH:HRel ρ H w) (key:∀ u,VRel ρ w (.own β) u → VRel (ρ.kill [β]) w v u):HRel (ρ.kill [β]) ((Den.kill [β] H).map (Blk.subC β v)) w where
 dead γ hl hr:=by
  rw [List.length_map] at hl
  rw [List.getElem?_map,(hH.kill [β]).dead γ hl hr]; rfl
 none_ γ hl hr:=by
  rw [List.length_map] at hl
  rw [List.getElem?_map]
  rcases (hH.kill [β]).none_ γ hl hr with ⟨K,t,h⟩ | ⟨t,z,h⟩ | ⟨d,e,h⟩
  ·exact .inl ⟨K,t,by rw [h]; rfl⟩
  ·exact .inr (.inl ⟨t,z,by rw [h]; rfl⟩)
  ·exact .inr (.inr ⟨d,e,by rw [h]; rfl⟩)
 at_ γ hl b o n sz hr:=by
  rw [List.length_map] at hl
  obtain ⟨y,h1,h2⟩:=(hH.kill [β]).at_ γ hl b o n sz hr
  rw [zc] at hl
  simp only [Map.kill] at hr
  split at hr
  ·cases hr
  ·rename_i hn
   obtain ⟨x,h3,h4⟩:=hH.at_ γ hl b o n sz hr
   rw [zj,if_neg (fun h => hn ⟨h.1,by rw [hr]; rfl⟩),h3] at h1
   have hxy:x = y:=Option.some.inj h1
   subst hxy
   refine ⟨x.subC β v,by rw [List.getElem?_map,zj,if_neg (fun h => hn ⟨h.1,by rw [hr]; rfl⟩),h3]; rfl,?_⟩
   cases x with
   | cells cs t z =>
    simp only [Blk.subC,BRel] at h4 ⊢
    obtain ⟨h0,h1,C,tC,h5,h6,h7⟩:=h4
    refine ⟨h0,by simpa using h1,C,tC,h5,h6,fun j s hs => ?_⟩
    rw [List.getElem?_map] at hs
    obtain ⟨s',hs',rfl⟩:=Option.map_eq_some_iff.1 hs
    obtain ⟨u,h8,h9⟩:=h7 j s' hs'
    exact ⟨u,h8,zvN key h9⟩
   | tree d e xs ex =>
    cases ex with
    | none => exact h2
    | some p =>
     simp only [Blk.subC,BRel] at h4 ⊢
     obtain ⟨h0,h1,C,tC,us,tk,h5,h6,h7,h8,h9,h10,h11,h12⟩:=h4
     refine ⟨h0,h1,C,tC,us,tk,h5,h6,h7,h8,SeqX.mono (fun c hc q hq => ?_) (fun x _ c t ht h => h.keep (fun K x cs hc => hc.step (Step.kill [β])) fun b' _ => rfl) h9,h10,h11,fun q hq => ?_⟩
     ·cases hq; exact zvO key (hc p rfl)
     ·cases hq; simpa using h12 p rfl
   | dead => exact h2
   | arr K xs t => exact h2
   | mapi es => exact h2
   | mapo e f ex => exact h2
 inj:=(hH.kill [β]).inj
 lt:=(hH.kill [β]).lt
 resl:=hH.resl
 resf:=(hH.kill [β]).resf
 vr:=hH.vr
theorem frz_arr {β:Nat} {e:Kd} {xs:List e.T} {t:TypeId} {u:Value} (hH:HRel ρ H w) (hb:H[β]? = some (.arr e xs t)) (hv:VRel ρ w (.own β) u):HRel (ρ.kill [β]) ((Den.kill [β] H).map (Blk.subC β (.es e xs))) w ∧ VRel (ρ.kill [β]) w (.es e xs) u:=by
 have hd:decH false H (.list e) [.own β] = some xs:=by simp [decH,hb]
 have key:∀ u,VRel ρ w (.own β) u → VRel (ρ.kill [β]) w (.es e xs) u:=fun u hv => by
  simp only [VRel]
  exact zax (dp:=false) (B:=Free (ρ.kill [β]) w) hH (fun b h => h.step (Step.kill _)) (fun h => by cases h) (fun γ b o n sz hg hr => zmj hH (by simpa [SV.refsL,SV.refs] using hg) hr) hd (VRels.single hv)
 exact ⟨hH.subC key,key _ hv⟩
theorem zvP {β d:Nat} {e:Kd} {xs:List e.T} {u:Value} (hH:HRel ρ H w) (hb:H[β]? = some (.tree d e xs none)) (hv:VRel ρ w (.own β) u) :
  ∃ ρ',HRel ρ' ((Den.kill [β] H).map (Blk.subC β (.es e xs))) w ∧ VRel ρ' w (.es e xs) u ∧ Step ρ w ρ' w ∧ ∀ γ,ρ γ = .unborn → ρ' γ = .unborn:=by
 obtain ⟨ρ1,hg,hg1⟩:=zvy (d:=0) hH hv hb (Nat.zero_le _)
 have hlt:β < H.length:=(List.getElem?_eq_some_iff.1 hb).1
 obtain ⟨g1,g2⟩:=frz_arr (e:=e) (xs:=xs) (t:=0) hg.hrel (by rw [List.getElem?_set_self hlt]; rfl) hg.vrel
 exact ⟨ρ1.kill [β],by simpa [Den.kill] using g1,g2,hg.step.trans (Step.kill _),fun γ h => zak (by rw [hg1]; exact h)⟩
mutual
theorem frzV_sound {R:Type} {r:R}:∀ (v:SV) {u:Value} {ρ:Map} {H:Heap} {k:SV → Heap → Option R},HRel ρ H w → VRel ρ w v u → frzV v H k = some r →
  ∃ v' H' ρ',k v' H' = some r ∧ HRel ρ' H' w ∧ VRel ρ' w v' u ∧ Step ρ w ρ' w ∧ H'.length = H.length ∧ ∀ β,ρ β = .unborn → ρ' β = .unborn
 | .own β,u,ρ,H,k,hH,hv,he => by
  simp only [frzV] at he
  split at he
  ·rename_i e xs t hb
   obtain ⟨g1,g2⟩:=frz_arr hH hb hv
   exact ⟨_,_,ρ.kill [β],he,g1,g2,Step.kill _,by simp [zc],fun γ h => zak h⟩
  ·rename_i d e xs ex hb
   split at he
   ·obtain ⟨ρ1,g1,g2,g3,g4⟩:=zvP hH hb hv
    exact ⟨_,_,ρ1,he,g1,g2,g3,by simp [zc],g4⟩
   ·exact ⟨_,_,ρ,he,hH,hv,Step.refl _ _,rfl,fun _ h => h⟩
  ·exact ⟨_,_,ρ,he,hH,hv,Step.refl _ _,rfl,fun _ h => h⟩
 | .agg cs,u,ρ,H,k,hH,hv,he => by
  simp only [frzV] at he
  simp only [VRel] at hv
  obtain ⟨vs,rfl,h1⟩:=hv
  obtain ⟨l,H',ρ',h2,h3,h4,h5,h6,h7⟩:=frzL_sound cs hH h1 he
  exact ⟨_,H',ρ',h2,h3,by simp only [VRel]; exact ⟨vs,rfl,h4⟩,h5,h6,h7⟩
 | .tup cs,u,ρ,H,k,hH,hv,he => by
  simp only [frzV] at he
  simp only [VRel] at hv
  obtain ⟨vs,rfl,h1⟩:=hv
  obtain ⟨l,H',ρ',h2,h3,h4,h5,h6,h7⟩:=frzL_sound cs hH h1 he
  exact ⟨_,H',ρ',h2,h3,by simp only [VRel]; exact ⟨vs,rfl,h4⟩,h5,h6,h7⟩
 | .junk,u,ρ,H,k,hH,hv,he => ⟨_,_,ρ,by simpa only [frzV] using he,hH,hv,Step.refl _ _,rfl,fun _ h => h⟩
 | .int _ _,u,ρ,H,k,hH,hv,he => ⟨_,_,ρ,by simpa only [frzV] using he,hH,hv,Step.refl _ _,rfl,fun _ h => h⟩
 | .bool _,u,ρ,H,k,hH,hv,he => ⟨_,_,ρ,by simpa only [frzV] using he,hH,hv,Step.refl _ _,rfl,fun _ h => h⟩
 | .nilp,u,ρ,H,k,hH,hv,he => ⟨_,_,ρ,by simpa only [frzV] using he,hH,hv,Step.refl _ _,rfl,fun _ h => h⟩
 | .ptr _ _,u,ρ,H,k,hH,hv,he => ⟨_,_,ρ,by simpa only [frzV] using he,hH,hv,Step.refl _ _,rfl,fun _ h => h⟩
 | .aptr _ _ _,u,ρ,H,k,hH,hv,he => ⟨_,_,ρ,by simpa only [frzV] using he,hH,hv,Step.refl _ _,rfl,fun _ h => h⟩
 | .eptr _ _ _,u,ρ,H,k,hH,hv,he => ⟨_,_,ρ,by simpa only [frzV] using he,hH,hv,Step.refl _ _,rfl,fun _ h => h⟩
 | .nils,u,ρ,H,k,hH,hv,he => ⟨_,_,ρ,by simpa only [frzV] using he,hH,hv,Step.refl _ _,rfl,fun _ h => h⟩
 | .sub _ _ _,u,ρ,H,k,hH,hv,he => ⟨_,_,ρ,by simpa only [frzV] using he,hH,hv,Step.refl _ _,rfl,fun _ h => h⟩
 | .es _ _,u,ρ,H,k,hH,hv,he => ⟨_,_,ρ,by simpa only [frzV] using he,hH,hv,Step.refl _ _,rfl,fun _ h => h⟩
 | .arrv _ _,u,ρ,H,k,hH,hv,he => ⟨_,_,ρ,by simpa only [frzV] using he,hH,hv,Step.refl _ _,rfl,fun _ h => h⟩
 | .fn _ _ _,u,ρ,H,k,hH,hv,he => ⟨_,_,ρ,by simpa only [frzV] using he,hH,hv,Step.refl _ _,rfl,fun _ h => h⟩
 | .nilf,u,ρ,H,k,hH,hv,he => ⟨_,_,ρ,by simpa only [frzV] using he,hH,hv,Step.refl _ _,rfl,fun _ h => h⟩
 | .iface _ _,u,ρ,H,k,hH,hv,he => ⟨_,_,ρ,by simpa only [frzV] using he,hH,hv,Step.refl _ _,rfl,fun _ h => h⟩
 | .nili,u,ρ,H,k,hH,hv,he => ⟨_,_,ρ,by simpa only [frzV] using he,hH,hv,Step.refl _ _,rfl,fun _ h => h⟩
 | .mapp _,u,ρ,H,k,hH,hv,he => ⟨_,_,ρ,by simpa only [frzV] using he,hH,hv,Step.refl _ _,rfl,fun _ h => h⟩
 | .nilm,u,ρ,H,k,hH,hv,he => ⟨_,_,ρ,by simpa only [frzV] using he,hH,hv,Step.refl _ _,rfl,fun _ h => h⟩
theorem frzL_sound {R:Type} {r:R}:∀ (cs:List SV) {us:List Value} {ρ:Map} {H:Heap} {k:List SV → Heap → Option R},HRel ρ H w → VRels ρ w cs us → frzL cs H k = some r →
  ∃ l H' ρ',k l H' = some r ∧ HRel ρ' H' w ∧ VRels ρ' w l us ∧ Step ρ w ρ' w ∧ H'.length = H.length ∧ ∀ β,ρ β = .unborn → ρ' β = .unborn
 | [],us,ρ,H,k,hH,hv,he => ⟨_,_,ρ,by simpa only [frzL] using he,hH,hv,Step.refl _ _,rfl,fun _ h => h⟩
 | c :: cs,us,ρ,H,k,hH,hv,he => by
  simp only [frzL] at he
  simp only [VRels] at hv
  obtain ⟨u,us',rfl,h1,h2⟩:=hv
  obtain ⟨v',H1,ρ1,h3,h4,h5,h6,h7,h8⟩:=frzV_sound c hH h1 he
  obtain ⟨l,H2,ρ2,g3,g4,g5,g6,g7,g8⟩:=frzL_sound cs h4 (h2.step h6) h3
  refine ⟨_,H2,ρ2,g3,g4,?_,h6.trans g6,g7.trans h7,fun β h => g8 β (h8 β h)⟩
  simp only [VRels]
  exact ⟨u,us',rfl,h5.step g6,g5⟩
end
mutual
theorem frzV_nat:∀ (v:SV) {R:Type} (H:Heap) (k:SV → Heap → Option R),frzV v H k = (frzV v H (fun v H => some (v,H))).bind fun p => k p.1 p.2
 | .own β,R,H,k => by
  simp only [frzV]
  split
  ·rfl
  ·split <;> rfl
  ·rfl
 | .agg cs,R,H,k => by
  simp only [frzV]
  rw [frzL_nat cs H,frzL_nat cs H (fun l H => some (SV.agg l,H)),Option.bind_assoc]; rfl
 | .tup cs,R,H,k => by
  simp only [frzV]
  rw [frzL_nat cs H,frzL_nat cs H (fun l H => some (SV.tup l,H)),Option.bind_assoc]; rfl
 | .junk,R,H,k | .int _ _,R,H,k | .bool _,R,H,k | .nilp,R,H,k | .ptr _ _,R,H,k | .aptr _ _ _,R,H,k | .eptr _ _ _,R,H,k | .nils,R,H,k | .sub _ _ _,R,H,k | .es _ _,R,H,k | .arrv _ _,R,H,k | .fn _ _ _,R,H,k | .nilf,R,H,k | .iface _ _,R,H,k | .nili,R,H,k | .mapp _,R,H,k | .nilm,R,H,k => by
  simp only [frzV]; rfl
theorem frzL_nat:∀ (cs:List SV) {R:Type} (H:Heap) (k:List SV → Heap → Option R),frzL cs H k = (frzL cs H (fun v H => some (v,H))).bind fun p => k p.1 p.2
 | [],R,H,k => by simp only [frzL]; rfl
 | c :: cs,R,H,k => by
  simp only [frzL]
  rw [frzV_nat c H,frzV_nat c H (fun v H => frzL cs H fun l H => some (v :: l,H)),Option.bind_assoc]
  congr 1; funext p
  show frzL cs p.2 _ = Option.bind (frzL cs p.2 _) _
  rw [frzL_nat cs p.2,frzL_nat cs p.2 (fun l H => some (p.1 :: l,H)),Option.bind_assoc]; rfl
end
end
end Go.Proofs.YtljojacnjjgceaaGreat.Den
