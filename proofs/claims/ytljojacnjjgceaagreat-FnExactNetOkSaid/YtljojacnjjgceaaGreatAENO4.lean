/- Part 4 of the texts behind the row. -/
import Derived.Test.YtljojacnjjgceaaGreatAENO3
import Derived.MapKept
import Derived.WideKeyRuns
set_option linter.unusedVariables false
set_option linter.unusedSimpArgs false
namespace Go.Proofs.YtljojacnjjgceaaGreat.Den
open Go Go.RowKit
section
variable {P:Program} {o:Oper} {a:Act} {m:Bool} {ρ:Map} {H H':Heap} {w w':World} {v:SV} {u:Value} {τ:Env} {N:Nat} {T:Tab}
structure MapPl (P:Program) (t k e:TypeId) (fs:Array Field):Prop where
 ut:P.underlying t = some (.map k e)
 uk:P.underlying k = some (.struct fs)
 st:P.stoodInHeld k = false
 sz:fs.size = 2
 fs:∀ (i:Nat) (f:Field),fs.toList[i]? = some f → f.name ≠ "_" ∧ f.offset = i ∧ ∃ kk,P.underlying f.type = some (.int kk)
 ze:∃ i z,P.info? e = some i ∧ i.zero = some z ∧ ∀ w,(zeroValue e).run P w = .ok z w
theorem zix {t:TypeId} (h:mapPlain P t = true):∃ k e fs,MapPl P t k e fs:=by
 unfold mapPlain at h
 split at h
 ·rename_i k e ht
  simp only [Bool.and_eq_true] at h
  obtain ⟨h1,h3,h4⟩:=h
  split at h1
  ·rename_i n hn
   have hn2:n = 2:=Nat.eq_of_beq_eq_true h1
   subst hn2
   unfold eqPlain at hn
   split at hn
   ·rename_i fs hfs
    split at hn
    ·rename_i hall
     obtain ⟨g1,g2,g3,g4⟩:=hall
     simp only [Option.some.injEq] at hn
     refine ⟨k,e,fs,ht,hfs,g1,hn,fun i f hf => ?_,?_⟩
     ·have hm:f ∈ fs.toList:=List.mem_of_getElem? hf
      have h3':=List.all_eq_true.1 g3 f hm
      have h4':=List.all_eq_true.1 g4 (f,i) (List.mem_zipIdx_iff_getElem?.2 (by simpa using hf))
      simp only [Bool.and_eq_true,bne_iff_ne] at h3'
      refine ⟨h3'.1,by simpa using h4',?_⟩
      have h5:=h3'.2
      split at h5
      ·rename_i kk hk; exact ⟨kk,hk⟩
      ·simp at h5
     ·split at h3
      ·rename_i i hi
       obtain ⟨z,hz⟩:=Option.isSome_iff_exists.1 h3
       exact ⟨i,z,hi,hz,fun w => by simp [zeroValue,typeInfo,hi,hz]⟩
      ·simp at h3
    ·simp at hn
   ·simp at hn
  ·simp at h1
 ·simp at h
theorem zGP {f:Field} {vs:Array Value} {u:Value} {i:Nat} (ho:f.offset = i) (hty:∃ kk,P.underlying f.type = some (.int kk)) (hu:vs[i]? = some u):(part f.type vs f.offset).run P w = .ok u w:=by
 have hag:isAggL P f.type = some false:=by obtain ⟨kk,h⟩:=hty; simp [isAggL,h]
 simp [part,zeE hag,ho,hu]
theorem MapPl.eq {t k e:TypeId} {fs:Array Field} (h:MapPl P t k e fs) (a b c d:Int):(Op.equal k (.agg #[.int .i64 a,.int .i64 b]) (.agg #[.int .i64 c,.int .i64 d])).run P w = .ok ((a == c) && (b == d)) w:=by
 have hfo:P.fieldsOf k = fs:=by simp [Program.fieldsOf,h.uk]
 unfold Op.equal
 show (Op.equalIn (9999 + 1) k _ _).run P w = _
 rw [run_equalIn_struct w 9999 k _ _ (by rw [hfo]; exact h.uk) h.st,hfo]
 have hr:=zpH (P:=P) (w:=w) (ρ:=⟨fun _ => .unborn,fun _ => False,fun _ => none⟩) (d:=9998) (xs:=#[.int .i64 a,.int .i64 b]) (ys:=#[.int .i64 c,.int .i64 d]) fs.toList 0 [.int .i64 a,.int .i64 b] [.int .i64 c,.int .i64 d] ((a == c) && ((b == d) && true))
  (fun i f hf => by obtain ⟨h1,h2,h3⟩:=h.fs i f hf; exact ⟨h1,by omega,h3⟩) (by have:=h.sz; simp; omega) rfl (by simp [VRels,VRel]) (by simp [VRels,VRel])
 rw [Bool.and_true] at hr
 exact hr
theorem zGQ {em:Bool} {t:TypeId} {kk:IntKind} {q:Int} (h:P.underlying t = some (.int kk)) (n:Nat):(Instr.checkKey em (n + 1) t (.int .i64 q)).run P w = .ok () w:=by
 unfold Instr.checkKey
 simp only [Sem.run_bind,run_underlying h,Result.andThen_ok]
 rfl
theorem MapPl.check {t k e:TypeId} {fs:Array Field} (h:MapPl P t k e fs) (em:Bool) (a b:Int):(Instr.checkKey em 10000 k (.agg #[.int .i64 a,.int .i64 b])).run P w = .ok () w:=by
 show (Instr.checkKey em (9999 + 1) k _).run P w = _
 unfold Instr.checkKey
 simp only [Sem.run_bind,run_underlying h.uk,Result.andThen_ok]
 rw [← Array.forIn_toList]
 have key:∀ (l:List Field) (n:Nat),(∀ (i:Nat) (f:Field),l[i]? = some f → f.name ≠ "_" ∧ f.offset = n + i ∧ ∃ kk,P.underlying f.type = some (.int kk)) → n + l.length ≤ 2 →
   (forIn l PUnit.unit fun f (__s:PUnit) => if f.name ≠ "_" then (do
     let x ← part f.type #[Value.int .i64 a,.int .i64 b] f.offset
     Instr.checkKey em 9999 f.type x
     pure (ForInStep.yield PUnit.unit):Sem (ForInStep PUnit)) else pure (ForInStep.yield PUnit.unit)).run P w = .ok PUnit.unit w:=by
  intro l
  induction l with
  | nil => intro n _ _; simp
  | cons f l ih =>
   intro n hl hn
   obtain ⟨h1,h2,kk,h3⟩:=hl 0 f rfl
   simp only [List.length_cons] at hn
   obtain ⟨u,hu,hi⟩:∃ u,(#[Value.int .i64 a,.int .i64 b]:Array Value)[n]? = some u ∧ ∃ q,u = .int .i64 q:=by
    rcases show n = 0 ∨ n = 1 by omega with rfl | rfl
    ·exact ⟨_,rfl,_,rfl⟩
    ·exact ⟨_,rfl,_,rfl⟩
   obtain ⟨q,rfl⟩:=hi
   have hp:=zGP (P:=P) (w:=w) (f:=f) (i:=n) (by omega) ⟨kk,h3⟩ hu
   have hc:(Instr.checkKey em 9999 f.type (.int .i64 q)).run P w = .ok () w:=zGQ h3 9998
   rw [List.forIn_cons]
   simp only [Sem.run_bind,Sem.run_ite,h1,ne_eq,not_false_eq_true,if_true,hp,Result.andThen_ok,hc,Sem.run_pure]
   exact ih (n + 1) (fun i g hg => by obtain ⟨g1,g2,g3⟩:=hl (i + 1) g (by simpa using hg); exact ⟨g1,by omega,g3⟩) (by omega)
 have hk:=key fs.toList 0 (fun i f hf => by obtain ⟨h1,h2,h3⟩:=h.fs i f hf; exact ⟨h1,by omega,h3⟩) (by have:=h.sz; simp; omega)
 rw [hk]; rfl
def MapRelL (l:List MapEntry) (es:List (Int × Int × Int)):Prop :=
 l.length = es.length ∧ ∀ (i:Nat) (e:Int × Int × Int),es[i]? = some e → ∃ x,l[i]? = some x ∧ x.key = .agg #[.int .i64 e.1,.int .i64 e.2.1]
theorem MapRel.toL {A:Array MapEntry} {es:List (Int × Int × Int)} (h:MapRel A es):MapRelL A.toList es:=⟨by simpa using h.1,fun i e he => by obtain ⟨x,h1,h2⟩:=h.2 i e he; exact ⟨x,by rw [Array.getElem?_toList]; exact h1,h2⟩⟩
theorem MapPl.find {t k e:TypeId} {fs:Array Field} (h:MapPl P t k e fs) (a b:Int):∀ (l:List MapEntry) (es:List (Int × Int × Int)) (i:Nat),MapRelL l es →
  ∃ r,(Instr.findAsking k (.agg #[.int .i64 a,.int .i64 b]) l i).run P w = .ok r w ∧ r.map Prod.fst = (mfind a b es i).map Prod.fst
 | [],es,i,hr => by
  have:es = []:=by have:=hr.1; cases es <;> simp_all
  subst this; exact ⟨none,rfl,rfl⟩
 | x :: l,[],i,hr => by have:=hr.1; simp at this
 | x :: l,e :: es,i,hr => by
  obtain ⟨y,h1,h2⟩:=hr.2 0 e rfl
  simp at h1; subst h1
  obtain ⟨r,ih,ih2⟩:=MapPl.find h a b l es (i + 1) ⟨by have:=hr.1; simpa using this,fun j g hg => by simpa using hr.2 (j + 1) g (by simpa using hg)⟩
  unfold Instr.findAsking mfind
  simp only [Sem.run_bind,h2,h.eq,Result.andThen_ok,Sem.run_ite]
  cases hb:(a == e.1) && (b == e.2.1)
  ·exact ⟨r,by simpa using ih,ih2⟩
  ·exact ⟨some (i,x.val),by simp,rfl⟩
theorem MapPl.findKey {t k e:TypeId} {fs:Array Field} (h:MapPl P t k e fs) (a b:Int) {A:Array MapEntry} {es:List (Int × Int × Int)} (hr:MapRel A es) :
  ∃ r,(Instr.findKey k (.agg #[.int .i64 a,.int .i64 b]) A.toList).run P w = .ok r w ∧ r.map Prod.fst = (mfind a b es 0).map Prod.fst:=by
 rw [run_findKey_eq w (by simp [h.uk])]
 exact h.find a b _ _ 0 hr.toL
theorem MapPl.findV {t k e:TypeId} {fs:Array Field} (h:MapPl P t k e fs) (a b:Int):∀ (l:List MapEntry) (es:List (Int × Int × Int)) (i:Nat),MapRelL l es →
  ∃ r,(Instr.findAsking k (.agg #[.int .i64 a,.int .i64 b]) l i).run P w = .ok r w ∧ r.map Prod.fst = (mfind a b es i).map Prod.fst ∧ ∀ y,r = some y → i ≤ y.1 ∧ (l[y.1 - i]?).map MapEntry.val = some y.2
 | [],es,i,hr => by
  have:es = []:=by have:=hr.1; cases es <;> simp_all
  subst this; exact ⟨none,rfl,rfl,fun y h => by cases h⟩
 | x :: l,[],i,hr => by have:=hr.1; simp at this
 | x :: l,e :: es,i,hr => by
  obtain ⟨y,h1,h2⟩:=hr.2 0 e rfl
  simp at h1; subst h1
  obtain ⟨r,ih,ih2,ih3⟩:=MapPl.findV h a b l es (i + 1) ⟨by have:=hr.1; simpa using this,fun j g hg => by simpa using hr.2 (j + 1) g (by simpa using hg)⟩
  unfold Instr.findAsking mfind
  simp only [Sem.run_bind,h2,h.eq,Result.andThen_ok,Sem.run_ite]
  cases hb:(a == e.1) && (b == e.2.1)
  ·refine ⟨r,by simpa using ih,ih2,fun y hy => ?_⟩
   obtain ⟨k1,k2⟩:=ih3 y hy
   exact ⟨by omega,by rw [show y.1 - i = (y.1 - (i + 1)) + 1 by omega]; simpa using k2⟩
  ·exact ⟨some (i,x.val),by simp,rfl,fun y hy => by cases hy; simp⟩
theorem MapPl.findKeyV {t k e:TypeId} {fs:Array Field} (h:MapPl P t k e fs) (a b:Int) {A:Array MapEntry} {es:List (Int × Int × Int)} (hr:MapRel A es) :
  ∃ r,(Instr.findKey k (.agg #[.int .i64 a,.int .i64 b]) A.toList).run P w = .ok r w ∧ r.map Prod.fst = (mfind a b es 0).map Prod.fst ∧ ∀ y,r = some y → (A[y.1]?).map MapEntry.val = some y.2:=by
 rw [run_findKey_eq w (by simp [h.uk])]
 obtain ⟨r,h1,h2,h3⟩:=h.findV a b _ _ 0 hr.toL
 exact ⟨r,h1,h2,fun y hy => by have:=(h3 y hy).2; simpa using this⟩
theorem mapo_of {β:Nat} {e:Kd} {f:Int → Int → List e.T} {ex:Option (Int × Int × SV)} (hH:HRel ρ H w) (hb:H[β]? = some (.mapo e f ex)) (hv:VRel ρ w (.mapp β) u) :
  ∃ b o n sz A c es tk,ρ β = .at b o n sz ∧ n = 0 ∧ sz = 0 ∧ u = .map (some b) ∧ w.heap[b]? = some (.map A c) ∧ MapRel A es ∧ (A.toList.map MapEntry.key).Nodup ∧ MapZ ρ w f ex A ∧
   EntO (fun p q u t => TreeC w (Free ρ w) (.list e) 1 (f p q) [u] t) (ex.map keyM) (ExM ρ w ex) A.toList tk ∧ tk.Nodup ∧ ∀ b' ∈ tk,ρ.vl b' = some b:=by
 have hl:β < H.length:=(List.getElem?_eq_some_iff.1 hb).1
 simp only [VRel] at hv
 rcases hr:ρ β with _ | _ | _ | ⟨b,o,n,sz⟩ <;> rw [hr] at hv <;> simp only at hv
 ·have:=hH.dead β hl hr; rw [hb] at this; cases this
 ·obtain ⟨x,h1,h2⟩:=hH.at_ β hl _ _ _ _ hr
  rw [hb] at h1; cases h1
  simp only [BRel] at h2
  obtain ⟨h3,h4,A,c,es,tk,h5⟩:=h2
  exact ⟨b,o,n,sz,A,c,es,tk,rfl,h3,h4,hv,h5⟩
theorem EntO.at {P:Int → Int → Value → List Nat → Prop} {Q:Value → Prop} {p q:Int}:∀ {xs:List MapEntry} {tk:List Nat} {x:MapEntry},EntO P (some (p,q)) Q xs tk → x ∈ xs → x.key = keyV p q → Q x.val
 | [],_,_,_,h,_ => by cases h
 | y :: xs,tk,x,h,hx,hk => by
  obtain ⟨a,b,s1,s2,h2,rfl,h3,h4⟩:=h
  rcases List.mem_cons.1 hx with rfl | hx
  ·obtain ⟨rfl,rfl⟩:=zik (h2.symm.trans hk)
   exact (h3.resolve_right (fun h => h.1 rfl)).2.2
  ·exact h4.at hx hk
theorem zmm {a b:Int}:∀ {es:List (Int × Int × Int)} {i:Nat} {p:Nat × Int},mfind a b es i = some p → i ≤ p.1 ∧ es[p.1 - i]? = some (a,b,p.2)
 | [],i,p,h => by simp [mfind] at h
 | e :: es,i,p,h => by
  unfold mfind at h
  cases hb:(a == e.1) && (b == e.2.1) with
  | true =>
   rw [hb,cond_true] at h
   simp only [Option.some.injEq] at h
   subst h
   simp only [Bool.and_eq_true,beq_iff_eq] at hb
   refine ⟨Nat.le_refl _,?_⟩
   simp [hb.1,hb.2]
  | false =>
   rw [hb,cond_false] at h
   obtain ⟨h1,h2⟩:=zmm h
   refine ⟨by omega,?_⟩
   rw [show p.1 - i = (p.1 - (i + 1)) + 1 by omega,List.getElem?_cons_succ]
   exact h2
theorem zGR {d:Nat} {v:Value} (h:svOf d v = some .nils):v = .slice none 0 0:=by
 cases d with
 | zero => simp [svOf] at h
 | succ d =>
  unfold svOf at h
  split at h <;> (try (simp at h; done))
  ·rfl
  ·split at h <;> simp at h
theorem zvQ {A:Array MapEntry} {es:List (Int × Int × Int)} {p q:Int} (hr:MapRel A es) (h:mfind p q es 0 = none):∀ x ∈ A.toList,x.key ≠ keyV p q:=by
 intro x hx hk
 obtain ⟨i,hi⟩:=List.mem_iff_getElem?.1 hx
 rw [Array.getElem?_toList] at hi
 have hl:=(Array.getElem?_eq_some_iff.1 hi).1
 have hil:i < es.length:=by rw [← hr.1]; exact hl
 obtain ⟨y,h1,h2⟩:=hr.2 i _ (List.getElem?_eq_getElem hil)
 rw [hi] at h1; cases h1
 obtain ⟨e1,e2⟩:=zik (h2.symm.trans hk)
 have:∀ {es:List (Int × Int × Int)} {k:Nat},mfind p q es k = none → ∀ e ∈ es,¬ (e.1 = p ∧ e.2.1 = q):=by
  intro es
  induction es with
  | nil => intro k _ e he; cases he
  | cons z zs ih =>
   intro k hm e he
   unfold mfind at hm
   cases hb:(p == z.1) && (q == z.2.1) with
   | true => rw [hb,cond_true] at hm; cases hm
   | false =>
    rw [hb,cond_false] at hm
    rcases List.mem_cons.1 he with rfl | he
    ·rintro ⟨rfl,rfl⟩; simp at hb
    ·exact ih hm e he
 exact this h _ (List.getElem_mem hil) ⟨e1,e2⟩
theorem pair_of {x:SV} {a b:Int} (h:x = .agg [.int .i64 a,.int .i64 b]) (hv:VRel ρ w x u):u = .agg #[.int .i64 a,.int .i64 b]:=by
 subst h
 simp only [VRel,VRels] at hv
 obtain ⟨vs,rfl,u1,us1,h1,rfl,u2,us2,rfl,rfl,rfl⟩:=hv
 congr 1
 exact Array.toList_inj.1 (by simpa using h1)
theorem zGS {t:TypeId} (hop:o.op = .makeMap t none) (hH:HRel ρ H w) (hu:ρ H.length = .unborn) (he:runI T .mkmap τ H (fun v H => some (v,H)) = some (v,H')):OpOK P o a m ρ H w v H':=by
 simp only [runI,Option.some.injEq,Prod.mk.injEq] at he
 obtain ⟨rfl,rfl⟩:=he
 refine OpOK.value (w':=w.alloc (.map #[] 0)) (u:=.map (some w.heap.size)) ?_ (zaR (n:=0) (sz:=0) hH hu ?_ ?_)
 ·simp only [execOp,hop]; rfl
 ·simp only [BRel]
  exact ⟨trivial,trivial,#[],0,by simp only [World.alloc]; rw [Array.getElem?_push,if_pos rfl],rfl,fun i e h => by simp at h⟩
 ·simp only [VRel,Map.put_same]
theorem zGT {t:TypeId} {x k:Operand} {sx sk:S} (hop:o.op = .lookup t x k true) (hp:mapPlain P t = true) (hx:opL x = some sx) (hk:opL k = some sk) (ht:TRel ρ w τ a N) (hH:HRel ρ H w)
  (he:runI T (.maplk sx sk) τ H (fun v H => some (v,H)) = some (v,H')):OpOK P o a m ρ H w v H':=by
 have vx:=opL_rel ht hx
 have vk:=opL_rel ht hk
 simp only [runI] at he
 split at he
 ·rename_i β p q e1 e2
  split at he
  ·rename_i es hb
   simp only [Option.some.injEq,Prod.mk.injEq] at he
   obtain ⟨rfl,rfl⟩:=he
   rw [e1] at vx
   obtain ⟨b,o',n,sz,A,c,hr,-,-,hu,hA,hrel⟩:=mapp_of hH hb vx
   have hk':=pair_of e2 vk
   obtain ⟨kt,et,fs,hm⟩:=zix hp
   obtain ⟨r,hf,hr2⟩:=hm.findKey (w:=w) p q hrel
   have hc:=hm.check (w:=w) A.isEmpty p q
   obtain ⟨i,z,hi,hz,hzr⟩:=hm.ze
   refine OpOK.same hH (u:=.tuple #[r.elim z Prod.snd,.bool (mhas es p q)]) ?_ ?_
   ·simp only [execOp,hop,hu,hk',Instr.lookup,Sem.run_bind,run_underlying hm.ut,Result.andThen_ok,MapKept.run_getObj_map hA,Sem.run_pure,hc,hf]
    unfold mhas
    cases hq:mfind p q es 0 with
    | none =>
     rw [hq] at hr2
     cases r with
     | none => simp [hzr]
     | some x => simp at hr2
    | some y =>
     rw [hq] at hr2
     cases r with
     | none => simp at hr2
     | some x => simp
   ·simp [VRel,VRels]
  ·simp at he
 ·simp at he
theorem zGU {t:TypeId} {x k:Operand} {sx sk:S} {z:SV} (hop:o.op = .lookup t x k false) (hp:mapPlain P t = true) (hz:mapZero P t = some z) (hx:opL x = some sx) (hk:opL k = some sk) (ht:TRel ρ w τ a N) (hH:HRel ρ H w)
  (he:runI T (.mapz z sx sk) τ H (fun v H => some (v,H)) = some (v,H')):OpOK P o a m ρ H w v H':=by
 have vx:=opL_rel ht hx
 have vk:=opL_rel ht hk
 simp only [runI] at he
 split at he
 ·rename_i β p q e1 e2
  split at he
  ·rename_i es hb
   obtain ⟨hno,he⟩:=za he
   simp only [Option.some.injEq,Prod.mk.injEq] at he
   obtain ⟨rfl,rfl⟩:=he
   rw [e1] at vx
   obtain ⟨b,o',n,sz,A,c,hr,-,-,hu,hA,hrel⟩:=mapp_of hH hb vx
   have hk':=pair_of e2 vk
   obtain ⟨kt,et,fs,hm⟩:=zix hp
   obtain ⟨r,hf,hr2⟩:=hm.findKey (w:=w) p q hrel
   have hc:=hm.check (w:=w) A.isEmpty p q
   obtain ⟨i,zv,hi,hzv,hzr⟩:=hm.ze
   have hzs:svOf 1000 zv = some z:=by simpa [mapZero,hm.ut,hi,hzv] using hz
   have hq:mfind p q es 0 = none:=by
    unfold mhas at hno
    cases hq:mfind p q es 0 with
    | none => rfl
    | some y => rw [hq] at hno; simp at hno
   rw [hq] at hr2
   cases r with
   | some x => simp at hr2
   | none =>
    refine OpOK.same hH (u:=zv) ?_ (svOf_rel hzs)
    simp only [execOp,hop,hu,hk',Instr.lookup,Sem.run_bind,run_underlying hm.ut,Result.andThen_ok,MapKept.run_getObj_map hA,Sem.run_pure,hc,hf]
    simp [hzr]
  ·rename_i e f ex hb
   split at he
   ·rename_i p' q' s0
    obtain ⟨hkey,he2⟩:=za he
    simp only [Bool.and_eq_true,beq_iff_eq] at hkey
    obtain ⟨rfl,rfl⟩:=hkey
    simp only [Option.some.injEq,Prod.mk.injEq] at he2
    obtain ⟨rfl,rfl⟩:=he2
    rw [e1] at vx
    obtain ⟨b,o',n,sz,A,c,es,tk,hr,-,-,hu,hA,hrel,hnd,hmz,hent,-,-⟩:=mapo_of hH hb vx
    have hk':=pair_of e2 vk
    obtain ⟨kt,et,fs,hm⟩:=zix hp
    obtain ⟨r,hf,hr2a,hr2b⟩:=hm.findKeyV (w:=w) p q hrel
    have hc:=hm.check (w:=w) A.isEmpty p q
    obtain ⟨i,zv,hi,hzv,hzr⟩:=hm.ze
    have hzs:svOf 1000 zv = some .nils:=by simpa [mapZero,hm.ut,hi,hzv] using hz
    have hzn:=zGR hzs
    cases r with
    | none =>
     have hq:mfind p q es 0 = none:=by
      cases hq:mfind p q es 0 with
      | none => rfl
      | some y => rw [hq] at hr2a; cases hr2a
     refine OpOK.same hH (u:=zv) ?_ (by rw [hzn]; exact (hmz p q (zvQ hrel hq)).2 _ rfl none)
     simp only [execOp,hop,hu,hk',Instr.lookup,Sem.run_bind,run_underlying hm.ut,Result.andThen_ok,MapKept.run_getObj_map hA,Sem.run_pure,hc,hf]
     simp [hzr]
    | some y =>
     cases hq:mfind p q es 0 with
     | none => rw [hq] at hr2a; cases hr2a
     | some z =>
      rw [hq] at hr2a
      have hyz:y.1 = z.1:=by simpa using hr2a
      obtain ⟨-,h2⟩:=zmm hq
      rw [Nat.sub_zero] at h2
      obtain ⟨x,h3,h4⟩:=hrel.2 _ _ h2
      have hyv:=hr2b y rfl
      rw [hyz,h3] at hyv
      simp only [Option.map_some,Option.some.injEq] at hyv
      refine OpOK.same hH (u:=x.val) ?_ (hent.at (List.mem_of_getElem? (by rw [Array.getElem?_toList]; exact h3)) h4 _ rfl)
      simp only [execOp,hop,hu,hk',Instr.lookup,Sem.run_bind,run_underlying hm.ut,Result.andThen_ok,MapKept.run_getObj_map hA,Sem.run_pure,hc,hf]
      simp [hyv]
   ·simp at he
  ·simp at he
 ·simp at he
theorem zGV {t:TypeId} {x k y:Operand} {sx sk sy:S} (hop:o.op = .mapUpdate t x k y) (hp:mapPlain P t = true) (hx:opL x = some sx) (hk:opL k = some sk) (hy:opL y = some sy) (hmf:m = false) (ht:TRel ρ w τ a N) (hH:HRel ρ H w)
  (he:runI T (.mapset sx sk sy) τ H (fun v H => some (v,H)) = some (v,H')):OpOK P o a m ρ H w v H':=by
 subst hmf
 have vx:=opL_rel ht hx
 have vk:=opL_rel ht hk
 simp only [runI] at he
 split at he
 ·rename_i β p q e1 e2
  split at he
  ·rename_i es hb
   have he':∃ n,SV.junk = v ∧ H.set β (.mapi (mset es p q n)) = H':=by
    split at he <;> (simp only [Option.some.injEq,Prod.mk.injEq] at he; exact ⟨_,he⟩)
   obtain ⟨n,rfl,rfl⟩:=he'
   rw [e1] at vx
   obtain ⟨b,o',n',sz,A,c,hr,hn0,hs0,hu,hA,hrel⟩:=mapp_of hH hb vx
   have hk':=pair_of e2 vk
   obtain ⟨kt,et,fs,hm⟩:=zix hp
   obtain ⟨r0,hf,hr2⟩:=hm.findKey (w:=w) p q hrel
   have hc:=hm.check (w:=w) false p q
   have hlb:β < H.length:=(List.getElem?_eq_some_iff.1 hb).1
   have fin:∀ (A':Array MapEntry) (c':Nat),(execOp a.eval o).run P w = .ok .skip (setO w b (.map A' c')) → MapRel A' (mset es p q n) → OpOK P o a false ρ H w .junk (H.set β (.mapi (mset es p q n))):=by
    intro A' c' hrun hrel'
    refine OpOK.skip hrun (ρ':=ρ) ⟨Step.setMap hr hA,hH.setMap hlb hr hA ?_,by simp [VRel],by simp,fun γ h _ => h,fun h => by cases h⟩
    simp only [BRel]
    exact ⟨hn0,hs0,A',c',setO_eq hA,hrel'⟩
   cases hq:mfind p q es 0 with
   | none =>
    rw [hq] at hr2
    obtain rfl:r0 = none:=by cases r0 with | none => rfl | some x => simp at hr2
    refine fin (A.push { key:=.agg #[.int .i64 p,.int .i64 q],val:=a.eval y,born:=c }) (c + 1) ?_ ?_
    ·simp only [execOp,hop,hu,hk',Instr.mapUpdate,Sem.run_bind,run_underlying hm.ut,Result.andThen_ok,MapKept.run_getObj_map hA,hc,hf,MapKept.run_setObj_map _ hA]
     rfl
    ·refine ⟨by simp [mset,hq,hrel.1],fun i e hi => ?_⟩
     simp only [mset,hq] at hi
     rw [Array.getElem?_push]
     by_cases h:i = A.size
     ·rw [if_pos h]
      rw [List.getElem?_append_right (by rw [h,hrel.1]; omega),h,hrel.1,Nat.sub_self] at hi
      simp at hi; subst hi
      exact ⟨_,rfl,rfl⟩
     ·have hlt:i < es.length:=by
       have:=(List.getElem?_eq_some_iff.1 hi).1
       simp at this; have:=hrel.1; omega
      rw [if_neg h]
      rw [List.getElem?_append_left hlt] at hi
      exact hrel.2 i e hi
   | some r =>
    obtain ⟨-,h2⟩:=zmm hq
    rw [Nat.sub_zero] at h2
    obtain ⟨y0,h3,h4⟩:=hrel.2 _ _ h2
    rw [hq] at hr2
    obtain ⟨u0,rfl⟩:∃ u0,r0 = some (r.1,u0):=by
     cases r0 with
     | none => simp at hr2
     | some x => simp at hr2; exact ⟨x.2,by rw [← hr2]⟩
    refine fin (A.modify r.1 fun e => { e with key:=.agg #[.int .i64 p,.int .i64 q],val:=a.eval y }) c ?_ ?_
    ·have hst:(Instr.keyThatStays (.agg #[.int .i64 p,.int .i64 q]) (.agg #[.int .i64 p,.int .i64 q])).run P w = .ok (.agg #[.int .i64 p,.int .i64 q]) w:=by
      simp [Instr.keyThatStays,Instr.sameBits]
     simp only [execOp,hop,hu,hk',Instr.mapUpdate,Sem.run_bind,run_underlying hm.ut,Result.andThen_ok,MapKept.run_getObj_map hA,hc,hf,Option.map_some,h3,h4,Option.getD_some,hst,MapKept.run_setObj_map _ hA]
     rfl
    ·refine ⟨by simp [mset,hq,hrel.1],fun i e hi => ?_⟩
     simp only [mset,hq] at hi
     rw [Array.getElem?_modify]
     by_cases h:r.1 = i
     ·subst h
      rw [if_pos rfl,h3]
      have hlt:=(List.getElem?_eq_some_iff.1 h2).1
      rw [List.getElem?_set_self hlt] at hi
      simp at hi; subst hi
      exact ⟨_,rfl,rfl⟩
     ·rw [if_neg h]
      rw [List.getElem?_set_ne h] at hi
      exact hrel.2 i e hi
  ·rename_i ek f ex hb
   split at he
   ·rename_i p' q' s0
    obtain ⟨hone,he1⟩:=za he
    obtain ⟨hkey,he2⟩:=za he1
    simp only [Bool.and_eq_true,beq_iff_eq] at hkey
    obtain ⟨rfl,rfl⟩:=hkey
    simp only [Option.some.injEq,Prod.mk.injEq] at he2
    obtain ⟨rfl,rfl⟩:=he2
    have vy:=opL_rel ht hy
    rw [e1] at vx
    obtain ⟨b,o',n',sz,A,c,es,tk,hr,hn0,hs0,hu,hA,hrel,hnd,hmz,hent,htk,hvl⟩:=mapo_of hH hb vx
    have hk':=pair_of e2 vk
    obtain ⟨kt,et,fs,hm⟩:=zix hp
    obtain ⟨r0,hf,hr2⟩:=hm.findKey (w:=w) p q hrel
    have hc:=hm.check (w:=w) false p q
    have hlb:β < H.length:=(List.getElem?_eq_some_iff.1 hb).1
    have fin:∀ (A':Array MapEntry) (c':Nat),(execOp a.eval o).run P w = .ok .skip (setO w b (.map A' c')) → MapRel A' (mset es p q 0) → (A'.toList.map MapEntry.key).Nodup → (∀ x ∈ A.toList,∃ y ∈ A'.toList,y.key = x.key) → (∃ y ∈ A'.toList,y.key = keyV p q) →
      (∀ (P':Int → Int → Value → List Nat → Prop) (Q R:Value → Prop),R (a.eval y) → EntO P' (some (p,q)) Q A.toList tk → EntO P' (some (p,q)) R A'.toList tk) → OpOK P o a false ρ H w .junk (H.set β (.mapo ek f (some (p,q,sy.ev τ)))):=by
     intro A' c' hrun hrel' hnd' hsub hin hput
     have hst:=Step.setMap (O:=.map A' c') hr hA
     refine OpOK.skip hrun (ρ':=ρ) ⟨hst,hH.setMap hlb hr hA ?_,by simp [VRel],by simp,fun γ h _ => h,fun h => by cases h⟩
     simp only [BRel]
     refine ⟨hn0,hs0,A',c',mset es p q 0,tk,setO_eq hA,hrel',hnd',fun p1 q1 hp1 => ⟨fun h1 => ?_,fun v1 h1 => ?_⟩,?_,htk,hvl⟩
     ·exact (hmz p1 q1 fun x hx hk => by
       obtain ⟨y1,h2,h3⟩:=hsub x hx
       exact hp1 y1 h2 (h3.trans hk)).1 h1
     ·simp only [Option.some.injEq,Prod.mk.injEq] at h1
      obtain ⟨rfl,rfl,_⟩:=h1
      obtain ⟨y1,h2,h3⟩:=hin
      exact absurd h3 (hp1 y1 h2)
     ·refine hput _ (fun _ => True) _ (fun x hx => ?_) (hent.mono (fun _ _ => trivial) fun p1 q1 u1 t1 ht1 hp1 => hp1.keep (fun K x cs hc => hc.step hst) fun b' hb' => ?_)
      ·simp only [Option.some.injEq] at hx
       subst hx
       exact vy.step hst
      ·refine setO_ne ?_
       rintro rfl
       exact hH.resf _ _ _ _ _ hr (.inr (by rw [hvl _ (ht1 _ hb')]; simp))
    cases hq:mfind p q es 0 with
    | none =>
     rw [hq] at hr2
     obtain rfl:r0 = none:=by cases r0 with | none => rfl | some x => simp at hr2
     have hms:mset es p q 0 = es ++ [(p,q,0)]:=by simp [mset,hq]
     have habs:=zvQ hrel hq
     refine fin (A.push { key:=.agg #[.int .i64 p,.int .i64 q],val:=a.eval y,born:=c }) (c + 1) ?_ ?_ ?_ (fun x hx => ⟨x,by simp at hx ⊢; exact .inl hx,rfl⟩) ⟨({ key:=.agg #[.int .i64 p,.int .i64 q],val:=a.eval y,born:=c }:MapEntry),by rw [Array.toList_push]; exact List.mem_append.2 (.inr (List.mem_singleton.2 rfl)),rfl⟩ fun P' Q R hR hE => by rw [Array.toList_push]; exact hE.push rfl hR habs
     ·simp only [execOp,hop,hu,hk',Instr.mapUpdate,Sem.run_bind,run_underlying hm.ut,Result.andThen_ok,MapKept.run_getObj_map hA,hc,hf,Option.map_none,MapKept.run_setObj_map _ hA]
      rfl
     ·refine ⟨by simp [hms,hrel.1],fun i e hi => ?_⟩
      rw [hms] at hi
      rw [Array.getElem?_push]
      by_cases h:i = A.size
      ·rw [if_pos h]
       rw [List.getElem?_append_right (by rw [h,hrel.1]; omega),h,hrel.1,Nat.sub_self] at hi
       simp at hi; subst hi
       exact ⟨_,rfl,rfl⟩
      ·have hlt:i < es.length:=by
        have:=(List.getElem?_eq_some_iff.1 hi).1
        simp at this; have:=hrel.1; omega
       rw [if_neg h]
       rw [List.getElem?_append_left hlt] at hi
       exact hrel.2 i e hi
     ·rw [Array.toList_push,List.map_append,List.nodup_append]
      refine ⟨hnd,by simp,fun k1 h1 k2 h2 e => ?_⟩
      simp only [List.map_cons,List.map_nil,List.mem_singleton] at h2
      obtain ⟨x,hx,rfl⟩:=List.mem_map.1 h1
      exact habs x hx (e.trans h2)
    | some r =>
     obtain ⟨-,h2⟩:=zmm hq
     rw [Nat.sub_zero] at h2
     obtain ⟨y0,h3,h4⟩:=hrel.2 _ _ h2
     rw [hq] at hr2
     obtain ⟨u0,rfl⟩:∃ u0,r0 = some (r.1,u0):=by
      cases r0 with
      | none => simp at hr2
      | some x => simp at hr2; exact ⟨x.2,by rw [← hr2]⟩
     have hms:mset es p q 0 = es.set r.1 (p,q,0):=by simp [mset,hq]
     have hrl:r.1 < A.size:=(Array.getElem?_eq_some_iff.1 h3).1
     have h3':A.toList[r.1]? = some y0:=by rw [Array.getElem?_toList]; exact h3
     have hml:(A.modify r.1 fun e => { e with key:=.agg #[.int .i64 p,.int .i64 q],val:=a.eval y }).toList = A.toList.set r.1 { y0 with key:=.agg #[.int .i64 p,.int .i64 q],val:=a.eval y }:=by
      apply List.ext_getElem?
      intro i
      rw [Array.getElem?_toList,Array.getElem?_modify]
      by_cases h:r.1 = i
      ·subst h
       rw [if_pos rfl,h3,List.getElem?_set_self (by simpa using hrl)]; rfl
      ·rw [if_neg h,List.getElem?_set_ne h,Array.getElem?_toList]
     have hkeys:((A.toList.set r.1 { y0 with key:=.agg #[.int .i64 p,.int .i64 q],val:=a.eval y }).map MapEntry.key) = A.toList.map MapEntry.key:=by
      rw [List.map_set]
      have:(A.toList.map MapEntry.key)[r.1]? = some (keyV p q):=by rw [List.getElem?_map,h3']; simp [h4]
      rw [List.getElem?_eq_some_iff] at this
      obtain ⟨g1,g2⟩:=this
      exact (congrArg _ g2.symm).trans (List.set_getElem_self g1)
     refine fin (A.modify r.1 fun e => { e with key:=.agg #[.int .i64 p,.int .i64 q],val:=a.eval y }) c ?_ ?_ (by rw [hml,hkeys]; exact hnd) (fun x hx => ?_) ?_ fun P' Q R hR hE => by rw [hml]; exact hE.put hR hnd h3' h4 rfl rfl
     ·have hst:(Instr.keyThatStays (.agg #[.int .i64 p,.int .i64 q]) (.agg #[.int .i64 p,.int .i64 q])).run P w = .ok (.agg #[.int .i64 p,.int .i64 q]) w:=by
       simp [Instr.keyThatStays,Instr.sameBits]
      simp only [execOp,hop,hu,hk',Instr.mapUpdate,Sem.run_bind,run_underlying hm.ut,Result.andThen_ok,MapKept.run_getObj_map hA,hc,hf,Option.map_some,h3,h4,Option.getD_some,hst,MapKept.run_setObj_map _ hA]
      rfl
     ·refine ⟨by simp [hms,hrel.1],fun i e hi => ?_⟩
      rw [hms] at hi
      rw [Array.getElem?_modify]
      by_cases h:r.1 = i
      ·subst h
       rw [if_pos rfl,h3]
       have hlt:=(List.getElem?_eq_some_iff.1 h2).1
       rw [List.getElem?_set_self hlt] at hi
       simp at hi; subst hi
       exact ⟨_,rfl,rfl⟩
      ·rw [if_neg h]
       rw [List.getElem?_set_ne h] at hi
       exact hrel.2 i e hi
     ·have hx':x.key ∈ (A.modify r.1 fun e => { e with key:=.agg #[.int .i64 p,.int .i64 q],val:=a.eval y }).toList.map MapEntry.key:=by
       rw [hml,hkeys]; exact List.mem_map.2 ⟨x,hx,rfl⟩
      obtain ⟨z,g1,g2⟩:=List.mem_map.1 hx'
      exact ⟨z,g1,g2⟩
     ·refine ⟨{ y0 with key:=.agg #[.int .i64 p,.int .i64 q],val:=a.eval y },?_,rfl⟩
      rw [hml]
      exact List.mem_iff_getElem?.2 ⟨r.1,List.getElem?_set_self (by simpa using hrl)⟩
   ·simp at he
  ·simp at he
 ·simp at he
end
end Go.Proofs.YtljojacnjjgceaaGreat.Den
namespace Go.Proofs.YtljojacnjjgceaaGreat.Den
open Go Go.RowKit
section
variable {P:Program} {o:Oper} {a:Act} {m:Bool} {ρ:Map} {H H':Heap} {w w':World} {τ:Env} {N:Nat} {T:Tab} {v:SV}
theorem snd_ldx {t:TypeId} {x:Operand} {s:S} {i:TypeInfo} {ag:Bool} (hop:o.op = .load t x) (hi:P.info? t = some i) (ha:isAggL P t = some ag) (hs:opL x = some s) (ht:TRel ρ w τ a N) (hH:HRel ρ H w)
  (hun:∀ γ,H.length ≤ γ → ρ γ = .unborn) (he:ldxI H i.size ag (s.ev τ) (fun v H => some (v,H)) = some (v,H')):OpOK P o a false ρ H w v H':=by
 have hx:=opL_rel ht hs
 unfold ldxI at he
 split at he
 ·rename_i β k j hv
  split at he
  ·rename_i d K xs ex hb
   rw [hv] at hx
   obtain ⟨b,o',n,sz,hr,hu⟩:=zim hH hb (by simp) hx
   have hlt:β < H.length:=(List.getElem?_eq_some_iff.1 hb).1
   have opened:∀ {ρ1:Map} {H1:Heap} {cs:List SV},HRel ρ1 H1 w → H1[β]? = some (.tree d K xs (some (k,cs))) → ρ1 β = .at b o' n sz → (ag = false → cs[j]? = some v) → (ag = true → j + i.size ≤ cs.length ∧ v = .agg ((cs.drop j).take i.size)) →
     ∃ u,(execOp a.eval o).run P w = .ok (.value u) w ∧ VRel ρ1 w v u:=fun h1 h2 h3 h4 h5 => by
    obtain ⟨_,_,C,tC,hC,_,hexl,hpc⟩:=tree_of h1 h2 h3
    obtain ⟨es,h6,_,h7⟩:=hpc k (hexl _ rfl).1
    rcases h7 with ⟨p,h7,_,h8⟩ | ⟨h7,_⟩
    ·cases h7
     obtain ⟨u,h9,h10⟩:=ld_core hi ha h8 h6 h4 h5
     exact ⟨u,by rw [zd] at h9; simp [execOp,hop,hu,zvt,h9],h10⟩
    ·exact absurd rfl (h7 _ rfl)
   split at he
   ·obtain ⟨hk,he⟩:=za he
    obtain ⟨v',hk',h1,h2⟩:=zay he
    simp only [Option.some.injEq,Prod.mk.injEq] at hk'
    obtain ⟨rfl,rfl⟩:=hk'
    obtain ⟨ρ1,g1,g2,g3,g4⟩:=zpF hH hun hb hr (of_decide_eq_true hk)
    obtain ⟨u,h3,h4⟩:=opened g1 (by rw [List.getElem?_append_left (by simpa using hlt)]; simp [hlt]) (by rw [g3 β hlt]; exact hr) h1 h2
    exact OpOK.value h3 ⟨g2,g1,h4,by simp,fun γ _ h => g4 γ (by simpa using h),by simp⟩
   ·rename_i k' cs
    obtain ⟨hk,he⟩:=za he
    have hk:=of_decide_eq_true hk
    subst hk
    rw [decide_eq_true rfl,tst,cond_true] at he
    obtain ⟨v',hk',h1,h2⟩:=zay he
    simp only [Option.some.injEq,Prod.mk.injEq] at hk'
    obtain ⟨rfl,rfl⟩:=hk'
    obtain ⟨u,h3,h4⟩:=opened hH hb hr h1 h2
    exact OpOK.value h3 (Good.same hH h4)
  ·exact zpD hop hi ha hs ht hH he
 ·exact zpD hop hi ha hs ht hH he
theorem zvR {K:Kd} {d:Nat} {xs:List K.T} {u:Value} {ps:List (Nat × List Nat)} (h:TreeF w (Free ρ w) (.list K) (d + 1) xs [u] ps) (hnd:(flatF ps).Nodup) :
  ∃ (as:Option Addr) (c:Nat) (olds:List Value) (t:List Nat),u = .slice as xs.length c ∧ xs.length ≤ c ∧ olds.length = xs.length * K.sz ∧ (0 < xs.length → ∃ ad,as = some ad ∧ ∀ (j:Nat) (u:Value),olds[j]? = some u → w.cell? (ad.add j) = some u) ∧
   SeqL (TreeC w (Free ρ w) K d) xs olds t ∧ t.Nodup ∧ (∀ b ∈ t,b ∈ flatF ps) ∧ ((xs = [] ∧ c = 0) ∨ ∃ b o,b ∈ flatF ps ∧ b ∉ t ∧ as = some ⟨b,o,none⟩ ∧ Room w b (o + c * K.sz)):=by
 simp only [TreeF] at h
 rcases h with ⟨a,h1,rfl,rfl⟩ | ⟨b,o,c,C,tC,us,t',rfl,h4,h5,h6,h7,h8,h9,h10⟩
 ·simp only [List.cons.injEq,and_true] at h1
  exact ⟨a,0,[],[],h1,Nat.le_refl _,by simp,fun h => by simp at h,by simp [SeqL],List.nodup_nil,by simp,.inl ⟨rfl,rfl⟩⟩
 ·simp only [List.cons.injEq,and_true] at h4
  simp [flatF] at hnd
  exact ⟨_,c,us,t',h4,h5,h8,fun _ => ⟨_,rfl,fun j u hu => by rw [zd,zn h6]; exact h9 j u hu⟩,h10,hnd.2,fun b hb => by simp [flatF,hb],.inr ⟨b,o,by simp [flatF],hnd.1,rfl,C,tC,h6,h7⟩⟩
theorem zpS {B:Nat → Prop}:∀ {K:Kd} {d:Nat} {x:K.T} {us:List Value} {tk:List Nat},TreeC w B K d x us tk → ∀ u ∈ us,u.oneCell' = true
 | .int _,_,_,_,_,h => by rw [h.1]; simp [Value.oneCell']
 | .bool,_,_,_,_,h => by rw [h.1]; simp [Value.oneCell']
 | .unit,_,_,_,_,h => by rw [h.1]; simp
 | .pair a b,d,x,us,tk,h => by
  simp only [TreeC] at h
  obtain ⟨c1,c2,t1,t2,rfl,rfl,h3,h4⟩:=h
  intro u hu
  rcases List.mem_append.1 hu with hu | hu
  ·exact zpS h3 u hu
  ·exact zpS h4 u hu
 | .list e,0,xs,us,tk,h => zmc h.1
 | .list e,d + 1,xs,us,tk,h => by
  simp only [TreeC] at h
  rcases h with ⟨a,rfl,_⟩ | ⟨b,o,c,C,tC,us,t',rfl,rfl,_⟩ <;> simp [Value.oneCell']
theorem seq_one {B:Nat → Prop} {K:Kd} {d:Nat}:∀ {xs:List K.T} {us:List Value} {tk:List Nat},SeqL (TreeC w B K d) xs us tk → ∀ u ∈ us,u.oneCell' = true
 | [],us,tk,h => by simp only [SeqL] at h; simp [h.1]
 | x :: xs,us,tk,h => by
  simp only [SeqL] at h
  obtain ⟨c,us',t1,t2,rfl,rfl,h3,h4⟩:=h
  intro u hu
  rcases List.mem_append.1 hu with hu | hu
  ·exact zpS h3 u hu
  ·exact seq_one h4 u hu
theorem zGW {c:Call} {t e:TypeId} {s x:Operand} {ss sx:S} {K:Kd} {d sz by_:Nat} {zs:List SV} (hop:o.op = .call c) (hc:c.callee = .builtin .append) (hargs:c.args = #[s,x]) (hty:c.argTypes = #[t,t])
  (hu:P.underlying t = some (.slice e)) (hz:tinfo P e = some (sz,zs,by_)) (hb:by_ ≤ 32768) (hs:opL s = some ss) (hx:opL x = some sx) (ht:TRel ρ w τ a N) (hH:HRel ρ H w) (hun:∀ γ,H.length ≤ γ → ρ γ = .unborn)
  (he:apptI H d K sz (ss.ev τ) (sx.ev τ) (fun v H => some (v,H)) = some (v,H')):OpOK P o a false ρ H w v H':=by
 have vs:=opL_rel ht hs
 have vx:=opL_rel ht hx
 obtain ⟨i,z,hi,hzz,rfl,rfl,hsv,hzl⟩:=zal hz
 have hzs:z.cells.size = i.size:=by
  have:=(svsOf_rel (ρ:=ρ) (w:=w) hsv).length
  simp only [Array.length_toList] at this; omega
 have fin:∀ {u:Value} {w':World} {ρ':Map},(Builtin.append_ #[t,t] o.type #[a.eval s,a.eval x]).run P w = .ok u w' → Good false ρ H w v H' u w' ρ' → OpOK P o a false ρ H w v H':=by
  intro u w' ρ' hr hg
  refine OpOK.value ?_ hg
  simp [execOp,hop,resolve,hc,hargs,hty,invoke,builtin,hr]
 unfold apptI at he
 split at he
 ·rename_i a1 b1 h1 h2
  split at he
  ·rename_i hcond
   obtain ⟨hKs,hs0,hnd⟩:=hcond
   obtain ⟨hlim,he⟩:=za he
   have hlim:=of_decide_eq_true hlim
   simp only [Option.some.injEq,Prod.mk.injEq] at he
   obtain ⟨rfl,rfl⟩:=he
   obtain ⟨xs,i1⟩:=a1
   obtain ⟨ys,i2⟩:=b1
   simp only at hlim ⊢
   have hnd':=zeH hnd
   obtain ⟨n1,n2,n3⟩:=List.nodup_append.1 hnd'
   obtain ⟨p1,f1,f2,f3⟩:=zam hH h1 (VRels.single vs) n1
   obtain ⟨p2,k1,k2,k3⟩:=zam hH h2 (VRels.single vx) n2
   obtain ⟨as,cs,olds,t1,e1,hcs,ho1,ho2,ho3,ho4,ho5,ho6⟩:=zvR f1 f2
   obtain ⟨ax,cx,news,t2,e2,hcx,hn1,hn2,hn3,hn4,hn5,hn6⟩:=zvR k1 k2
   have hap:∀ b ∈ flatF p1,∀ b' ∈ flatF p2,b ≠ b':=fun b h b' h' e => by
    subst e
    exact zo hH (fun γ g1 g2 => n3 γ g1 γ g2 rfl) (f3 b h) (k3 b h')
   have hT:∀ c ∈ t1 ++ t2,Tok ρ (i1 ++ i2) c:=fun c h => by
    rcases List.mem_append.1 h with h | h
    ·exact (f3 c (ho5 c h)).sub fun γ h => List.mem_append.2 (.inl h)
    ·exact (k3 c (hn5 c h)).sub fun γ h => List.mem_append.2 (.inr h)
   have hTn:(t1 ++ t2).Nodup:=List.nodup_append.2 ⟨ho4,hn4,fun b h b' h' => hap b (ho5 b h) b' (hn5 b' h')⟩
   have hseq:=ho3.append hn3
   have hol:(olds ++ news).length = (xs ++ ys).length * K.sz:=by simp [ho1,hn1,Nat.add_mul]
   have key:∀ {ρ':Map} {w':World} {b o1:Nat} {C:Array Value} {tC:TypeId},Step ρ w ρ' w' → (∀ c ∈ t1 ++ t2,w'.heap[c]? = w.heap[c]?) → (∀ c ∈ t1 ++ t2,ρ'.vl c = some b) → w'.heap[b]? = some (.cells C tC (0,0)) → o1 + (xs.length + ys.length) * K.sz ≤ C.size →
     (∀ (j:Nat) (u:Value),(olds ++ news)[j]? = some u → C[o1 + j]? = some u) → BRel ρ' w' b o1 (xs.length + ys.length) K.sz (childB d K (xs ++ ys)):=fun hst hk hv hC hle hcell => by
    have:=zis (d:=d) (xs:=xs ++ ys) (us:=olds ++ news) (t':=t1 ++ t2) hC (by simpa using hle) hol hcell (hseq.mono fun _ _ _ _ ht h => h.keep (fun K x cs hc => hc.step hst) fun b' hb' => hk b' (ht b' hb')) hTn hv
    simpa using this
   rw [e1,e2] at fin
   by_cases hfit:xs.length + ys.length ≤ cs
   ·rcases ho6 with ⟨rfl,rfl⟩ | ⟨b,o1,hb1,hb2,rfl,C,tC,hC,hroom⟩
    ·obtain rfl:ys = []:=List.eq_nil_of_length_eq_zero (by simpa using hfit)
     obtain ⟨ρ',hg⟩:=zvx (ids:=i1 ++ i2) (x:=childB d K ([] ++ [])) (u:=.slice as 0 0) hH (hun _ (Nat.le_refl _)) zmf ⟨_,rfl⟩
     exact fin (zvG hu hi) hg
    ·have hrun:=zvF (P:=P) (ty:=o.type) (cx:=cx) hu hi hC (by rw [← hKs]; exact hroom) hfit (by rw [hn1,hKs]) hn2 (seq_one hn3)
     have hmul:(xs.length + ys.length) * K.sz ≤ cs * K.sz:=Nat.mul_le_mul_right _ hfit
     have hmul':=hmul
     rw [Nat.add_mul] at hmul'
     rw [← hKs] at hrun
     have hlast:(C.toList.take (o1 + xs.length * K.sz) ++ news ++ C.toList.drop (o1 + xs.length * K.sz + news.length)).toArray.size = C.size:=by
      simp; omega
     have hne:∀ c,c ≠ b → (w.setRow b (C.toList.take (o1 + xs.length * K.sz) ++ news ++ C.toList.drop (o1 + xs.length * K.sz + news.length)).toArray).heap[c]? = w.heap[c]?:=fun c h => by
      simp only [World.setRow]; rw [Array.getElem?_modify,if_neg (Ne.symm h)]
     have hbT:b ∉ t1 ++ t2:=fun h => by
      rcases List.mem_append.1 h with h | h
      ·exact hb2 h
      ·exact hap b hb1 b (hn5 b h) rfl
     obtain ⟨ρ',hg⟩:=zpG (w':=w.setRow b _) (ids:=i1 ++ i2) (T:=t1 ++ t2) (b:=b) (o:=o1) (n:=xs.length + ys.length) (sz:=K.sz) (x:=childB d K (xs ++ ys)) (u:=.slice (some ⟨b,o1,none⟩) (xs.length + ys.length) cs) hH hun hT hbT
      (.inl ((f3 b hb1).sub fun γ h => List.mem_append.2 (.inl h))) rfl rfl rfl (by simp [World.setRow]) (fun c _ h => hne c h) (by have:=((f3 b hb1).nr hH).2; simpa [World.setRow] using this)
      (fun c C2 t2 fr h2 => by
       by_cases e:c = b
       ·subst e
        rw [hC] at h2; simp at h2
        obtain ⟨rfl,rfl,rfl⟩:=h2
        exact ⟨_,setRow_heap w c C _ tC _ hC,hlast⟩
       ·exact ⟨C2,by rw [hne c e]; exact h2,rfl⟩)
      fun ρ' g1 g2 g3 => ⟨key g2 (fun c hc => hne c fun e => by subst e; exact hbT hc) g1 (setRow_heap w b C _ tC _ hC) (by rw [hlast]; omega) fun j u hj => by
       rw [List.getElem?_toArray,zaS _ _ _ _ (by simp; omega)]
       rw [List.getElem?_append] at hj
       split at hj
       ·rename_i hjl
        rw [if_neg (by omega),Array.getElem?_toList]
        have hx0:0 < xs.length:=by
         rcases Nat.eq_zero_or_pos xs.length with h | h
         ·rw [h] at ho1; omega
         ·exact h
        obtain ⟨ad,h5,h6⟩:=ho2 hx0
        simp at h5; subst h5
        have:=h6 j u hj
        rw [zd,zn hC] at this; exact this
       ·rename_i hjl
        have:=(List.getElem?_eq_some_iff.1 hj).1
        rw [if_pos (by omega),← hj]; congr 1; omega,by
       simp only [VRel,g3]
       exact ⟨cs,hfit,rfl,_,tC,setRow_heap w b C _ tC _ hC,by rw [hlast]; exact hroom⟩⟩
     exact fin hrun hg
   ·obtain ⟨cap,C,hcap,hCs,hCc,hrun⟩:=zvH (P:=P) (ty:=o.type) (cx:=cx) (c:=cs) hu hi hzz hzs (by rw [ho1,hKs]) ho2 (by rw [hn1,hKs]) hn2 (show cs < xs.length + ys.length by omega) hlim hb
    have hnew:(w.drew.alloc (.cells C e (0,0))).heap[w.heap.size]? = some (.cells C e (0,0)):=heap_alloc_new w.drew _
    have hmul:(xs.length + ys.length) * i.size ≤ cap * i.size:=Nat.mul_le_mul_right _ hcap
    have hlt2:∀ c ∈ t1 ++ t2,c < w.heap.size:=fun c hc => ((hT c hc).nr hH).2
    obtain ⟨ρ',hg⟩:=zpG (w':=w.drew.alloc (.cells C e (0,0))) (ids:=i1 ++ i2) (T:=t1 ++ t2) (b:=w.heap.size) (o:=0) (n:=xs.length + ys.length) (sz:=K.sz) (x:=childB d K (xs ++ ys)) (u:=.slice (some ⟨w.heap.size,0,none⟩) (xs.length + ys.length) cap) hH hun hT
     (fun h => by have:=hlt2 _ h; omega) (.inr rfl) rfl rfl rfl (by simp) (fun c h _ => zeD h) (by simp)
     (fun c C2 t2 fr h2 => ⟨C2,by rw [zeD (Array.getElem?_eq_some_iff.1 h2).1]; exact h2,rfl⟩)
     fun ρ' g1 g2 g3 => ⟨key g2 (fun c hc => zeD (hlt2 c hc)) g1 hnew (by rw [hKs]; omega) (fun j u hj => by rw [Nat.zero_add]; exact hCc j u hj),by
      simp only [VRel,g3]
      exact ⟨cap,hcap,rfl,C,e,hnew,by rw [hKs]; omega⟩⟩
    exact fin hrun hg
  ·simp at he
 ·simp at he
end
end Go.Proofs.YtljojacnjjgceaaGreat.Den
namespace Go.Proofs.YtljojacnjjgceaaGreat.Den
open Go Go.RowKit
def Unb (ρ:Map) (H H':Heap):Prop:=∀ β,H.length ≤ β → β < H'.length → ρ β = .unborn
def TESound (P:Program) (f:FuncId) (te:TE):Prop :=
 ∀ (ρ:Map) (H:Heap) (w:World) (args:List SV) (vs:List Value) (x:te.X) (y:te.Y) (v:SV) (H':Heap),HRel ρ H w → VRels ρ w args vs → Unb ρ H H' →
  te.view args H = some x → te.fn x = some y → te.put x y args H = some (v,H') →
  Calls P f vs.toArray w fun e w' => ∃ u ρ',e = .returned u ∧ Good te.mono ρ H w v H' u w' ρ'
structure ISound (P:Program) (f:FuncId) (ie:IE):Prop where
 snd:∀ (ρ:Map) (H:Heap) (w:World) (args:List SV) (vs:List Value) (v:SV) (H':Heap),HRel ρ H w → (∀ β,H.length ≤ β → ρ β = .unborn) → VRels ρ w args vs →
  ie.go (SV × Heap) args H (fun v H => some (v,H)) = some (v,H') → Calls P f vs.toArray w fun e w' => ∃ u ρ',e = .returned u ∧ Good false ρ H w v H' u w' ρ'
 fn:∃ fn,P.funcs[f]? = some fn ∧ fn.name ≠ "runtime.NumGoroutine" ∧ fn.body.isSome = true
structure TabOK (P:Program) (T:Tab):Prop where
 inl:∀ f ie,T.inl f = some ie → ISound P f ie
 te:∀ f te,te ∈ T.te f → TESound P f te
 fn:∀ f te,te ∈ T.te f → ∃ fn,P.funcs[f]? = some fn ∧ fn.name ≠ "runtime.NumGoroutine" ∧ fn.body.isSome = true
 ext:∀ f te,te ∈ T.te f → te.mono = true → ∀ x y args H v H',te.put x y args H = some (v,H') → ∃ Δ,H' = H ++ Δ
 tch:∀ f te,te ∈ T.te f → ∀ x y args H v H',te.view args H = some x → te.put x y args H = some (v,H') → H.length ≤ H'.length ∧ ∀ γ,γ < H.length → γ ∉ te.tc args H → H'[γ]? = H[γ]?
 meth:∀ t m f,T.meth t m = some f → ∀ v args w,(callMethod (.iface t v) m args).run P w = .ok (.enter f (#[v] ++ args)) w
section
variable {P:Program} {o:Oper} {a:Act} {m:Bool} {ρ:Map} {H H':Heap} {w w':World} {τ:Env} {N:Nat} {T:Tab} {v:SV}
theorem OpOK.call {f:FuncId} {args:Array Value} (hr:(execOp a.eval o).run P w = .ok (.enter f args) w)
  (hc:Calls P f args w fun e w' => ∃ u ρ',e = .returned u ∧ Good m ρ H w v H' u w' ρ'):OpOK P o a m ρ H w v H':=by
 intro K Q hK
 unfold Oper.wp
 rw [hr]
 simp only [Oper.upon]
 refine Calls.mono hc fun e w'' he => ?_
 obtain ⟨u,ρ',rfl,hg⟩:=he
 exact hK u w'' ρ' hg
theorem zpT {f:FuncId} {args:List SV} (h:callI T f args H (fun v H => some (v,H)) = some (v,H')) :
  ∃ te x y,te ∈ T.te f ∧ te.view args H = some x ∧ te.fn x = some y ∧ te.put x y args H = some (v,H'):=by
 unfold callI at h
 generalize T.te f = l at h
 induction l with
 | nil => simp [callL] at h
 | cons te r ih =>
  simp only [callL] at h
  split at h
  ·obtain ⟨te',x,y,h1,h2⟩:=ih h
   exact ⟨te',x,y,List.mem_cons_of_mem _ h1,h2⟩
  ·rename_i x hx
   rw [Option.bind_eq_some_iff] at h
   obtain ⟨y,hy,h⟩:=h
   split at h
   ·rename_i v2 H2 hp
    simp at h
    obtain ⟨rfl,rfl⟩:=h
    exact ⟨te,x,y,List.mem_cons_self ..,hx,hy,hp⟩
   ·simp at h
theorem zGX {R:Type} {r:R} {f:FuncId} {args:List SV} {k:SV → Heap → Option R} (h:callI T f args H k = some r) :
  ∃ te x y v H',te ∈ T.te f ∧ te.view args H = some x ∧ te.fn x = some y ∧ te.put x y args H = some (v,H') ∧ k v H' = some r:=by
 unfold callI at h
 generalize T.te f = l at h
 induction l with
 | nil => simp [callL] at h
 | cons te rs ih =>
  simp only [callL] at h
  split at h
  ·obtain ⟨te',x,y,v,H',h1,h2⟩:=ih h
   exact ⟨te',x,y,v,H',List.mem_cons_of_mem _ h1,h2⟩
  ·rename_i x hx
   rw [Option.bind_eq_some_iff] at h
   obtain ⟨y,hy,h⟩:=h
   split at h
   ·rename_i v2 H2 hp
    exact ⟨te,x,y,v2,H2,List.mem_cons_self ..,hx,hy,hp,h⟩
   ·simp at h
mutual
theorem frzV_len {R:Type} {H1:Heap} {v:R}:∀ (s:SV) {H:Heap} {k:SV → Heap → Option (R × Heap)},frzV s H k = some (v,H1) → (∀ v' H',k v' H' = some (v,H1) → H1.length = H'.length) → H1.length = H.length
 | .own β,H,k,h,hk => by
  simp only [frzV] at h
  split at h
  ·rw [hk _ _ h]; simp [zc]
  ·split at h
   ·rw [hk _ _ h]; simp [zc]
   ·exact hk _ _ h
  ·exact hk _ _ h
 | .agg cs,H,k,h,hk => by simp only [frzV] at h; exact frzL_len cs h fun l H' h' => hk _ _ h'
 | .tup cs,H,k,h,hk => by simp only [frzV] at h; exact frzL_len cs h fun l H' h' => hk _ _ h'
 | .mapp _,H,k,h,hk | .nilm,H,k,h,hk | .junk,H,k,h,hk | .int _ _,H,k,h,hk | .bool _,H,k,h,hk | .nilp,H,k,h,hk | .ptr _ _,H,k,h,hk | .aptr _ _ _,H,k,h,hk | .eptr _ _ _,H,k,h,hk | .nils,H,k,h,hk | .sub _ _ _,H,k,h,hk | .es _ _,H,k,h,hk | .arrv _ _,H,k,h,hk | .fn _ _ _,H,k,h,hk | .nilf,H,k,h,hk | .iface _ _,H,k,h,hk | .nili,H,k,h,hk => by
  simp only [frzV] at h; exact hk _ _ h
theorem frzL_len {R:Type} {H1:Heap} {v:R}:∀ (cs:List SV) {H:Heap} {k:List SV → Heap → Option (R × Heap)},frzL cs H k = some (v,H1) → (∀ v' H',k v' H' = some (v,H1) → H1.length = H'.length) → H1.length = H.length
 | [],H,k,h,hk => by simp only [frzL] at h; exact hk _ _ h
 | c :: cs,H,k,h,hk => by
  simp only [frzL] at h
  exact frzV_len c h fun v' H' h' => frzL_len cs h' fun l H2 h2 => hk _ _ h2
end
theorem zvS {f:FuncId} {as:List S} {te:TE} (h:te ∈ T.te f) (hm:(I.call f as).mono T = true):te.mono = true:=by
 simp only [I.mono] at hm
 split at hm
 ·rename_i te' r e
  rw [e] at h
  simp only [Bool.and_eq_true,List.all_eq_true] at hm
  rcases List.mem_cons.1 h with rfl | h
  ·exact hm.1
  ·exact hm.2 _ h
 ·cases hm
theorem zvT {f:FuncId} {fn:Func} {args:Array Value} (hf:P.funcs[f]? = some fn) (hn:fn.name ≠ "runtime.NumGoroutine") (hb:fn.body.isSome = true):(callFunc f args).run P w = .ok (.enter f args) w:=by
 have hb':fn.body.isNone = false:=by cases hh:fn.body <;> simp [hh] at hb ⊢
 have hne:fn.body ≠ none:=fun h => by rw [h] at hb; cases hb
 simp only [callFunc,Sem.run_bind,run_program,Result.andThen_ok,hf,beq_iff_eq,hn,if_false,hb',Bool.false_eq_true]
 rfl
theorem zpU {f:FuncId} {as:List SV} {vs:List Value} (hT:TabOK P T) (hH:HRel ρ H w) (hun:Unb ρ H H') (hv:VRels ρ w as vs) (hm:∀ te,te ∈ T.te f → m = true → te.mono = true)
  (he:callI T f as H (fun v H => some (v,H)) = some (v,H')) (hr:∀ fn,P.funcs[f]? = some fn → fn.name ≠ "runtime.NumGoroutine" → fn.body.isSome = true → (execOp a.eval o).run P w = .ok (.enter f vs.toArray) w):OpOK P o a m ρ H w v H':=by
 obtain ⟨te,x,y,h1,h2,h3,h4⟩:=zpT he
 obtain ⟨fn,h5,h6,h7⟩:=hT.fn f te h1
 refine OpOK.call (hr fn h5 h6 h7) (Calls.mono (hT.te f te h1 ρ H w as vs x y v H' hH hv hun h2 h3 h4) fun e w'' h => ?_)
 obtain ⟨u,ρ',e1,hg⟩:=h
 refine ⟨u,ρ',e1,?_⟩
 cases m with
 | true => exact (hm te h1 rfl) ▸ hg
 | false => exact ⟨hg.step,hg.hrel,hg.vrel,hg.len,hg.unb,by simp⟩
theorem zGY {f:FuncId} {as:List SV} {vs:List Value} (hT:TabOK P T) (hH:HRel ρ H w) (hun:Unb ρ H H') (hv:VRels ρ w as vs)
  (he:frzL as H (fun as H => callI T f as H (fun v H => frzV v H (fun v H => some (v,H)))) = some (v,H')) (hr:∀ fn,P.funcs[f]? = some fn → fn.name ≠ "runtime.NumGoroutine" → fn.body.isSome = true → (execOp a.eval o).run P w = .ok (.enter f vs.toArray) w):OpOK P o a false ρ H w v H':=by
 obtain ⟨as0,H0,ρ0,he,hH0,hv0,hst0,hlen0,hub0⟩:=frzL_sound as hH hv he
 obtain ⟨te,x,y,v1,H1,h1,h2,h3,h4,he2⟩:=zGX he
 have hlen:H'.length = H1.length:=by
  have key:∀ (v1:SV) (H1:Heap),frzV v1 H1 (fun v H => some (v,H)) = some (v,H') → H'.length = H1.length:=fun v1 H1 h => frzV_len v1 h fun v' H' h' => by simp only [Option.some.injEq,Prod.mk.injEq] at h'; rw [h'.2]
  exact key v1 H1 he2
 obtain ⟨fn,h5,h6,h7⟩:=hT.fn f te h1
 refine OpOK.call (hr fn h5 h6 h7) (Calls.mono (hT.te f te h1 ρ0 H0 w as0 vs x y v1 H1 hH0 hv0 (fun β g1 g2 => hub0 β (hun β (by rw [← hlen0]; exact g1) (by rw [hlen]; exact g2))) h2 h3 h4) fun e w'' h => ?_)
 obtain ⟨u,ρ',e1,hg⟩:=h
 obtain ⟨v2,H2,ρ2,g1,g2,g3,g4,g5,g6⟩:=frzV_sound v1 hg.hrel hg.vrel he2
 simp only [Option.some.injEq,Prod.mk.injEq] at g1
 obtain ⟨rfl,rfl⟩:=g1
 exact ⟨u,ρ2,e1,(hst0.trans hg.step).trans g4,g2,g3,by rw [g5,← hlen0]; exact hg.len,fun β k1 k2 => g6 β (hg.unb β (hub0 β k1) (by rw [← g5]; exact k2)),by simp⟩
theorem zGZ {xs:Array Operand} {ss:List S} (h:opsL xs.toList = some ss) (ht:TRel ρ w τ a N):VRels ρ w (ss.map (S.ev τ)) (xs.map a.eval).toList:=by
 have:=zme ht h
 simpa using this
end
section
variable {P:Program} {o:Oper} {a:Act} {m:Bool} {ρ:Map} {H H':Heap} {w w':World} {τ:Env} {N:Nat} {T:Tab} {v:SV} {frz:Bool} {i:I}
theorem arr_one {α:Type} {xs:Array α} {x:α} (h:xs.toList = [x]):xs = #[x]:=by
 apply Array.ext'; simpa using h
theorem arr_two {α:Type} {xs:Array α} {x y:α} (h:xs.toList = [x,y]):xs = #[x,y]:=by
 apply Array.ext'; simpa using h
theorem zvU {xs:Array Operand} {s:S} (h:opsL xs.toList = some [s]):∃ x,xs = #[x] ∧ opL x = some s:=by
 have hl:=zml h
 match e:xs.toList with
 | [x] =>
  rw [e] at h
  refine ⟨x,arr_one e,?_⟩
  simp only [opsL] at h
  split at h
  ·rename_i p q h1 h2; simp at h; rw [h1,h.1]
  ·simp at h
 | [] => rw [e] at hl; simp at hl
 | _ :: _ :: _ => rw [e] at hl; simp at hl
theorem ziy {xs:Array Operand} {s t:S} (h:opsL xs.toList = some [s,t]):∃ x y,xs = #[x,y] ∧ opL x = some s ∧ opL y = some t:=by
 have hl:=zml h
 match e:xs.toList with
 | [x,y] =>
  rw [e] at h
  refine ⟨x,y,arr_two e,?_⟩
  simp only [opsL] at h
  split at h
  ·rename_i p q h1 h2
   split at h2
   ·rename_i p2 q2 h3 h4
    simp at h h2
    obtain ⟨rfl,rfl⟩:=h
    simp at h2
    exact ⟨h1,by rw [h3,h2.1]⟩
   ·simp at h2
  ·simp at h
 | [] => rw [e] at hl; simp at hl
 | [_] => rw [e] at hl; simp at hl
 | _ :: _ :: _ :: _ => rw [e] at hl; simp at hl
theorem zpV {rs:List Nat} {x:Blk}:(kill rs H ++ [x]).length = H.length + 1:=by simp [zc]
theorem app_len {K:Option Kd} {sz:Nat} {t:TypeId} {s x:SV} (h:appI H K sz t s x (fun v H => some (v,H)) = some (v,H')):H.length < H'.length:=by
 have fin:∀ {rs:List Nat} {y:Blk},H' = kill rs H ++ [y] → H.length < H'.length:=fun h => by rw [h,zpV]; omega
 unfold appI at h
 have ⟨_,h⟩:=(zg h).resolve_right (by simp)
 unfold appB at h
 split at h
 ·split at h
  ·split at h
   ·obtain ⟨_,h⟩:=za h
    simp only [Option.some.injEq,Prod.mk.injEq] at h
    exact fin h.2.symm
   ·simp at h
  ·split at h
   ·split at h
    ·simp only [Option.some.injEq,Prod.mk.injEq] at h
     exact fin h.2.symm
    ·simp at h
   ·simp at h
 ·split at h
  ·split at h
   ·simp only [Option.some.injEq,Prod.mk.injEq] at h
    exact fin h.2.symm
   ·simp at h
  ·simp at h
theorem box_len {t:TypeId} {x:S} (h:runI T (.box t x) τ H (fun v H => some (v,H)) = some (v,H')):H.length < H'.length:=by
 simp only [runI] at h
 split at h
 ·simp at h; rw [← h.2]; simp
 ·split at h
  ·simp at h; rw [← h.2]; simp
  ·simp at h
theorem mk_len {K:Option Kd} {zs:List SV} {t:TypeId} {n c:S} (h:runI T (.mk K zs t n (some c)) τ H (fun v H => some (v,H)) = some (v,H')):H.length < H'.length:=by
 have fin:∀ {y:Blk},H' = H ++ [y] → H.length < H'.length:=fun h => by rw [h]; simp
 simp only [runI,mkI,Option.map_some] at h
 split at h
 ·split at h
  ·rename_i e; simp at e
  ·split at h
   ·obtain ⟨_,h⟩:=za h
    obtain ⟨_,h⟩:=za h
    obtain ⟨_,h⟩:=za h
    simp only [Option.some.injEq,Prod.mk.injEq] at h
    exact fin h.2.symm
   ·split at h
    ·split at h
     ·simp only [Option.some.injEq,Prod.mk.injEq] at h
      exact fin h.2.symm
     ·simp at h
    ·simp at h
  ·simp at h
 ·simp at h
theorem zG0 {K:Kd} {t:TypeId} {s n:S} (h:runI T (.appz K t s n) τ H (fun v H => some (v,H)) = some (v,H')):H.length < H'.length:=by
 simp only [runI] at h
 split at h
 ·obtain ⟨_,h⟩:=za h
  obtain ⟨_,h⟩:=za h
  simp only [Option.some.injEq,Prod.mk.injEq] at h
  rw [← h.2]; simp
 ·simp at h
theorem iaS_run {frz:Bool} {n:Nat} {x y:S} (h:runI T (iaS frz n x y) τ H (fun v H => some (v,H)) = some (v,H')):runI T (.ia n x y) τ H (fun v H => some (v,H)) = some (v,H'):=by
 unfold iaS at h
 split at h
 ·split at h
  ·simp only [runI] at h ⊢; exact h
  ·exact h
 ·exact h
theorem ldS_run {frz:Bool} {n:Nat} {ag:Bool} {x:S} (h:runI T (ldS frz n ag x) τ H (fun v H => some (v,H)) = some (v,H')):runI T (.ld n ag x) τ H (fun v H => some (v,H)) = some (v,H'):=by
 unfold ldS at h
 split at h
 ·split at h
  ·simp only [runI] at h ⊢; exact h
  ·exact h
 ·exact h
theorem zvV (hT:TabOK P T) (hl:lightOp P frz o = some i) (hm:m = true → i.mono T = true) (ht:TRel ρ w τ a N) (hH:HRel ρ H w) (hun:Unb ρ H H') (hux:m = false → ∀ β,H.length ≤ β → ρ β = .unborn)
  (he:runI T i τ H (fun v H => some (v,H)) = some (v,H')):OpOK P o a m ρ H w v H':=by
 have unb1:∀ {x:Blk},H' = H ++ [x] → ρ H.length = .unborn:=fun h => hun _ (Nat.le_refl _) (by rw [h]; simp)
 have nof:m = true → False → m = false:=fun _ h => h.elim
 have unb:H.length < H'.length → ρ H.length = .unborn:=fun h => hun _ (Nat.le_refl _) h
 unfold lightOp at hl
 cases hop:o.op <;> rw [hop] at hl <;> simp only [reduceCtorEq] at hl
 case move x =>
  obtain ⟨sx,hx,rfl⟩:=Option.map_eq_some_iff.1 hl
  exact snd_mv (.inl hop) hx ht hH he
 case assign x =>
  obtain ⟨sx,hx,rfl⟩:=Option.map_eq_some_iff.1 hl
  exact snd_mv (.inr hop) hx ht hH he
 case pick c x y =>
  split at hl
  ·rename_i c' x' y' h1 h2 h3
   simp at hl; subst hl
   exact zGn hop h1 h2 h3 ht hH he
  ·simp at hl
 case alloc e =>
  have fin:∀ {r:Nat × List SV × Nat},tinfo P e = some r → i = .alloc r.2.1 e → OpOK P o a m ρ H w v H':=by
   intro r hr hi
   obtain ⟨sz,zs,by_⟩:=r
   subst hi
   have h2:=he
   simp only [runI] at h2; simp at h2
   exact zGD hop hr hH (unb1 h2.2.symm) he
  split at hl
  ·split at hl
   ·split at hl
    ·rename_i n el hn K sz zs by_ h1 h2
     split at hl
     ·rename_i h3
      obtain ⟨rfl,hK,h4⟩:=h3
      simp at hl; subst hl
      have h5:=he
      simp only [runI] at h5; simp at h5
      exact zGE hK hop h2 h4 hH (unb1 h5.2.symm) he
     ·simp at hl
    ·simp at hl
   ·split at hl
    ·rename_i r h1
     simp at hl
     exact fin h1 hl.symm
    ·simp at hl
  ·split at hl
   ·rename_i r h1
    simp at hl
    exact fin h1 hl.symm
   ·simp at hl
  ·simp at hl
 case box e x =>
  obtain ⟨sx,hx,rfl⟩:=Option.map_eq_some_iff.1 hl
  exact snd_box hop hx ht hH (unb (box_len he)) he
 case build t parts =>
  split at hl
  ·rename_i fs hu
   split at hl
   ·rename_i sz zs by_ ps h1 h2
    split at hl
    ·rename_i h3
     simp at hl; subst hl
     exact zGB hop hu h1 (fun f hf => List.all_eq_true.1 h3 f hf) h2 ht hH he
    ·simp at hl
   ·simp at hl
  ·rename_i n el hu
   split at hl
   ·rename_i sz zs by_ j h1 h2
    obtain ⟨ps,h3,rfl⟩:=Option.map_eq_some_iff.1 hl
    exact zGC hop hu h1 h2 h3 ht hH he
   ·simp at hl
  ·simp at hl
 case buildSlice t len parts =>
  split at hl
  ·rename_i e hu
   split at hl
   ·rename_i sz zs by_ xs h1 h2
    split at hl
    ·rename_i h3
     simp at hl; subst hl
     have hb:∀ {K:Option Kd} {f:Bool},(f = true → m = false) → runI T (.bsl K f sz len zs e ((parts.toList.map (·.1)).zip xs)) τ H (fun v H => some (v,H)) = some (v,H') → OpOK P o a m ρ H w v H':=fun hf he =>
      snd_bsl hop hu h1 h2 h3.1 h3.2.1 hf ht hH unb he
     cases frz with
     | false => exact hb (fun h => by cases h) he
     | true =>
      cases hK:kdOf P 9 e with
      | none =>
       rw [hK] at hm he
       exact hb (fun _ => by
        cases m with
        | false => rfl
        | true => exact absurd (hm rfl) (by simp [bslS,I.mono])) he
      | some k =>
       rw [hK] at hm he
       simp only [bslS] at hm he
       rcases hall:((parts.toList.map (·.1)).zip xs).all (fun p => p.2.isC) with _ | _
       ·rw [hall] at hm he
        exact hb (fun _ => by
         cases m with
         | false => rfl
         | true => exact absurd (hm rfl) (by simp [I.mono])) he
       ·rw [hall] at hm he
        exact snd_bse hop hu h1 h2 h3.1 h3.2.1 ht hH he
    ·simp at hl
   ·simp at hl
  ·simp at hl
 case load t x =>
  split at hl
  ·rename_i i ag x' h1 h2 h3
   split at hl
   ·simp at hl; subst hl
    exact zpD hop h1 h2 h3 ht hH (by have:=ldS_run he; simpa only [runI] using this)
   ·simp at hl
  ·simp at hl
 case store t x y =>
  split at hl
  ·rename_i i x' y' h1 h2 h3
   simp at hl; subst hl
   cases m with
   | false => exact snd_st hop h1 h2 h3 ht hH (hux rfl) he
   | true => have:=hm rfl; simp [I.mono] at this
  ·simp at hl
 case nilCheck x =>
  obtain ⟨sx,hx,rfl⟩:=Option.map_eq_some_iff.1 hl
  exact zGo hop hx ht hH he
 case binOp op t x y yt =>
  split at hl
  ·rename_i k x' y' h1 h2 h3
   simp at hl; subst hl
   exact snd_bin hop h2 h3 ht hH he
  ·rename_i x' y' h1 h2 h3
   split at hl
   ·simp at hl; subst hl
    exact snd_beq hop (.inl ⟨rfl,rfl⟩) h1 h2 h3 ht hH he
   ·simp at hl; subst hl
    exact snd_beq hop (.inr ⟨rfl,rfl⟩) h1 h2 h3 ht hH he
   ·simp at hl
  ·rename_i e x' y' h1 h2 h3
   split at hl
   ·split at hl
    ·simp at hl; subst hl
     exact zvM hop (.inl ⟨rfl,rfl⟩) h1 h2 h3 ht hH he
    ·simp at hl; subst hl
     exact zvM hop (.inr ⟨rfl,rfl⟩) h1 h2 h3 ht hH he
    ·simp at hl
   ·simp at hl
  ·rename_i fs x' y' h1 h2 h3
   split at hl
   ·rename_i h4
    simp at hl; subst hl
    exact snd_eqs hop (.inl ⟨rfl,rfl⟩) h4 h2 h3 ht hH he
   ·rename_i h4
    simp at hl; subst hl
    exact snd_eqs hop (.inr ⟨rfl,rfl⟩) h4 h2 h3 ht hH he
   ·simp at hl
  ·simp at hl
 case unOp op t x =>
  split at hl
  ·rename_i x' h1
   simp at hl; subst hl
   exact snd_not hop h1 ht hH he
  ·rename_i x' h1
   simp at hl; subst hl
   exact snd_neg hop h1 ht hH he
  ·simp at hl
 case convert src dst x =>
  split at hl
  ·rename_i ks k x' h1 h2 h3
   simp at hl; subst hl
   exact zGx hop h1 h2 h3 ht hH he
  ·simp at hl
 case fieldAddr s x f =>
  split at hl
  ·rename_i fs x' h1 h2
   split at hl
   ·rename_i fd h3
    split at hl
    ·rename_i j h4
     split at hl
     ·rename_i h5
      simp at hl; subst hl
      exact snd_fa hop h1 h3 h4 h5 h2 ht hH he
     ·simp at hl
    ·simp at hl
   ·simp at hl
  ·simp at hl
 case field s x f =>
  split at hl
  ·rename_i fs x' h1 h2
   split at hl
   ·rename_i fd h3
    split at hl
    ·rename_i j ag h4 h6
     split at hl
     ·rename_i h5
      simp at hl; subst hl
      exact snd_fld hop h1 h3 h4 h6 h5 h2 ht hH he
     ·simp at hl
    ·simp at hl
   ·simp at hl
  ·simp at hl
 case indexAddr t x ix =>
  split at hl
  ·rename_i e x' i' h1 h2 h3
   split at hl
   ·rename_i j h4
    simp at hl; subst hl
    exact snd_ia hop h1 h4 h2 h3 ht hH (iaS_run he)
   ·simp at hl
  ·rename_i n e x' i' h1 h2 h3
   split at hl
   ·rename_i j h4
    simp at hl; subst hl
    exact snd_iar hop h1 h4 h2 h3 ht hH he
   ·simp at hl
  ·simp at hl
 case index t x ix =>
  split at hl
  ·rename_i n e i' h1 h3
   split at hl
   ·rename_i j ag x' h4 h5 h2
    split at hl
    ·rename_i h6
     simp at hl; subst hl
     exact snd_ixa hop h1 h4 h5 h6 h2 h3 ht hH he
    ·simp at hl
   ·simp at hl
  ·rename_i i' h1 h3
   split at hl
   ·simp only [Option.some.injEq] at hl; subst hl
    exact snd_ixs hop h1 h3 ht hH he
   ·simp at hl
  ·simp at hl
 case slice t x lo hi mx =>
  split at hl
  ·rename_i e x' h1 h2
   split at hl
   ·simp at hl
   ·rename_i j h3
    split at hl
    ·simp at hl; subst hl
     exact snd_sl hop h1 h3 h2 rfl rfl ht hH he
    ·rename_i lo
     obtain ⟨sx,hx,rfl⟩:=Option.map_eq_some_iff.1 hl
     exact snd_sl hop h1 h3 h2 (by simp [hx]) rfl ht hH he
    ·rename_i hi
     obtain ⟨sx,hx,rfl⟩:=Option.map_eq_some_iff.1 hl
     exact snd_sl hop h1 h3 h2 rfl (by simp [hx]) ht hH he
    ·rename_i lo hi
     split at hl
     ·rename_i lo' hi' h4 h5
      simp at hl; subst hl
      exact snd_sl hop h1 h3 h2 (by simp [h4]) (by simp [h5]) ht hH he
     ·simp at hl
    ·rename_i hi mx
     split at hl
     ·rename_i hi' mx' h4 h5
      simp at hl; subst hl
      exact snd_sl0 hop h1 h3 h2 h4 h5 ht hH he
     ·simp at hl
    ·simp at hl
  ·simp at hl
 case extract x j =>
  obtain ⟨sx,hx,rfl⟩:=Option.map_eq_some_iff.1 hl
  exact snd_ext hop hx ht hH he
 case makeSlice t l c =>
  split at hl
  ·rename_i e l' c' h1 h2 h3
   split at hl
   ·rename_i sz zs by_ h4
    split at hl
    ·rename_i h5
     split at hl
     ·rename_i K h6
      split at hl
      ·rename_i h7
       simp at hl; subst hl
       exact snd_mk hop h1 h4 h5.1 h5.2 (fun k hk => by cases hk; exact h7) h2 h3 ht hH (unb (mk_len he)) he
      ·simp at hl
     ·simp at hl; subst hl
      exact snd_mk hop h1 h4 h5.1 h5.2 (fun k hk => by cases hk) h2 h3 ht hH (unb (mk_len he)) he
    ·simp at hl
   ·simp at hl
  ·simp at hl
 case makeInterface t x =>
  split at hl
  ·simp at hl
  ·rename_i d h1 h2
   obtain ⟨sx,hx,rfl⟩:=Option.map_eq_some_iff.1 hl
   exact zGy hop h2 (fun ms e => h1 ms e) hx ht hH he
  ·simp at hl
 case typeAssert x xt t ok =>
  split at hl
  ·simp at hl
  ·rename_i d x' h1 h2 h3
   split at hl
   ·rename_i i h4
    split at hl
    ·rename_i z h5
     obtain ⟨sz,h6,rfl⟩:=Option.map_eq_some_iff.1 hl
     exact snd_tas hop h2 (fun ms e => h1 ms e) h3 h4 h5 h6 ht hH he
    ·simp at hl
   ·simp at hl
  ·simp at hl
 case makeMap t r =>
  cases r with
  | some r => dsimp only at hl; simp at hl
  | none =>
   dsimp only at hl
   split at hl
   ·rename_i hp
    simp at hl; subst hl
    have h5:=he
    simp only [runI] at h5; simp at h5
    exact zGS hop hH (unb1 h5.2.symm) he
   ·simp at hl
 case mapUpdate t x k y =>
  split at hl
  ·rename_i h1 h2 h3 h4
   simp at hl; subst hl
   have hmf:m = false:=by
    cases m with
    | false => rfl
    | true => have:=hm rfl; simp [I.mono] at this
   exact zGV hop h1 h2 h3 h4 hmf ht hH he
  ·simp at hl
 case lookup t x k ok =>
  cases ok with
  | false =>
   dsimp only at hl
   split at hl
   ·rename_i h1 h2 h3 h4
    simp at hl; subst hl
    exact zGU hop h1 h2 h3 h4 ht hH he
   ·simp at hl
  | true =>
   dsimp only at hl
   split at hl
   ·rename_i h1 h2 h3
    simp at hl; subst hl
    exact zGT hop h1 h2 h3 ht hH he
   ·simp at hl
 case makeFunc fn first cap =>
  split at hl
  ·rename_i sa sb h1 h2
   simp at hl; subst hl
   exact zGz hop h1 h2 ht hH he
  ·simp at hl
 case call c =>
  split at hl
  ·simp at hl
  ·rename_i as has
   have hargs:=zGZ has ht
   split at hl
   ·rename_i hc
    split at hl
    ·rename_i t x' h1
     split at hl
     ·rename_i e h3
      simp at hl; subst hl
      obtain ⟨x,hx1,hx2⟩:=zvU has
      exact snd_len hop hc hx1 (arr_one h1) h3 hx2 ht hH he
     ·simp at hl
    ·simp at hl
   ·rename_i hc
    split at hl
    ·rename_i t t' s' x' h1
     split at hl
     ·rename_i e h3 h4
      split at hl
      ·rename_i sz zs by_ h5
       split at hl
       ·rename_i h6
        simp at hl; subst hl
        obtain ⟨s,x,hx0,hx1,hx2⟩:=ziy has
        have htt:t = t':=by simpa using h4
        subst htt
        cases frz with
        | true =>
         simp only [cond,runI] at he
         split at he
         ·rename_i e2
          rw [← e2] at he
          exact snd_app hop hc hx0 (arr_two h1) h3 h5 h6 hx1 hx2 ht hH (unb (app_len he)) (fun _ => by rw [e2]; rfl) he
         ·simp at he
        | false =>
         simp only [cond,runI] at he hm
         exact snd_app hop hc hx0 (arr_two h1) h3 h5 h6 hx1 hx2 ht hH (unb (app_len he)) (fun h => by have:=hm h; simp [I.mono] at this) he
       ·simp at hl
      ·simp at hl
     ·rename_i e h3 h4
      split at hl
      ·rename_i k' K sz zs by_ h5 h6 h7
       split at hl
       ·rename_i h8
        simp at hl; subst hl
        obtain ⟨s,x,hx0,hx1,hx2⟩:=ziy has
        exact zGO hop hc hx0 (arr_two h1) h3 h5 h7 h8.1 h8.2.1 h8.2.2.1 h8.2.2.2 hx1 hx2 ht hH (unb (zG0 he)) he
       ·simp at hl
      ·simp at hl
     ·simp at hl
    ·simp at hl
   ·rename_i hc
    split at hl
    ·rename_i t x' h1
     split at hl
     ·rename_i e h3
      simp at hl; subst hl
      obtain ⟨x,hx1,hx2⟩:=zvU has
      exact zGK hop hc hx1 (arr_one h1) h3 hx2 ht hH he
     ·simp at hl
    ·simp at hl
   ·rename_i hc
    split at hl
    ·simp at hl; subst hl
     obtain ⟨x,y,hx0,hx1,hx2⟩:=ziy has
     exact snd_mn hop hc hx0 hx1 hx2 ht hH he
    ·simp at hl
   ·rename_i hc
    split at hl
    ·simp at hl; subst hl
     obtain ⟨x,y,hx0,hx1,hx2⟩:=ziy has
     exact snd_mx hop hc hx0 hx1 hx2 ht hH he
    ·simp at hl
   ·rename_i f hc
    split at hl
    ·rename_i fn hf
     split at hl
     ·rename_i hfn
      simp at hl
      have hex:∀ fn',P.funcs[f]? = some fn' → fn'.name ≠ "runtime.NumGoroutine" → fn'.body.isSome = true → (execOp a.eval o).run P w = .ok (.enter f (c.args.map a.eval).toList.toArray) w:=fun fn' h1 h2 h3 => by
       have e5:Array.map a.eval c.args = (List.map a.eval c.args.toList).toArray:=Array.ext' (by simp)
       simp [execOp,hop,resolve,hc,Act.eval,Deferred.ofValue,invoke,zvT hf hfn.1 hfn.2,e5]
      cases frz with
      | false =>
       simp only [cond] at hl
       subst hl
       simp only [runI] at he
       exact zpU hT hH hun hargs (fun te h1 h2 => zvS h1 (hm h2)) he hex
      | true =>
       simp only [cond] at hl
       subst hl
       obtain rfl:m = false:=by
        cases m with
        | false => rfl
        | true => have:=hm rfl; simp [I.mono] at this
       simp only [runI] at he
       split at he
       ·rename_i ie hie
        have S:=hT.inl f ie hie
        obtain ⟨fn5,h5,h6,h7⟩:=S.fn
        exact OpOK.call (hex fn5 h5 h6 h7) (S.snd ρ H w _ _ v H' hH (hux rfl) hargs he)
       ·exact zGY hT hH hun hargs he hex
     ·simp at hl
    ·simp at hl
   ·rename_i t hc
    simp at hl; subst hl
    obtain rfl:m = false:=by
     cases m with
     | false => rfl
     | true => have:=hm rfl; simp [I.mono] at this
    simp only [runI] at he
    split at he
    ·rename_i f first cap e1
     have hv:VRel ρ w (S.ev τ (.t t)) (a.eval (.tmp t)):=opL_rel ht (x:=.tmp t) rfl
     rw [e1] at hv
     simp only [VRel] at hv
     obtain ⟨vf,vc,e2,h1,h2⟩:=hv
     have hargs':=(h1.append hargs).append h2
     have hex:∀ fn',P.funcs[f]? = some fn' → fn'.name ≠ "runtime.NumGoroutine" → fn'.body.isSome = true → (execOp a.eval o).run P w = .ok (.enter f (vf.toList ++ (c.args.map a.eval).toList ++ vc.toList).toArray) w:=fun fn' h3 h4 h5 => by
      simp [execOp,hop,resolve,hc,e2,Deferred.ofValue,invoke,zvT h3 h4 h5]
     split at he
     ·rename_i ie hie
      have S:=hT.inl f ie hie
      obtain ⟨fn5,h5,h6,h7⟩:=S.fn
      exact OpOK.call (hex fn5 h5 h6 h7) (S.snd ρ H w _ _ v H' hH (hux rfl) hargs' he)
     ·exact zpU hT hH hun hargs' (fun _ _ h => by simp at h) he hex
    ·simp at he
   ·rename_i t mn hc
    simp at hl; subst hl
    obtain rfl:m = false:=by
     cases m with
     | false => rfl
     | true => have:=hm rfl; simp [I.mono] at this
    simp only [runI] at he
    split at he
    ·rename_i ti x e1
     split at he
     ·rename_i f hf
      have hv:VRel ρ w (S.ev τ (.t t)) (a.eval (.tmp t)):=opL_rel ht (x:=.tmp t) rfl
      rw [e1] at hv
      simp only [VRel] at hv
      obtain ⟨u,e2,h1⟩:=hv
      have hvs:VRels ρ w (x :: as.map (S.ev τ)) (u :: (c.args.map a.eval).toList):=by
       simp only [VRels]; exact ⟨u,_,rfl,h1,hargs⟩
      refine zpU hT hH hun hvs (fun _ _ h => by simp at h) he fun fn' h3 h4 h5 => ?_
      have hmm:=hT.meth ti mn f hf u (c.args.map a.eval) w
      have e3:(#[Value.iface ti u] ++ c.args.map a.eval)[0]? = some (Value.iface ti u):=by
       rw [← Array.getElem?_toList]; simp
      have e4:(#[Value.iface ti u] ++ c.args.map a.eval).extract 1 (#[Value.iface ti u] ++ c.args.map a.eval).size = c.args.map a.eval:=by
       apply Array.ext'; simp
       rw [List.take_of_length_le (by simp)]
      have e5:(u :: (c.args.map a.eval).toList).toArray = #[u] ++ c.args.map a.eval:=by
       apply Array.ext'; simp
      have e6:(execOp a.eval o).run P w = (callMethod (.iface ti u) mn (c.args.map a.eval)).run P w:=by
       simp only [execOp,hop,resolve,hc,e2,invoke,Sem.run_bind,Sem.run_pure,Result.andThen_ok,e3,e4]
      rw [e6,hmm,e5]
     ·simp at he
    ·simp at he
   ·simp at hl
theorem zG1 {q:Nat} (hT:TabOK P T) (hl:lightM P q o = some i) (hm:m = true → i.mono T = true) (ht:TRel ρ w τ a N) (hH:HRel ρ H w) (hun:Unb ρ H H') (hux:m = false → ∀ β,H.length ≤ β → ρ β = .unborn)
  (he:runI T i τ H (fun v H => some (v,H)) = some (v,H')):OpOK P o a m ρ H w v H':=by
 match q,hl with
 | 0,hl => exact zvV hT hl hm ht hH hun hux he
 | 1,hl => exact zvV hT hl hm ht hH hun hux he
 | q + 2,hl =>
  simp only [lightM,lightX] at hl
  split at hl
  ·rename_i t x hop
   split at hl
   ·rename_i K sx h1 h2
    simp only [Option.some.injEq] at hl
    subst hl
    exact zGH hop h2 ht hH he
   ·simp at hl
  ·rename_i t x hop
   split at hl
   ·rename_i i' ag s h1 h2 h3
    split at hl
    ·rename_i h4
     simp only [Option.some.injEq] at hl
     subst hl
     cases m with
     | true => simp [I.mono] at hm
     | false => exact snd_ldx hop h1 h2 h3 ht hH (hux rfl) he
    ·simp at hl
   ·simp at hl
  ·rename_i t len parts hop
   split at hl
   ·rename_i e hu
    split at hl
    ·rename_i sz zs by_ xs hz hxs
     split at hl
     ·rename_i hc
      simp only [Option.some.injEq] at hl
      subst hl
      exact snd_bsl hop hu hz hxs hc.1 hc.2.1 (fun h => by cases h) ht hH (fun h => hun _ (Nat.le_refl _) h) he
     ·simp at hl
    ·simp at hl
   ·simp at hl
  ·rename_i c hop
   split at hl
   ·simp at hl
   ·rename_i as has
    split at hl
    ·rename_i hc
     split at hl
     ·rename_i t t' s' x' h1
      split at hl
      ·rename_i e h3 h4
       split at hl
       ·rename_i K sz zs by_ h7 h5
        split at hl
        ·rename_i h6
         simp only [Option.some.injEq] at hl
         subst hl
         obtain ⟨s,x,hx0,hx1,hx2⟩:=ziy has
         have htt:t = t':=by simpa using h4
         subst htt
         cases m with
         | true => simp [I.mono] at hm
         | false => exact zGW hop hc hx0 (arr_two h1) h3 h5 h6 hx1 hx2 ht hH (hux rfl) he
        ·simp at hl
       ·simp at hl
      ·simp at hl
     ·simp at hl
    ·simp at hl
  ·simp at hl
end
end Go.Proofs.YtljojacnjjgceaaGreat.Den
namespace Go.Proofs.YtljojacnjjgceaaGreat.Den
open Go Go.RowKit
section
variable {R:Type}
theorem zr {α:Type} (b:Bool) (x:Option α) (f:α → Option R):(tst b x).bind f = tst b (x.bind f):=by cases b <;> rfl
theorem zeI {α:Type} (b:Bool) (x y:Option α) (f:α → Option R):(cond b x y).bind f = cond b (x.bind f) (y.bind f):=by cases b <;> rfl
theorem zvW {α:Type} (f:α → Option R):(none:Option α).bind f = none:=rfl
theorem z7 (cs:List SV) (off n:Nat) (ag:Bool) (k:SV → Option R):getC cs off n ag k = (getC cs off n ag some).bind k:=by
  unfold getC
  repeat' split
  all_goals rfl
theorem zvX (cs:List SV) (off n:Nat) (ag:Bool) (k:SV → Option R):getP cs off n ag k = (getP cs off n ag some).bind k:=by
  unfold getP
  rw [z7,z7 (k:=fun v => cond v.isEs none (some v)),Option.bind_assoc]
  congr 1; funext v
  cases v.isEs <;> rfl
theorem zvY (cs:List SV) (off n:Nat) (ag b:Bool) (k:SV → Option R):getP cs off n ag (fun v => tst b (k v)) = (getP cs off n ag fun v => tst b (some v)).bind k:=by
  rw [zvX,zvX (k:=fun v => tst b (some v)),Option.bind_assoc]
  congr 1; funext v
  cases b <;> rfl
theorem ldI_nat (H:Heap) (n:Nat) (ag:Bool) (x:SV) (k:SV → Option R):ldI H n ag x k = (ldI H n ag x some).bind k:=by
  unfold ldI
  repeat' split
  all_goals first | rfl | exact z7 .. | exact zvY .. | (simp only [zr]; first | rfl | rw [← z7]) | (simp only [zeI]; rw [← z7,← zvY])
theorem zG2 (H:Heap) (n:Nat) (ag:Bool) (x:SV) (k:SV → Heap → Option R):ldxI H n ag x k = (ldxI H n ag x (fun v H => some (v,H))).bind fun p => k p.1 p.2:=by
  unfold ldxI
  repeat' split
  all_goals first
    | (rw [ldI_nat,ldI_nat (k:=fun v => some (v,H)),Option.bind_assoc]; rfl)
    | (simp only [zr]; rw [z7]; conv => rhs; rw [z7]
       rw [Option.bind_assoc]; rfl)
theorem zG3 (H:Heap) (d:Nat) (K:Kd) (sz:Nat) (s x:SV) (k:SV → Heap → Option R):apptI H d K sz s x k = (apptI H d K sz s x (fun v H => some (v,H))).bind fun p => k p.1 p.2:=by
  unfold apptI
  repeat' split
  all_goals first | rfl | (simp only [zr]; rfl)
theorem stI_nat (H:Heap) (n:Nat) (x v:SV) (k:Heap → Option R):stI H n x v k = (stI H n x v some).bind k:=by
  unfold stI
  repeat' split
  all_goals first | rfl | (simp only [zr]; rfl)
theorem iaI_nat (H:Heap) (sz:Nat) (x i:SV) (k:SV → Option R):iaI H sz x i k = (iaI H sz x i some).bind k:=by
  unfold iaI
  repeat' split
  all_goals first | rfl | (simp only [zr]; rfl)
theorem zpW (H:Heap) (len sz:Nat) (x i:SV) (k:SV → Option R):iarI H len sz x i k = (iarI H len sz x i some).bind k:=by
  unfold iarI
  repeat' split
  all_goals first | rfl | (simp only [zr]; rfl)
theorem zmn (len sz:Nat) (ag:Bool) (x i:SV) (k:SV → Option R):ixaI len sz ag x i k = (ixaI len sz ag x i some).bind k:=by
  unfold ixaI
  repeat' split
  all_goals first | rfl | (simp only [zr]; rw [← z7])
theorem zG4 {α:Type} (x:Option SV) (d:Option Nat) (top:Nat) (k:Nat → Option α) (f:α → Option R):(bound x d top k).bind f = bound x d top fun n => (k n).bind f:=by
  unfold bound
  repeat' split
  all_goals first | rfl | (simp only [zr])
theorem slI_nat (H:Heap) (sz:Nat) (x:SV) (lo hi mx:Option SV) (k:SV → Option R):slI H sz x lo hi mx k = (slI H sz x lo hi mx some).bind k:=by
  unfold slI
  split
  · simp only [zeI,zvW]
    congr 1
    split
    · rfl
    · simp only [zG4]
      congr 1; funext h; congr 1; funext a
      split <;> rfl
  · repeat' split
    all_goals rfl
  · rfl
theorem zvZ (H:Heap) (K:Option Kd) (sz:Nat) (t:TypeId) (s x:SV) (k:SV → Heap → Option R) :
    appI H K sz t s x k = (appI H K sz t s x (fun v H => some (v,H))).bind fun p => k p.1 p.2:=by
  unfold appI appB
  simp only [zeI,zvW]
  congr 1
  repeat' split
  all_goals first | rfl | (simp only [zr]; rfl)
theorem mkI_nat (H:Heap) (K:Option Kd) (zs:List SV) (t:TypeId) (n:SV) (cap:Option SV) (k:SV → Heap → Option R) :
    mkI H K zs t n cap k = (mkI H K zs t n cap (fun v H => some (v,H))).bind fun p => k p.1 p.2:=by
  unfold mkI
  repeat' split
  all_goals first | rfl | (simp only [zr]; rfl)
theorem zG5 (τ:Env) (H:Heap) (K:Option Kd) (frz:Bool) (sz len:Nat) (zs:List SV) (t:TypeId) (parts:List (Nat × S)) (k:SV → Heap → Option R) :
    bslI τ H K frz sz len zs t parts k = (bslI τ H K frz sz len zs t parts (fun v H => some (v,H))).bind fun p => k p.1 p.2:=by
  unfold bslI
  repeat' split
  all_goals rfl
theorem zmo (op:BinOp) (x y:SV) (k:SV → Option R):binI op x y k = (binI op x y some).bind k:=by
  unfold binI
  repeat' split
  all_goals first | rfl | (simp only [zr]; rfl)
theorem ziz (T:Tab) (f:FuncId) (args:List SV) (H:Heap) (k:SV → Heap → Option R) :
    callI T f args H k = (callI T f args H (fun v H => some (v,H))).bind fun p => k p.1 p.2:=by
  unfold callI
  generalize T.te f = l
  induction l with
  | nil => rfl
  | cons te r ih =>
    simp only [callL]
    split
    · exact ih
    · rename_i x _
      cases te.fn x with
      | none => rfl
      | some y =>
        simp only [Option.bind_some]
        split <;> rfl
theorem zaT (T:Tab) (i:I) (τ:Env) (H:Heap) (k:SV → Heap → Option R) :
    runI T i τ H k = (runI T i τ H (fun v H => some (v,H))).bind fun p => k p.1 p.2:=by
  cases i <;> simp only [runI]
  case ld => rw [ldI_nat]; conv => rhs; rw [ldI_nat]
             rw [Option.bind_assoc]; rfl
  case ldc => rw [ldI_nat]; conv => rhs; rw [ldI_nat]
              rw [Option.bind_assoc]; rfl
  case st => rw [stI_nat]; conv => rhs; rw [stI_nat]
             rw [Option.bind_assoc]; rfl
  case bin => rw [zmo]; conv => rhs; rw [zmo]
              rw [Option.bind_assoc]; rfl
  case ia => rw [iaI_nat]; conv => rhs; rw [iaI_nat]
             rw [Option.bind_assoc]; rfl
  case iac => rw [iaI_nat]; conv => rhs; rw [iaI_nat]
              rw [Option.bind_assoc]; rfl
  case iar => rw [zpW]; conv => rhs; rw [zpW]
              rw [Option.bind_assoc]; rfl
  case ixa => rw [zmn]; conv => rhs; rw [zmn]
              rw [Option.bind_assoc]; rfl
  case sl => rw [slI_nat]; conv => rhs; rw [slI_nat]
             rw [Option.bind_assoc]; rfl
  case fld => split
              · rw [z7]; conv => rhs; rw [z7]
                rw [Option.bind_assoc]; rfl
              · rfl
  case app => exact zvZ ..
  case app0 => split
               · exact zvZ ..
               · rfl
  case mk => exact mkI_nat ..
  case bsl => exact zG5 ..
  case call => exact ziz ..
  case callz f args =>
    cases hi:T.inl f with
    | some ie => exact ie.nat R _ H k
    | none => ?_
    simp only
    rw [frzL_nat]; conv => rhs; rw [frzL_nat]
    rw [Option.bind_assoc]
    congr 1; funext q
    show callI _ _ q.1 q.2 _ = Option.bind (callI _ _ q.1 q.2 _) _
    rw [ziz]; conv => rhs; rw [ziz]
    rw [Option.bind_assoc]
    congr 1; funext p
    exact frzV_nat p.1 p.2 k
  case callv => split
                · split
                  · rename_i ie _; exact ie.nat R _ H k
                  · exact ziz ..
                · rfl
  case inv => split
              · split
                · exact ziz ..
                · rfl
              · rfl
  case ixs => split
              · simp only [zr]; rfl
              · rfl
  case nilt => split
               · simp only [zr]; rfl
               · rfl
  case appz => split
               · simp only [zr]; rfl
               · rfl
  case mapz => split
               · split
                 · simp only [zr]; rfl
                 · split
                   · simp only [zr]; rfl
                   · rfl
                 · rfl
               · rfl
  case mapset => split
                 · split
                   · split <;> rfl
                   · split
                     · simp only [zr]; rfl
                     · rfl
                   · rfl
                 · rfl
  case ldx => exact zG2 ..
  case appt => exact zG3 ..
  case pick => repeat' split
               all_goals first | rfl | (simp only [zeI]; rfl)
  all_goals (repeat' split)
  all_goals rfl
def stepG (T:Tab) (gi:GI) (τ:Env) (H:Heap):Option (Env × Heap):=runG T gi τ H fun τ H => some (τ,H)
theorem zv0 (T:Tab) (gi:GI) (τ:Env) (H:Heap) (k:Env → Heap → Option R) :
    runG T gi τ H k = (stepG T gi τ H).bind fun p => k p.1 p.2:=by
  unfold stepG runG
  split
  · rw [zaT]; conv => rhs; rw [zaT]
    rw [Option.bind_assoc]; rfl
  · split
    · split
      · simp only [zeI]
        congr 1
        rw [zaT]; conv => rhs; rw [zaT]
        rw [Option.bind_assoc]; rfl
      · simp only [zeI]
        congr 1
        rw [zaT]; conv => rhs; rw [zaT]
        rw [Option.bind_assoc]; rfl
    · rfl
    · rfl
theorem zG6 (T:Tab) (gi:GI) (r:List GI) (τ:Env) (H:Heap) (k:Env → Heap → Option R) :
    runR T (gi :: r) τ H k = (stepG T gi τ H).bind fun p => runR T r p.1 p.2 k:=by
  rw [runR,zv0]
end
end Go.Proofs.YtljojacnjjgceaaGreat.Den
namespace Go.Proofs.YtljojacnjjgceaaGreat.Den
open Go Go.RowKit
def S.slot:S → List Nat
 | .t n => [n]
 | .c _ => []
def I.args:I → List S
 | .mv x | .box _ x | .boxe _ x | .ld _ _ x | .ldx _ _ x | .nilck x | .not x | .neg x | .conv _ x | .fa _ x | .fld _ _ _ x | .ext _ x | .len x | .mkif _ x | .tas _ _ _ x | .nilt _ x | .cap0 x | .ixs _ x => [x]
 | .ldc _ _ s => [.t s]
 | .iac _ s i => [.t s,i]
 | .alloc _ _ | .allocA _ _ _ | .mkmap => []
 | .mapset m x v => [m,x,v]
 | .maplk m x | .mapz _ m x => [m,x]
 | .pick c a b => [c,a,b]
 | .build _ ps => ps.map fun p => p.2.2
 | .bsl _ _ _ _ _ _ ps => ps.map fun p => p.2
 | .bse _ _ _ _ ps => ps.map fun p => p.2
 | .st _ x y | .bin _ x y | .beq _ x y | .eqs _ _ x y | .ia _ x y | .iar _ _ x y | .ixa _ _ _ x y | .app _ _ _ x y | .app0 _ _ _ x y | .appt _ _ _ _ x y | .mn x y | .mx x y | .appz _ _ x y => [x,y]
 | .sl _ x l h m => x :: (l.toList ++ (h.toList ++ m.toList))
 | .mk _ _ _ n cap => n :: cap.toList
 | .mkfn _ a b => a ++ b
 | .call _ as => as
 | .callz _ as => as
 | .callv x as => x :: as
 | .inv x _ as => x :: as
def I.slots (i:I):List Nat:=i.args.flatMap S.slot
def GI.reads (gi:GI):List Nat :=
 match gi.g with
 | none => gi.i.slots
 | some (s,_) => s :: gi.i.slots
section
variable {R:Type} {T:Tab} {τ τ':Env} {H H':Heap}
theorem zmp:∀ {ps:List (Nat × Nat × S)} {cs:List SV},(∀ p ∈ ps,S.ev τ p.2.2 = S.ev τ' p.2.2) → fillP τ ps cs = fillP τ' ps cs
 | [],_,_ => rfl
 | (off,n,x) :: r,cs,h => by
  have h1:=h (off,n,x) (by simp)
  simp only at h1
  simp only [fillP,h1]
  split
  ·split
   ·exact zmp fun p hp => h p (by simp [hp])
   ·rfl
  ·rfl
theorem zeJ {as:List S} (h:∀ x ∈ as,S.ev τ x = S.ev τ' x):as.map (S.ev τ) = as.map (S.ev τ'):=List.map_congr_left h
theorem zmq {x:Option S} (h:∀ y ∈ x.toList,S.ev τ y = S.ev τ' y):x.map (S.ev τ) = x.map (S.ev τ'):=by
 cases x with
 | none => rfl
 | some y => simp only [Option.map_some,h y (by simp)]
theorem zG7 {i:I} {k:SV → Heap → Option R} (h:∀ x ∈ i.args,S.ev τ x = S.ev τ' x):runI T i τ H k = runI T i τ' H k:=by
 cases i
 case build zs ps =>
  simp only [runI]
  rw [zmp fun p hp => h p.2.2 (List.mem_map.2 ⟨p,hp,rfl⟩)]
 case bsl K frz sz len zs t ps =>
  simp only [runI,bslI]
  cases len with
  | zero => cases ps <;> rfl
  | succ len =>
   simp only
   rw [zmp (τ':=τ') fun p hp => by
    obtain ⟨q,hq,rfl⟩:=List.mem_map.1 hp
    exact h q.2 (List.mem_map.2 ⟨q,hq,rfl⟩)]
 case bse K sz len zs ps =>
  simp only [runI]
  rw [zmp (τ':=τ') fun p hp => by
   obtain ⟨q,hq,rfl⟩:=List.mem_map.1 hp
   exact h q.2 (List.mem_map.2 ⟨q,hq,rfl⟩)]
 case sl sz x lo hi mx =>
  simp only [runI]
  rw [h x (by simp [I.args]),zmq fun y hy => h y (by simp [I.args] at hy ⊢; simp [hy]),zmq (x:=hi) fun y hy => h y (by simp [I.args] at hy ⊢; simp [hy]),zmq (x:=mx) fun y hy => h y (by simp [I.args] at hy ⊢; simp [hy])]
 case mk K zs t n cap =>
  simp only [runI]
  rw [h n (by simp [I.args]),zmq fun y hy => h y (by simp [I.args] at hy ⊢; simp [hy])]
 case mkfn f a b =>
  simp only [runI]
  rw [zeJ fun x hx => h x (by simp [I.args,hx]),zeJ (as:=b) fun x hx => h x (by simp [I.args,hx])]
 case callz f as =>
  simp only [runI]
  rw [zeJ fun x hx => h x (by simp [I.args,hx])]
 case call f as =>
  simp only [runI]
  rw [zeJ fun x hx => h x (by simp [I.args,hx])]
 case callv x as =>
  simp only [runI]
  rw [h x (by simp [I.args]),zeJ fun x hx => h x (by simp [I.args,hx])]
 case inv x m as =>
  simp only [runI]
  rw [h x (by simp [I.args]),zeJ fun x hx => h x (by simp [I.args,hx])]
 case iac sz s i =>
  have e:Tm.get τ s = Tm.get τ' s:=h (.t s) (by simp [I.args])
  have e2:S.ev τ i = S.ev τ' i:=h i (by simp [I.args])
  simp only [runI,e,e2]
 case ldc n ag s =>
  have e:Tm.get τ s = Tm.get τ' s:=h (.t s) (by simp [I.args])
  simp only [runI,e]
 all_goals (simp only [I.args,List.mem_cons,List.not_mem_nil,or_false,forall_eq_or_imp,forall_eq,false_implies,implies_true] at h; simp only [runI,h])
theorem S.ev_congr {x:S} (h:∀ s ∈ x.slot,Tm.get τ s = Tm.get τ' s):S.ev τ x = S.ev τ' x:=by
 cases x with
 | t n => exact h n (by simp [S.slot])
 | c v => rfl
theorem zv1 {i:I} {k:SV → Heap → Option R} (h:∀ s ∈ i.slots,Tm.get τ s = Tm.get τ' s):runI T i τ H k = runI T i τ' H k :=
 zG7 fun x hx => S.ev_congr fun s hs => h s (List.mem_flatMap.2 ⟨x,hx,hs⟩)
theorem zmr {d:Option Nat} {v:SV} (n:Nat):Tm.get (putD τ d v) n = if d = some n then v else Tm.get τ n:=by
 cases d with
 | none => simp [putD]
 | some m => simp [putD,Tm.get_cons]
theorem zcA {s:Nat} {v:SV} (h:Tm.get τ s = v) (n:Nat):Tm.get ((s,v) :: τ) n = Tm.get τ n:=by
 rw [Tm.get_cons]
 split
 ·rename_i e; rw [← e,h]
 ·rfl
theorem zms {gi:GI} (h:stepG T gi τ H = some (τ',H')) :
  ∃ b:Bool,(gi.g = none → b = true) ∧ (∀ s want,gi.g = some (s,want) → Tm.get τ s = .bool (if b = true then want else !want) ∨ b = false ∧ Tm.get τ s = .tup []) ∧
   (b = true → ∃ v,runI T gi.i τ H (fun v H => some (v,H)) = some (v,H') ∧ ∀ n,Tm.get τ' n = if gi.d = some n then v else Tm.get τ n) ∧
   (b = false → H' = H ∧ ∀ n,Tm.get τ' n = if gi.d = some n then .tup [] else Tm.get τ n):=by
 unfold stepG runG at h
 have run:∀ {τ1:Env} (e:∀ n,Tm.get τ1 n = Tm.get τ n),runI T gi.i τ1 H (fun v H' => some (putD τ1 gi.d v,H')) = some (τ',H') →
   ∃ v,runI T gi.i τ H (fun v H => some (v,H)) = some (v,H') ∧ ∀ n,Tm.get τ' n = if gi.d = some n then v else Tm.get τ n:=by
  intro τ1 e h1
  rw [zaT,Option.bind_eq_some_iff] at h1
  obtain ⟨⟨v,H2⟩,h2,h3⟩:=h1
  simp only [Option.some.injEq,Prod.mk.injEq] at h3
  obtain ⟨rfl,rfl⟩:=h3
  exact ⟨v,by rw [← h2]; exact zv1 fun s _ => (e s).symm,fun n => by rw [zmr,e]⟩
 split at h
 ·rename_i hg
  exact ⟨true,fun _ => rfl,fun s want h1 => by (rw [hg] at h1; cases h1),fun _ => run (fun _ => rfl) h,fun h => by cases h⟩
 ·rename_i s want hg
  split at h
  ·rename_i b hb
   split at h
   ·rcases zg h with ⟨rfl,h⟩ | ⟨rfl,h⟩
    ·exact ⟨true,fun _ => rfl,fun s' w' h1 => by (rw [hg] at h1; cases h1; exact .inl (by simpa using hb)),fun _ => run (zcA hb) h,fun h => by cases h⟩
    ·simp only [Option.some.injEq,Prod.mk.injEq] at h
     obtain ⟨rfl,rfl⟩:=h
     exact ⟨false,fun h1 => by (rw [hg] at h1; cases h1),fun s' w' h1 => by (rw [hg] at h1; cases h1; exact .inl (by simpa using hb)),fun h => by (cases h),fun _ => ⟨rfl,fun n => by rw [zmr,zcA hb]⟩⟩
   ·rcases zg h with ⟨rfl,h⟩ | ⟨rfl,h⟩
    ·simp only [Option.some.injEq,Prod.mk.injEq] at h
     obtain ⟨rfl,rfl⟩:=h
     exact ⟨false,fun h1 => by (rw [hg] at h1; cases h1),fun s' w' h1 => by (rw [hg] at h1; cases h1; exact .inl (by simpa using hb)),fun h => by (cases h),fun _ => ⟨rfl,fun n => by rw [zmr,zcA hb]⟩⟩
    ·exact ⟨true,fun _ => rfl,fun s' w' h1 => by (rw [hg] at h1; cases h1; exact .inl (by simpa using hb)),fun _ => run (zcA hb) h,fun h => by cases h⟩
  ·rename_i hb
   simp only [Option.some.injEq,Prod.mk.injEq] at h
   obtain ⟨rfl,rfl⟩:=h
   exact ⟨false,fun h1 => by (rw [hg] at h1; cases h1),fun s' w' h1 => by (rw [hg] at h1; cases h1; exact .inr ⟨rfl,hb⟩),fun h => by (cases h),fun _ => ⟨rfl,fun n => by rw [zmr]⟩⟩
  ·simp at h
end
structure LOp (P:Program) (N:Nat) (ops:Array Oper) (o:Oper) (gi:GI):Prop where
 d:gi.d = o.dst
 i:∃ m,lightM P m o = some gi.i
 lt:∀ d,o.dst = some d → d < N
 g:(o.guard = none ∧ gi.g = none) ∨ ∃ j want oj s,o.guard = some (j,want) ∧ ops[j]? = some oj ∧ oj.dst = some s ∧ gi.g = some (s,want)
theorem zv2 {P:Program} {frz:List Nat} {N:Nat} {ops:Array Oper}:∀ {l:List Oper} {gs:List GI},lightOps P frz N ops l = some gs →
  gs.length = l.length ∧ ∀ (j:Nat) (o:Oper) (gi:GI),l[j]? = some o → gs[j]? = some gi → LOp P N ops o gi
 | [],gs,h => by simp [lightOps] at h; subst h; simp
 | o :: r,gs,h => by
  simp only [lightOps] at h
  split at h
  ·rename_i i g gs' h1 h2 h3
   split at h
   ·rename_i h4
    simp at h; subst h
    obtain ⟨ih1,ih2⟩:=zv2 h3
    refine ⟨by simp [ih1],fun j o' gi h5 h6 => ?_⟩
    cases j with
    | zero =>
     simp at h5 h6
     subst h5; subst h6
     refine ⟨rfl,⟨_,h1⟩,fun d hd => by rw [hd] at h4; simpa [dstOK] using h4,?_⟩
     unfold guardL at h2
     split at h2
     ·rename_i hg
      simp at h2; exact .inl ⟨hg,h2.symm⟩
     ·rename_i k want hg
      split at h2
      ·rename_i s hs
       simp at h2
       rw [Option.bind_eq_some_iff] at hs
       obtain ⟨oj,h7,h8⟩:=hs
       exact .inr ⟨k,want,oj,s,hg,h7,h8,h2.symm⟩
      ·simp at h2
    | succ j => exact ih2 j o' gi (by simpa using h5) (by simpa using h6)
   ·simp at h
  ·simp at h
section
variable {P:Program} {o:Oper} {ops:Array Oper} {a:Act} {m:Bool} {ρ:Map} {H H':Heap} {w w':World} {τ τ':Env} {N:Nat} {T:Tab} {v:SV} {gi:GI}
theorem ziA (hT:TabOK P T) (hl:LOp P N ops o gi) (hm:m = true → gi.i.mono T = true) (hN:a.tmps.size = N) (hd:a.defers = []) (hr:∀ s ∈ gi.reads,VRel ρ w (Tm.get τ s) (a.tmps.getD s undef)) (hH:HRel ρ H w)
  (hun:Unb ρ H H') (hux:m = false → ∀ β,H.length ≤ β → ρ β = .unborn) (he:stepG T gi τ H = some (τ',H')) {K:Act → World → Prop} {Q:Exit → Act → World → Prop}
  (hK:∀ v u w' ρ',Good m ρ H w v H' u w' ρ' → (∀ n,Tm.get τ' n = if gi.d = some n then v else Tm.get τ n) → K (a.put o.dst u) w') :
  if Region.wanted o (yielded ops a.tmps) = true then o.wp P a w K Q else K (a.put o.dst undef) w:=by
 obtain ⟨b,hb1,hb2,hb3,hb4⟩:=zms he
 have hw:Region.wanted o (yielded ops a.tmps) = b:=by
  unfold Region.wanted
  rcases hl.g with ⟨h1,h2⟩ | ⟨j,want,oj,s,h1,h2,h3,h4⟩
  ·rw [h1,hb1 h2]
  ·rw [h1]
   have h6:=hr s (by simp [GI.reads,h4])
   rcases hb2 s want h4 with h5 | ⟨rfl,h5⟩
   ·rw [h5] at h6
    simp only [VRel] at h6
    have h7:a.tmps[s]? = some (.bool (if b = true then want else !want)):=by
     rw [Array.getD_eq_getD_getElem?] at h6
     cases hs:a.tmps[s]? with
     | none => rw [hs] at h6; simp [undef] at h6
     | some x => rw [hs] at h6; simpa using h6
    simp only [yielded,h2,Option.bind_some,h3,h7]
    cases b <;> cases want <;> rfl
   ·rw [h5] at h6
    simp only [VRel,VRels] at h6
    obtain ⟨us,h6,_⟩:=h6
    simp only [yielded,h2,Option.bind_some,h3]
    rw [Array.getD_eq_getD_getElem?] at h6
    cases hs:a.tmps[s]? with
    | none => rfl
    | some x => rw [hs] at h6; simp at h6; subst h6; rfl
 rw [hw]
 cases b with
 | true =>
  obtain ⟨v,h1,h2⟩:=hb3 rfl
  rw [if_pos rfl]
  obtain ⟨frz,hli⟩:=hl.i
  let τ1:Env:=gi.reads.map fun s => (s,Tm.get τ s)
  have hget:∀ (l:List Nat) n,Tm.get (l.map fun s => (s,Tm.get τ s)) n = if n ∈ l then Tm.get τ n else .junk:=by
   intro l n
   induction l with
   | nil => rfl
   | cons x l ih =>
    rw [List.map_cons,Tm.get_cons,ih]
    by_cases h:x = n
    ·subst h; simp
    ·rw [if_neg h]
     by_cases h':n ∈ l
     ·simp [h']
     ·rw [if_neg h',if_neg (by simp [h']; exact fun e => h e.symm)]
  have ht:TRel ρ w τ1 a N:=⟨hN,hd,fun n => by
   rw [hget]
   split
   ·rename_i hn; exact hr n hn
   ·simp [VRel]⟩
  have hrun:runI T gi.i τ1 H (fun v H => some (v,H)) = some (v,H'):=by
   rw [← h1]
   refine zv1 fun s hs => ?_
   rw [hget,if_pos]
   unfold GI.reads
   split
   ·exact hs
   ·exact List.mem_cons_of_mem _ hs
  exact zG1 hT hli hm ht hH hun hux hrun K Q fun u w' ρ' hg => hK v u w' ρ' hg h2
 | false =>
  obtain ⟨rfl,h2⟩:=hb4 rfl
  rw [if_neg (by simp)]
  exact hK (.tup []) undef w ρ (Good.same hH (by simp [VRel,VRels,undef])) h2
theorem ziB {d:Option Nat} {u:Value}:(a.put d u).tmps.size = a.tmps.size:=by
 cases d <;> simp [Act.put]
theorem put_defers' {d:Option Nat} {u:Value}:(a.put d u).defers = a.defers:=by
 cases d <;> rfl
theorem put_get {d:Option Nat} {u:Value} (hd:∀ k,d = some k → k < a.tmps.size) (n:Nat):(a.put d u).tmps.getD n undef = if d = some n then u else a.tmps.getD n undef:=by
 cases d with
 | none => simp [Act.put]
 | some k =>
  simp only [Act.put,Array.getD_eq_getD_getElem?,Option.some.injEq]
  by_cases h:k = n
  ·subst h; simp [hd k rfl]
  ·rw [if_neg h,Array.getElem?_setIfInBounds_ne h]
structure At (P:Program) (N:Nat) (ρ:Map) (H:Heap) (w:World) (τ:Env) (a:Act):Prop where
 t:TRel ρ w τ a N
 h:HRel ρ H w
 u:∀ β,H.length ≤ β → ρ β = .unborn
theorem At.step (hat:At P N ρ H w τ a) (hl:LOp P N ops o gi) {u:Value} {ρ':Map} (hg:Good m ρ H w v H' u w' ρ') (hn:∀ n,Tm.get τ' n = if gi.d = some n then v else Tm.get τ n) :
  At P N ρ' H' w' τ' (a.put o.dst u) where
 t:=⟨by rw [ziB]; exact hat.t.1,by rw [put_defers']; exact hat.t.2.1,fun n => by
  rw [hn,put_get (fun k hk => by rw [hat.t.1]; exact hl.lt k hk),hl.d]
  split
  ·exact hg.vrel
  ·exact (hat.t.2.2 n).step hg.step⟩
 h:=hg.hrel
 u β hβ:=hg.unb β (hat.u β (Nat.le_trans hg.len hβ)) hβ
theorem zv3 (hT:TabOK P T) {Q:Exit → Act → World → Prop}:∀ {l:List Oper} {gs:List GI} {τ:Env} {H:Heap} {ρ:Map} {a:Act} {w:World} {R:Type} {k:Env → Heap → Option R} {r:R},
  gs.length = l.length → (∀ (j:Nat) (o:Oper) (gi:GI),l[j]? = some o → gs[j]? = some gi → LOp P N ops o gi) → At P N ρ H w τ a → runR T gs τ H k = some r →
  (∀ τ' H' ρ' a' w',At P N ρ' H' w' τ' a' → Step ρ w ρ' w' → k τ' H' = some r → Q .normal a' w') → wpList P ops Q l a w
 | [],[],τ,H,ρ,a,w,R,k,r,_,_,hat,he,hQ => by
  simp only [runR] at he
  exact hQ τ H ρ a w hat (Step.refl _ _) he
 | [],_ :: _,_,_,_,_,_,_,_,_,h,_,_,_,_ => by simp at h
 | _ :: _,[],_,_,_,_,_,_,_,_,h,_,_,_,_ => by simp at h
 | o :: l,gi :: gs,τ,H,ρ,a,w,R,k,r,hlen,hls,hat,he,hQ => by
  rw [zG6,Option.bind_eq_some_iff] at he
  obtain ⟨⟨τ1,H1⟩,h1,h2⟩:=he
  have hl:=hls 0 o gi rfl rfl
  unfold wpList
  have:=ziA (m:=false) (Q:=Q) (K:=wpList P ops Q l) hT hl (by simp) hat.t.1 hat.t.2.1 (fun s _ => hat.t.2.2 s) hat.h (fun β hβ _ => hat.u β hβ) (fun _ β hβ => hat.u β hβ) h1
   (fun v u w' ρ' hg hn => zv3 hT (by simpa using hlen) (fun j o gi h3 h4 => hls (j + 1) o gi h3 h4) (hat.step hl hg hn) h2
    (fun τ' H' ρ'' a' w'' hat' hst hk => hQ τ' H' ρ'' a' w'' hat' (hg.step.trans hst) hk))
  split
  ·rename_i hw; rw [if_pos hw] at this; exact .inl this
  ·rename_i hw; rw [if_neg hw] at this; exact this
end
end Go.Proofs.YtljojacnjjgceaaGreat.Den
namespace Go.Proofs.YtljojacnjjgceaaGreat.Den
open Go Go.RowKit
def I.pure:I → Bool
  | .bsl _ frz _ m _ _ ps => !frz && (Nat.beq m 0 && ps.isEmpty)
  | .mv _ | .bse _ _ _ _ _ | .boxe _ _ | .pick _ _ _ | .build _ _ | .nilck _ | .bin _ _ _ | .beq _ _ _ | .eqs _ _ _ _ | .not _ | .neg _ | .conv _ _ | .fa _ _ | .fld _ _ _ _ | .ixa _ _ _ _ _ | .ext _ _ | .mn _ _ | .mx _ _ | .mkif _ _ | .tas _ _ _ _ | .mkfn _ _ _ => true
  | _ => false
def I.isLdc:I → Bool
  | .ldc _ _ _ => true
  | .iac _ _ _ => true
  | _ => false
def I.quiet (i:I):Bool:=i.pure || i.isLdc
structure Inf where
  d:Option Nat
  rd:List Nat
  p:Bool
  q:Bool
  m:Bool
  c:Bool
  e:Bool
def GI.inf (T:Tab) (gi:GI):Inf:=⟨gi.d,gi.reads,gi.i.pure,gi.i.isLdc,gi.i.mono T,gi.i.isCall,gi.early⟩
def hits (d:Option Nat) (l:List Nat):Bool :=
  match d with
  | some n => l.any (Nat.beq n)
  | none => false
def sameD (d e:Option Nat):Bool :=
  match d,e with
  | some n,some m => Nat.beq n m
  | _,_ => false
def Inf.clash (x y:Inf):Bool:=hits x.d y.rd || (sameD x.d y.d || (hits y.d x.rd || ((!x.m && (!y.p && (!(y.q && x.c) && !y.e))) || (!y.m && (!x.p && !(x.q && y.c))))))
def maskOf (tbl:List Nat) (o:Oper):Nat :=
  o.after.toList.foldl (fun m e => cond (Region.binds .any e) (m ||| (tbl.getD e.on 0 ||| 1 <<< e.on)) m) 0
def ancTab (ops:List Oper):List Nat:=ops.foldl (fun t o => t ++ [maskOf t o]) []
def masksOK (tbl:List Nat):List Oper → List Nat → Nat → Bool
  | [],[],_ => true
  | o :: r,m :: ms,j => Nat.beq (maskOf tbl o) m && (o.after.toList.all (fun e => !(Region.binds .any e) || Nat.blt e.on j) && masksOK tbl r ms (j + 1))
  | _,_,_ => false
def backOK (x:Inf) (m:Nat):List Inf → Nat → Bool
  | [],_ => true
  | y :: r,i => (!(y.clash x) || m.testBit i) && backOK x m r (i + 1)
def pairsOK (all:List Inf):List Inf → List Nat → Nat → Bool
  | [],[],_ => true
  | x :: r,m :: ms,j => backOK x m (all.take j) 0 && pairsOK all r ms (j + 1)
  | _,_,_ => false
def aloneB (y:Inf) (j:Nat):List Inf → Nat → Bool
  | [],_ => true
  | z :: r,i => ((Nat.beq i j || !sameD y.d z.d) && (!hits y.d z.rd || !z.m)) && aloneB y j r (i + 1)
def earlyOK (all:List Inf):List Inf → Nat → Bool
  | [],_ => true
  | y :: r,j => (!y.e || aloneB y j all 0) && earlyOK all r (j + 1)
def orderOK (T:Tab) (ops:List Oper) (gs:List GI):Bool :=
  (masksOK (ancTab ops) ops (ancTab ops) 0 && pairsOK (gs.map (GI.inf T)) (gs.map (GI.inf T)) (ancTab ops) 0) && earlyOK (gs.map (GI.inf T)) (gs.map (GI.inf T)) 0
section
variable {T:Tab}
theorem zv4 {tbl:List Nat}:∀ {l:List Oper} {ms:List Nat} {k:Nat},masksOK tbl l ms k = true → ms.length = l.length ∧
    ∀ (j:Nat) (o:Oper),l[j]? = some o → ms[j]? = some (maskOf tbl o) ∧ ∀ e ∈ o.after,Region.binds .any e = true → e.on < k + j
  | [],[],k,_ => by simp
  | [],_ :: _,_,h => by simp [masksOK] at h
  | _ :: _,[],_,h => by simp [masksOK] at h
  | o :: r,m :: ms,k,h => by
    simp only [masksOK,Bool.and_eq_true,List.all_eq_true] at h
    obtain ⟨h1,h2,h3⟩:=h
    obtain ⟨ih1,ih2⟩:=zv4 h3
    refine ⟨by simp [ih1],fun j o' hj => ?_⟩
    cases j with
    | zero =>
      simp at hj; subst hj
      refine ⟨by simp [Nat.eq_of_beq_eq_true h1],fun e he hb => ?_⟩
      have:=h2 e (by simpa using he)
      rw [hb] at this
      simpa [Nat.blt_eq] using this
    | succ j =>
      obtain ⟨h4,h5⟩:=ih2 j o' (by simpa using hj)
      exact ⟨by simpa using h4,fun e he hb => by have:=h5 e he hb; omega⟩
theorem zG8 {tbl:List Nat} {o:Oper} {i:Nat} (h:(maskOf tbl o).testBit i = true):∃ e ∈ o.after,Region.binds .any e = true ∧ (e.on = i ∨ (tbl.getD e.on 0).testBit i = true):=by
  unfold maskOf at h
  have gen:∀ (l:List Edge) (m:Nat),(l.foldl (fun m e => cond (Region.binds .any e) (m ||| (tbl.getD e.on 0 ||| 1 <<< e.on)) m) m).testBit i = true →
      m.testBit i = true ∨ ∃ e ∈ l,Region.binds .any e = true ∧ (e.on = i ∨ (tbl.getD e.on 0).testBit i = true):=by
    intro l
    induction l with
    | nil => intro m h; exact .inl h
    | cons e l ih =>
      intro m h
      simp only [List.foldl_cons] at h
      rcases ih _ h with h1 | ⟨e',h2,h3⟩
      · cases hb:Region.binds .any e with
        | false => rw [hb] at h1; exact .inl h1
        | true =>
          rw [hb] at h1
          simp only [cond,Nat.testBit_or,Bool.or_eq_true] at h1
          rcases h1 with h1 | h1 | h1
          · exact .inl h1
          · exact .inr ⟨e,by simp,hb,.inr h1⟩
          · rw [Nat.one_shiftLeft,Nat.testBit_two_pow] at h1
            exact .inr ⟨e,by simp,hb,.inl (by simpa using h1)⟩
      · exact .inr ⟨e',List.mem_cons_of_mem _ h2,h3⟩
  rcases gen _ _ h with h1 | ⟨e,h2,h3⟩
  · simp at h1
  · exact ⟨e,by simpa using h2,h3⟩
theorem zv5 {x:Inf} {m:Nat}:∀ {l:List Inf} {k:Nat},backOK x m l k = true → ∀ (i:Nat) (y:Inf),l[i]? = some y → y.clash x = true → m.testBit (k + i) = true
  | [],_,_,i,y,hy,_ => by simp at hy
  | z :: r,k,h,i,y,hy,hc => by
    simp only [backOK,Bool.and_eq_true] at h
    cases i with
    | zero =>
      simp at hy; subst hy
      have:=h.1
      rw [hc] at this
      simpa using this
    | succ i =>
      have:=zv5 h.2 i y (by simpa using hy) hc
      rw [← this]; congr 1; omega
theorem zv6 {all:List Inf}:∀ {l:List Inf} {ms:List Nat} {k:Nat},pairsOK all l ms k = true →
    ∀ (j:Nat) (x:Inf) (m:Nat),l[j]? = some x → ms[j]? = some m → ∀ (i:Nat) (y:Inf),i < k + j → all[i]? = some y → y.clash x = true → m.testBit i = true
  | [],_,_,_,j,x,m,hx,_,i,y,_,_,_ => by simp at hx
  | _ :: _,[],_,_,j,x,m,_,hm,i,y,_,_,_ => by simp at hm
  | z :: r,n :: ms,k,h,j,x,m,hx,hm,i,y,hi,hy,hc => by
    simp only [pairsOK,Bool.and_eq_true] at h
    cases j with
    | zero =>
      simp at hx hm; subst hx; subst hm
      have:=zv5 h.1 i y (by rw [List.getElem?_take,if_pos (by omega)]; exact hy) hc
      simpa using this
    | succ j => exact zv6 h.2 j x m (by simpa using hx) (by simpa using hm) i y (by omega) hy hc
structure Ordered (T:Tab) (ops:Array Oper) (gs:List GI) (B:Nat → Nat → Prop):Prop where
  anc:∀ j o,ops[j]? = some o → ∀ i,B i j → ∃ e ∈ o.after,Region.binds .any e = true ∧ (e.on = i ∨ B i e.on)
  back:∀ j o,ops[j]? = some o → ∀ e ∈ o.after,Region.binds .any e = true → e.on < j
  pair:∀ i j x y,i < j → gs[i]? = some x → gs[j]? = some y → (x.inf T).clash (y.inf T) = true → B i j
  alone:∀ (i j:Nat) (y z:GI) (s:Nat),gs[i]? = some y → gs[j]? = some z → y.early = true → y.d = some s → (j ≠ i → z.d ≠ some s) ∧ (s ∈ z.reads → z.i.mono T = false)
theorem zv7 {y:Inf} {j:Nat}:∀ {l:List Inf} {k:Nat},aloneB y j l k = true → ∀ (i:Nat) (z:Inf),l[i]? = some z → (k + i ≠ j → sameD y.d z.d = false) ∧ (hits y.d z.rd = true → z.m = false)
  | [],_,_,i,z,hz => by simp at hz
  | x :: r,k,h,i,z,hz => by
    simp only [aloneB,Bool.and_eq_true] at h
    cases i with
    | zero =>
      simp at hz; subst hz
      refine ⟨fun hne => ?_,fun hh => ?_⟩
      · have:=h.1.1
        rw [show Nat.beq k j = false from by
          cases hb:Nat.beq k j with
          | false => rfl
          | true => exact absurd (Nat.eq_of_beq_eq_true hb) (by simpa using hne)] at this
        simpa using this
      · have:=h.1.2
        rw [hh] at this
        simpa using this
    | succ i =>
      obtain ⟨h1,h2⟩:=zv7 h.2 i z (by simpa using hz)
      exact ⟨fun hne => h1 (by omega),h2⟩
theorem zv8 {all:List Inf}:∀ {l:List Inf} {k:Nat},earlyOK all l k = true → ∀ (i:Nat) (y:Inf),l[i]? = some y → y.e = true → aloneB y (k + i) all 0 = true
  | [],_,_,i,y,hy,_ => by simp at hy
  | x :: r,k,h,i,y,hy,he => by
    simp only [earlyOK,Bool.and_eq_true] at h
    cases i with
    | zero =>
      simp at hy; subst hy
      have:=h.1
      rw [he] at this
      simpa using this
    | succ i =>
      have:=zv8 h.2 i y (by simpa using hy) he
      rw [← this]; congr 1; omega
theorem zG9 {ops:Array Oper} {gs:List GI} (hlen:gs.length = ops.size) (h:orderOK T ops.toList gs = true):∃ B,Ordered T ops gs B:=by
  unfold orderOK at h
  simp only [Bool.and_eq_true] at h
  obtain ⟨⟨h1,h2⟩,h0⟩:=h
  obtain ⟨h3,h4⟩:=zv4 h1
  refine ⟨fun i j => ((ancTab ops.toList).getD j 0).testBit i = true,fun j o hj i hb => ?_,fun j o hj e he hb => ?_,fun i j x y hij hx hy hc => ?_,fun i j y z s hy hz he hd => ?_⟩
  · obtain ⟨h5,_⟩:=h4 j o (by rw [Array.getElem?_toList]; exact hj)
    have h6:(ancTab ops.toList).getD j 0 = maskOf (ancTab ops.toList) o:=by
      rw [List.getD_eq_getElem?_getD,h5]; rfl
    simp only [h6] at hb
    exact zG8 hb
  · have:=(h4 j o (by rw [Array.getElem?_toList]; exact hj)).2 e he hb
    omega
  · have hj:j < ops.size:=by rw [← hlen]; exact (List.getElem?_eq_some_iff.1 hy).1
    have hm:(ancTab ops.toList)[j]? = some ((ancTab ops.toList).getD j 0):=by
      rw [List.getD_eq_getElem?_getD,List.getElem?_eq_getElem (by rw [h3]; simpa using hj)]; rfl
    exact zv6 h2 j (y.inf T) _ (by rw [List.getElem?_map,hy]; rfl) hm i (x.inf T) (by omega) (by rw [List.getElem?_map,hx]; rfl) hc
  · have h5:=zv8 h0 i (y.inf T) (by rw [List.getElem?_map,hy]; rfl) he
    obtain ⟨h6,h7⟩:=zv7 h5 j (z.inf T) (by rw [List.getElem?_map,hz]; rfl)
    refine ⟨fun hne hz' => ?_,fun hr => ?_⟩
    · have h8:=h6 (by omega)
      simp only [GI.inf,hd,hz',sameD] at h8
      rw [Nat.beq_refl] at h8; cases h8
    · refine h7 ?_
      simp only [GI.inf,hd,hits,List.any_eq_true]
      exact ⟨s,hr,Nat.beq_refl s⟩
end
section
variable {R:Type} {T:Tab} {τ:Env} {H H':Heap} {v:SV}
theorem zv9 {i:I} (hp:i.pure = true) {H2:Heap} (h:runI T i τ H (fun v H => some (v,H)) = some (v,H')):H' = H ∧ runI T i τ H2 (fun v H => some (v,H)) = some (v,H2):=by
  cases i <;> simp only [I.pure,Bool.false_eq_true] at hp <;> simp only [runI] at h ⊢
  case bsl K frz sz len zs t ps =>
    simp only [Bool.and_eq_true,Bool.not_eq_true',List.isEmpty_iff] at hp
    obtain ⟨rfl,h1,rfl⟩:=hp
    obtain rfl:=Nat.eq_of_beq_eq_true h1
    simp only [bslI,Option.some.injEq,Prod.mk.injEq] at h ⊢
    obtain ⟨rfl,rfl⟩:=h
    first | exact ⟨rfl,rfl⟩ | exact ⟨rfl,rfl,rfl⟩ | exact ⟨trivial,trivial⟩ | exact ⟨rfl,trivial⟩ | exact ⟨trivial,rfl,rfl⟩ | simp
  case bin => rw [zmo,Option.bind_eq_some_iff] at h; obtain ⟨u,h1,h2⟩:=h; simp at h2; obtain ⟨rfl,rfl⟩:=h2; rw [zmo,h1]; exact ⟨rfl,rfl⟩
  case ixa => rw [zmn,Option.bind_eq_some_iff] at h; obtain ⟨u,h1,h2⟩:=h; simp at h2; obtain ⟨rfl,rfl⟩:=h2; rw [zmn,h1]; exact ⟨rfl,rfl⟩
  case fld =>
    split at h
    · rename_i e
      rw [z7,Option.bind_eq_some_iff] at h; obtain ⟨u,h1,h2⟩:=h; simp at h2; obtain ⟨rfl,rfl⟩:=h2; simp only [e]; rw [z7,h1]; first | exact ⟨rfl,rfl⟩ | exact ⟨trivial,rfl⟩
    · simp at h
  case pick =>
    split at h
    · rename_i e
      split at h
      · rename_i e1 e2
        simp at h; obtain ⟨rfl,rfl⟩:=h
        simp [e,e1,e2]
      · rename_i x y e1
        rcases zg h with ⟨rfl,h⟩ | ⟨rfl,h⟩ <;> (simp at h; obtain ⟨rfl,rfl⟩:=h; exact ⟨rfl,rfl⟩)
    · simp at h
  case mn =>
    split at h
    · rename_i e1 e2
      simp only [Option.some.injEq,Prod.mk.injEq] at h; obtain ⟨rfl,rfl⟩:=h
      simp only [e1,e2]; first | exact ⟨rfl,rfl⟩ | exact ⟨trivial,rfl⟩ | exact ⟨trivial,trivial⟩
    · simp at h
  case mx =>
    split at h
    · rename_i e1 e2
      simp only [Option.some.injEq,Prod.mk.injEq] at h; obtain ⟨rfl,rfl⟩:=h
      simp only [e1,e2]; first | exact ⟨rfl,rfl⟩ | exact ⟨trivial,rfl⟩ | exact ⟨trivial,trivial⟩
    · simp at h
  all_goals (repeat' split at h)
  all_goals (first | (simp only [Option.some.injEq,Prod.mk.injEq] at h; obtain ⟨rfl,rfl⟩:=h; first | exact ⟨rfl,rfl⟩ | exact ⟨trivial,rfl⟩ | (simp_all; done)) | (cases h; done) | skip)
end
end Go.Proofs.YtljojacnjjgceaaGreat.Den
namespace Go.Proofs.YtljojacnjjgceaaGreat.Den
open Go Go.RowKit
section
variable {R:Type} {P:Program} {T:Tab} {τ τ':Env} {H H':Heap} {v:SV}
theorem zHa {i:I} (h:i.pure = true):i.mono T = true:=by
 cases i
 case bsl K frz sz len zs t ps =>
  simp only [I.pure,Bool.and_eq_true,Bool.not_eq_true'] at h
  simp only [I.mono,h.1]; rfl
 all_goals first | rfl | (simp only [I.pure,Bool.false_eq_true] at h)
theorem zwa {K:Option Kd} {sz:Nat} {t:TypeId} {s x:SV} (h:appI H K sz t s x (fun v H => some (v,H)) = some (v,H')):∃ y,H' = kill s.refs H ++ [y]:=by
 unfold appI at h
 have ⟨_,h⟩:=(zg h).resolve_right (by simp)
 unfold appB at h
 split at h
 ·split at h
  ·split at h
   ·obtain ⟨_,h⟩:=za h
    simp only [Option.some.injEq,Prod.mk.injEq] at h
    exact ⟨_,h.2.symm⟩
   ·simp at h
  ·split at h
   ·split at h
    ·simp only [Option.some.injEq,Prod.mk.injEq] at h
     exact ⟨_,h.2.symm⟩
    ·simp at h
   ·simp at h
 ·split at h
  ·split at h
   ·simp only [Option.some.injEq,Prod.mk.injEq] at h
    exact ⟨_,h.2.symm⟩
   ·simp at h
  ·simp at h
theorem zHb (hT:TabOK P T) {i:I} (hm:i.mono T = true) (h:runI T i τ H (fun v H => some (v,H)) = some (v,H')):∃ Δ,H' = H ++ Δ:=by
 by_cases hp:i.pure = true
 ·exact ⟨[],by rw [(zv9 (H2:=H) hp h).1]; simp⟩
 have same:∀ {f:(SV → Option (SV × Heap)) → Option (SV × Heap)} {g:Option SV},(f (fun v => some (v,H)) = g.bind fun v => some (v,H)) → f (fun v => some (v,H)) = some (v,H') → ∃ Δ,H' = H ++ Δ:=by
  intro f g h1 h2
  rw [h1,Option.bind_eq_some_iff] at h2
  obtain ⟨u,_,h3⟩:=h2
  simp only [Option.some.injEq,Prod.mk.injEq] at h3
  exact ⟨[],by rw [← h3.2]; simp⟩
 cases i <;> (try simp only [I.pure,not_true_eq_false] at hp) <;> simp only [I.mono,Bool.false_eq_true] at hm
 case alloc => simp only [runI,Option.some.injEq,Prod.mk.injEq] at h; exact ⟨_,h.2.symm⟩
 case allocA => simp only [runI,Option.some.injEq,Prod.mk.injEq] at h; exact ⟨_,h.2.symm⟩
 case mkmap => simp only [runI,Option.some.injEq,Prod.mk.injEq] at h; exact ⟨_,h.2.symm⟩
 case maplk =>
  simp only [runI] at h
  split at h
  ·split at h
   ·simp only [Option.some.injEq,Prod.mk.injEq] at h; exact ⟨[],by rw [← h.2]; simp⟩
   ·simp at h
  ·simp at h
 case mapz =>
  simp only [runI] at h
  split at h
  ·split at h
   ·obtain ⟨_,h⟩:=za h
    simp only [Option.some.injEq,Prod.mk.injEq] at h; exact ⟨[],by rw [← h.2]; simp⟩
   ·split at h
    ·obtain ⟨_,h⟩:=za h
     simp only [Option.some.injEq,Prod.mk.injEq] at h; exact ⟨[],by rw [← h.2]; simp⟩
    ·simp at h
   ·simp at h
  ·simp at h
 case box =>
  simp only [runI] at h
  split at h
  ·simp only [Option.some.injEq,Prod.mk.injEq] at h; exact ⟨_,h.2.symm⟩
  ·split at h
   ·simp only [Option.some.injEq,Prod.mk.injEq] at h; exact ⟨_,h.2.symm⟩
   ·simp at h
 case bsl K frz sz len zs t ps =>
  obtain rfl:frz = false:=by cases frz <;> simp at hm ⊢
  simp only [runI] at h
  unfold bslI at h
  split at h
  ·simp only [Option.some.injEq,Prod.mk.injEq] at h; exact ⟨[],by rw [← h.2]; simp⟩
  ·simp at h
  ·split at h
   ·simp at h
   ·split at h
    ·split at h
     ·split at h
      ·simp only [Option.some.injEq,Prod.mk.injEq] at h; exact ⟨_,h.2.symm⟩
      ·simp at h
     ·simp only [Option.some.injEq,Prod.mk.injEq] at h; exact ⟨_,h.2.symm⟩
    ·simp only [Option.some.injEq,Prod.mk.injEq] at h; exact ⟨_,h.2.symm⟩
 case ld => simp only [runI] at h; exact same (f:=fun k => ldI H _ _ _ k) (ldI_nat ..) h
 case ldc => simp only [runI] at h; exact same (f:=fun k => ldI H _ _ _ k) (ldI_nat ..) h
 case ia => simp only [runI] at h; exact same (f:=fun k => iaI H _ _ _ k) (iaI_nat ..) h
 case iac => simp only [runI] at h; exact same (f:=fun k => iaI H _ _ _ k) (iaI_nat ..) h
 case iar => simp only [runI] at h; exact same (f:=fun k => iarI H _ _ _ _ k) (zpW ..) h
 case sl => simp only [runI] at h; exact same (f:=fun k => slI H _ _ _ _ _ k) (slI_nat ..) h
 case len =>
  simp only [runI] at h
  split at h
  ·simp only [Option.some.injEq,Prod.mk.injEq] at h; exact ⟨[],by rw [← h.2]; simp⟩
  ·simp at h
 case ixs =>
  simp only [runI] at h
  split at h
  ·obtain ⟨_,h⟩:=za h
   obtain ⟨_,h⟩:=za h
   simp only [Option.some.injEq,Prod.mk.injEq] at h; exact ⟨[],by rw [← h.2]; simp⟩
  ·simp at h
 case nilt =>
  simp only [runI] at h
  split at h
  ·obtain ⟨_,h⟩:=za h
   simp only [Option.some.injEq,Prod.mk.injEq] at h; exact ⟨[],by rw [← h.2]; simp⟩
  ·simp at h
 case cap0 =>
  simp only [runI] at h
  split at h
  ·simp only [Option.some.injEq,Prod.mk.injEq] at h; exact ⟨[],by rw [← h.2]; simp⟩
  ·simp at h
 case appz =>
  simp only [runI] at h
  split at h
  ·obtain ⟨_,h⟩:=za h
   obtain ⟨_,h⟩:=za h
   simp only [Option.some.injEq,Prod.mk.injEq] at h; exact ⟨_,h.2.symm⟩
  ·simp at h
 case app0 =>
  simp only [runI] at h
  split at h
  ·obtain ⟨y,hy⟩:=zwa h
   exact ⟨[y],by rw [hy]; rfl⟩
  ·simp at h
 case mk K zs t n cap =>
  simp only [runI,mkI] at h
  have fin:∀ {y:Blk},H ++ [y] = H' → ∃ Δ,H' = H ++ Δ:=fun h => ⟨_,h.symm⟩
  split at h
  ·split at h
   ·split at h
    ·obtain ⟨_,h⟩:=za h
     obtain ⟨_,h⟩:=za h
     simp only [Option.some.injEq,Prod.mk.injEq] at h; exact fin h.2
    ·split at h
     ·split at h
      ·simp only [Option.some.injEq,Prod.mk.injEq] at h; exact fin h.2
      ·simp at h
     ·simp at h
   ·split at h
    ·obtain ⟨_,h⟩:=za h
     obtain ⟨_,h⟩:=za h
     obtain ⟨_,h⟩:=za h
     simp only [Option.some.injEq,Prod.mk.injEq] at h; exact fin h.2
    ·split at h
     ·split at h
      ·simp only [Option.some.injEq,Prod.mk.injEq] at h; exact fin h.2
      ·simp at h
     ·simp at h
   ·simp at h
  ·simp at h
 case call f as =>
  simp only [runI] at h
  obtain ⟨te,x,y,h1,h2,h3,h4⟩:=zpT h
  exact hT.ext f te h1 (zvS (as:=as) h1 (by simpa only [I.mono] using hm)) x y _ _ _ _ h4
theorem zmt (hT:TabOK P T) {gi:GI} (hm:gi.i.mono T = true) (h:stepG T gi τ H = some (τ',H')):∃ Δ,H' = H ++ Δ:=by
 obtain ⟨b,_,_,h3,h4⟩:=zms h
 cases b with
 | true => obtain ⟨v,h5,_⟩:=h3 rfl; exact zHb hT hm h5
 | false => exact ⟨[],by rw [(h4 rfl).1]; simp⟩
theorem zwb {gi:GI} (hp:gi.i.pure = true) (h:stepG T gi τ H = some (τ',H')) (H2:Heap):H' = H ∧ stepG T gi τ H2 = some (τ',H2):=by
 have run:∀ {τ1:Env},runI T gi.i τ1 H (fun v H' => some (putD τ1 gi.d v,H')) = some (τ',H') → H' = H ∧ runI T gi.i τ1 H2 (fun v H' => some (putD τ1 gi.d v,H')) = some (τ',H2):=by
  intro τ1 h1
  rw [zaT,Option.bind_eq_some_iff] at h1
  obtain ⟨⟨v,H3⟩,h2,h3⟩:=h1
  simp only [Option.some.injEq,Prod.mk.injEq] at h3
  obtain ⟨rfl,rfl⟩:=h3
  obtain ⟨h4,h5⟩:=zv9 (H2:=H2) hp h2
  rw [zaT,h5]
  exact ⟨h4,rfl⟩
 unfold stepG runG at h ⊢
 split at h
 ·exact run h
 ·split at h
  ·rename_i e
   simp only [e]
   split at h
   ·rcases zg h with ⟨rfl,h⟩ | ⟨rfl,h⟩
    ·exact run h
    ·simp only [Option.some.injEq,Prod.mk.injEq] at h
     obtain ⟨rfl,rfl⟩:=h
     exact ⟨rfl,rfl⟩
   ·rcases zg h with ⟨rfl,h⟩ | ⟨rfl,h⟩
    ·simp only [Option.some.injEq,Prod.mk.injEq] at h
     obtain ⟨rfl,rfl⟩:=h
     exact ⟨rfl,rfl⟩
    ·exact run h
  ·rename_i e
   simp only [e]
   simp only [Option.some.injEq,Prod.mk.injEq] at h
   obtain ⟨rfl,rfl⟩:=h
   exact ⟨rfl,rfl⟩
  ·simp at h
theorem zeK {i:I} (h:i.quiet = true):i.mono T = true:=by
 unfold I.quiet at h
 simp only [Bool.or_eq_true] at h
 rcases h with h | h
 ·exact zHa h
 ·cases i <;> simp only [I.isLdc,Bool.false_eq_true] at h <;> rfl
def SV.at (v:SV) (β:Nat):Prop:=(∃ off,v = .ptr β off) ∨ (∃ i j,v = .aptr β i j) ∨ v = .own β ∨ ∃ i j,v = .sub β i j
theorem zHc {R:Type} {r:R} {n:Nat} {ag:Bool} {x:SV} {k:SV → Option R} {H2:Heap} (hH2:∀ β y,x.at β → H[β]? = some y → H2[β]? = some y) (h:ldI H n ag x k = some r):ldI H2 n ag x k = some r:=by
 cases x with
 | ptr β off =>
  simp only [ldI] at h ⊢
  cases hb:H[β]? with
  | none => rw [hb] at h; cases h
  | some y => rw [hH2 β y (.inl ⟨_,rfl⟩) hb]; rw [hb] at h; exact h
 | aptr β i j =>
  simp only [ldI] at h ⊢
  cases hb:H[β]? with
  | none => rw [hb] at h; cases h
  | some y => rw [hH2 β y (.inr (.inl ⟨_,_,rfl⟩)) hb]; rw [hb] at h; exact h
 | eptr K y j => simpa only [ldI] using h
 | _ => simp only [ldI] at h; cases h
theorem zwc {gi:GI} {n:Nat} {ag:Bool} {s:Nat} (hi:gi.i = .ldc n ag s) (h:stepG T gi τ H = some (τ',H')) {H2:Heap} (hH2:∀ β y,(Tm.get τ s).at β → H[β]? = some y → H2[β]? = some y) :
  H' = H ∧ stepG T gi τ H2 = some (τ',H2):=by
 have run:∀ {τ1:Env},(Tm.get τ1 s = Tm.get τ s) → runI T gi.i τ1 H (fun v H' => some (putD τ1 gi.d v,H')) = some (τ',H') → H' = H ∧ runI T gi.i τ1 H2 (fun v H' => some (putD τ1 gi.d v,H')) = some (τ',H2):=by
  intro τ1 e h1
  rw [hi] at h1 ⊢
  simp only [runI,e] at h1 ⊢
  rw [ldI_nat,Option.bind_eq_some_iff] at h1 ⊢
  obtain ⟨v,h2,h3⟩:=h1
  simp only [Option.some.injEq,Prod.mk.injEq] at h3
  obtain ⟨rfl,rfl⟩:=h3
  exact ⟨rfl,v,zHc hH2 h2,rfl⟩
 have same:∀ {m:Nat} {v:SV},Tm.get τ m = v → Tm.get ((m,v) :: τ) s = Tm.get τ s:=fun e => zcA e s
 unfold stepG runG at h ⊢
 split at h
 ·exact run rfl h
 ·split at h
  ·rename_i e
   simp only [e]
   split at h
   ·rcases zg h with ⟨rfl,h⟩ | ⟨rfl,h⟩
    ·exact run (same e) h
    ·simp only [Option.some.injEq,Prod.mk.injEq] at h
     obtain ⟨rfl,rfl⟩:=h
     exact ⟨rfl,rfl⟩
   ·rcases zg h with ⟨rfl,h⟩ | ⟨rfl,h⟩
    ·simp only [Option.some.injEq,Prod.mk.injEq] at h
     obtain ⟨rfl,rfl⟩:=h
     exact ⟨rfl,rfl⟩
    ·exact run (same e) h
  ·rename_i e
   simp only [e]
   simp only [Option.some.injEq,Prod.mk.injEq] at h
   obtain ⟨rfl,rfl⟩:=h
   exact ⟨rfl,rfl⟩
  ·simp at h
theorem zHd {R:Type} {r:R} {sz:Nat} {x i:SV} {k:SV → Option R} {H2:Heap} (hH2:∀ β y,x.at β → H[β]? = some y → H2[β]? = some y) (h:iaI H sz x i k = some r):iaI H2 sz x i k = some r:=by
 cases i with
 | int kk n =>
  cases x with
  | own β =>
   simp only [iaI] at h ⊢
   cases hb:H[β]? with
   | none => rw [hb] at h; cases h
   | some y => rw [hH2 β y (.inr (.inr (.inl rfl))) hb]; rw [hb] at h; exact h
  | sub β a b =>
   simp only [iaI] at h ⊢
   cases hb:H[β]? with
   | none => rw [hb] at h; cases h
   | some y => rw [hH2 β y (.inr (.inr (.inr ⟨_,_,rfl⟩))) hb]; rw [hb] at h; exact h
  | es K xs => simpa only [iaI] using h
  | _ => simp only [iaI] at h; cases h
 | _ => simp only [iaI] at h; cases h
theorem zwd {gi:GI} {n:Nat} {ix:S} {s:Nat} (hi:gi.i = .iac n s ix) (h:stepG T gi τ H = some (τ',H')) {H2:Heap} (hH2:∀ β y,(Tm.get τ s).at β → H[β]? = some y → H2[β]? = some y) :
  H' = H ∧ stepG T gi τ H2 = some (τ',H2):=by
 have run:∀ {τ1:Env},(Tm.get τ1 s = Tm.get τ s) → runI T gi.i τ1 H (fun v H' => some (putD τ1 gi.d v,H')) = some (τ',H') → H' = H ∧ runI T gi.i τ1 H2 (fun v H' => some (putD τ1 gi.d v,H')) = some (τ',H2):=by
  intro τ1 e h1
  rw [hi] at h1 ⊢
  simp only [runI,e] at h1 ⊢
  rw [iaI_nat,Option.bind_eq_some_iff] at h1 ⊢
  obtain ⟨v,h2,h3⟩:=h1
  simp only [Option.some.injEq,Prod.mk.injEq] at h3
  obtain ⟨rfl,rfl⟩:=h3
  exact ⟨rfl,v,zHd hH2 h2,rfl⟩
 have same:∀ {m:Nat} {v:SV},Tm.get τ m = v → Tm.get ((m,v) :: τ) s = Tm.get τ s:=fun e => zcA e s
 unfold stepG runG at h ⊢
 split at h
 ·exact run rfl h
 ·split at h
  ·rename_i e
   simp only [e]
   split at h
   ·rcases zg h with ⟨rfl,h⟩ | ⟨rfl,h⟩
    ·exact run (same e) h
    ·simp only [Option.some.injEq,Prod.mk.injEq] at h
     obtain ⟨rfl,rfl⟩:=h
     exact ⟨rfl,rfl⟩
   ·rcases zg h with ⟨rfl,h⟩ | ⟨rfl,h⟩
    ·simp only [Option.some.injEq,Prod.mk.injEq] at h
     obtain ⟨rfl,rfl⟩:=h
     exact ⟨rfl,rfl⟩
    ·exact run (same e) h
  ·rename_i e
   simp only [e]
   simp only [Option.some.injEq,Prod.mk.injEq] at h
   obtain ⟨rfl,rfl⟩:=h
   exact ⟨rfl,rfl⟩
  ·simp at h
theorem zmu {gi:GI} (hq:gi.i.quiet = true) (h:stepG T gi τ H = some (τ',H')):H' = H:=by
 unfold I.quiet at hq
 simp only [Bool.or_eq_true] at hq
 rcases hq with hq | hq
 ·exact (zwb hq h []).1
 ·cases hi:gi.i <;> rw [hi] at hq <;> simp only [I.isLdc,Bool.false_eq_true] at hq
  ·exact (zwc hi h (H2:=H) fun _ _ _ h => h).1
  ·exact (zwd hi h (H2:=H) fun _ _ _ h => h).1
theorem zeL {i:I} (h:i.quiet = false):i.pure = false ∧ i.isLdc = false:=by
 unfold I.quiet at h
 simpa using h
theorem zHe {v:SV} {vs:List SV} (h:v.cells? = some vs):SV.refsL vs = v.refs:=by
 cases v <;> simp only [SV.cells?,Option.some.injEq,reduceCtorEq] at h <;> subst h <;> simp [SV.refs,SV.refsL]
theorem st_keep {n:Nat} {x v:SV} {k:Heap → Option R} {r:R} (h:stI H n x v k = some r):∃ H',k H' = some r ∧ H.length ≤ H'.length ∧ ∀ γ,γ < H.length → γ ∉ x.refs ++ v.refs → H'[γ]? = H[γ]?:=by
 unfold stI at h
 split at h
 ·cases h
 rename_i vs hv
 have hr:=zHe hv
 split at h
 ·split at h
  ·rename_i β off
   have ne:∀ {γ},γ ∉ (SV.ptr β off).refs ++ v.refs → β ≠ γ:=fun h1 e => h1 (by simp [SV.refs,e])
   split at h
   ·split at h
    ·exact ⟨_,h,by simp,fun γ _ h2 => List.getElem?_set_ne (ne h2)⟩
    ·cases h
   ·cases h
  ·rename_i β i j
   have ne:∀ {γ},γ ∉ (SV.aptr β i j).refs ++ v.refs → β ≠ γ:=fun h1 e => h1 (by simp [SV.refs,e])
   split at h
   ·split at h
    ·cases h
    ·split at h
     ·split at h
      ·obtain ⟨_,h⟩:=za h
       refine ⟨_,h,by simp [zc],fun γ _ h2 => ?_⟩
       rw [List.getElem?_set_ne (ne h2),zj,if_neg (fun h3 => h2 (List.mem_append.2 (.inr (hr ▸ h3.1))))]
      ·cases h
     ·cases h
   ·split at h
    ·split at h
     ·obtain ⟨_,h⟩:=za h
      exact ⟨_,h,by simp,fun γ h1 h2 => by rw [List.getElem?_set_ne (ne h2),List.getElem?_append_left h1]⟩
     ·obtain ⟨_,h⟩:=za h
      exact ⟨_,h,by simp,fun γ _ h2 => List.getElem?_set_ne (ne h2)⟩
    ·cases h
   ·cases h
  ·cases h
 ·cases h
theorem zHf (hT:TabOK P T) {i:I} (hl:i.isCall = true) (h:runI T i τ H (fun v H => some (v,H)) = some (v,H')):H.length ≤ H'.length ∧ ∀ γ,γ < H.length → γ ∉ i.touch T τ H → H'[γ]? = H[γ]?:=by
 cases i <;> simp only [I.isCall,Bool.false_eq_true] at hl
 case call f as =>
  simp only [runI] at h
  obtain ⟨te,x,y,h1,h2,h3,h5⟩:=zpT h
  obtain ⟨h6,h7⟩:=hT.tch f te h1 _ _ _ _ _ _ h2 h5
  exact ⟨h6,fun γ h8 h9 => h7 γ h8 fun h => h9 (List.mem_flatMap.2 ⟨te,h1,h⟩)⟩
 case app K sz t s x =>
  simp only [runI] at h
  obtain ⟨y,rfl⟩:=zwa h
  refine ⟨by rw [zpV]; omega,fun γ h8 h9 => ?_⟩
  rw [List.getElem?_append_left (by rw [zc]; exact h8),zj,if_neg (fun h => h9 (by simpa [I.touch] using h.1))]
 case st n x v =>
  simp only [runI] at h
  obtain ⟨H1,h1,h2,h3⟩:=st_keep h
  simp only [Option.some.injEq,Prod.mk.injEq] at h1
  obtain ⟨_,rfl⟩:=h1
  exact ⟨h2,fun γ h8 h9 => h3 γ h8 (by simpa only [I.touch] using h9)⟩
 case appt d K sz t s x =>
  simp only [runI,apptI] at h
  split at h
  ·rename_i a b ea eb
   split at h
   ·obtain ⟨_,h⟩:=za h
    simp only [Option.some.injEq,Prod.mk.injEq] at h
    obtain ⟨_,rfl⟩:=h
    refine ⟨by rw [zpV]; omega,fun γ h8 h9 => ?_⟩
    have h10:γ ∉ a.2 ++ b.2:=by simpa only [I.touch,ea,eb] using h9
    rw [List.getElem?_append_left (by rw [zc]; exact h8),zj,if_neg (fun h => h10 h.1)]
   ·cases h
  ·cases h
theorem zHg {tc rd:List Nat} (h:apart tc rd = true):∀ β ∈ rd,β ∉ tc:=by
 unfold apart at h
 simp only [List.all_eq_true] at h
 intro β hβ hm
 have:=h β hβ
 simp only [Bool.not_eq_true',List.any_eq_false] at this
 exact this β hm (Nat.beq_refl β)
theorem zwe {k:Env → Heap → Option R} {r:R}:∀ {gs:List GI} {tc rd:List Nat} {τ:Env} {H:Heap},(∀ β ∈ rd,β ∉ tc) → runRD T gs tc rd τ H k = some r →
  ∃ st:Nat → Env × Heap,st 0 = (τ,H) ∧ (∀ j gi,gs[j]? = some gi → stepG T gi (st j).1 (st j).2 = some (st (j + 1))) ∧ k (st gs.length).1 (st gs.length).2 = some r ∧
   (∀ β,(β ∈ rd ∨ ∃ (j:Nat) (gj:GI),gs[j]? = some gj ∧ β ∈ gj.calmOf (st j).1) → β ∉ tc ∧ ∀ (i:Nat) (gi:GI),gs[i]? = some gi → β ∉ gi.touched T (st i).1 (st i).2) ∧
   ∀ j gi,gs[j]? = some gi → gi.early = true → bareB (st j).2 (st (j + 1)).2 = true
 | [],tc,rd,τ,H,hd,h => ⟨fun _ => (τ,H),rfl,fun j gi hj => by simp at hj,h,fun β hb => by
   rcases hb with hb | ⟨j,gj,hj,_⟩
   ·exact ⟨hd β hb,fun i gi hi => by simp at hi⟩
   ·simp at hj,fun j gi hj => by simp at hj⟩
 | gi :: gs,tc,rd,τ,H,hd,h => by
  simp only [runRD] at h
  rcases zg h with ⟨ha,h⟩ | ⟨_,h⟩
  ·rw [zv0,Option.bind_eq_some_iff] at h
   obtain ⟨⟨τ1,H1⟩,h1,h2⟩:=h
   obtain ⟨hE,h2⟩:=(zg h2).resolve_left (by simp)
   obtain ⟨st,h3,h4,h5,h6,h7⟩:=zwe (zHg ha) h2
   refine ⟨fun j => match j with | 0 => (τ,H) | j + 1 => st j,rfl,fun j gj hj => ?_,h5,fun β hb => ?_,fun j gj hj he => ?_⟩
   ·cases j with
    | zero => simp at hj; subst hj; simp only [h3]; exact h1
    | succ j => exact h4 j gj (by simpa using hj)
   ·obtain ⟨h8,h10⟩:=h6 β (by
     rcases hb with hb | ⟨j,gj,hj,hb⟩
     ·exact .inl (List.mem_append.2 (.inr hb))
     ·cases j with
      | zero => simp at hj; subst hj; exact .inl (List.mem_append.2 (.inl hb))
      | succ j => exact .inr ⟨j,gj,by simpa using hj,hb⟩)
    refine ⟨fun h => h8 (List.mem_append.2 (.inr h)),fun i gi' hi => ?_⟩
    cases i with
    | zero => simp at hi; subst hi; exact fun h => h8 (List.mem_append.2 (.inl h))
    | succ i => exact h10 i gi' (by simpa using hi)
   ·cases j with
    | zero =>
     simp at hj; subst hj
     simp only [h3]
     simpa [he] using hE
    | succ j => exact h7 j gj (by simpa using hj) he
  ·simp at h
end
section
variable {P:Program} {T:Tab} {ops:Array Oper} {gs:List GI} {B:Nat → Nat → Prop} {st:Nat → Env × Heap} {N:Nat}
def lst (L:Array Bool) (j:Nat):Prop:=L.getD j false = true
def oneMap (b o n sz:Nat):Map:=⟨fun _ => .at b o n sz,fun _ => True,fun _ => none⟩
def Held (ρ:Map) (w:World) (H H':Heap) (v:SV) (u:Value) (b:Nat):Prop :=
 ∃ o n sz cs t z,H' = H ++ [.cells cs t z] ∧ (v = .ptr H.length 0 ∨ v = .own H.length) ∧ BRel ρ w b o n sz (.cells cs t z) ∧ VRel (oneMap b o n sz) w v u
theorem Held.keep {ρ ρ':Map} {w w':World} {H H':Heap} {v:SV} {u:Value} {b:Nat} (h:StepF ρ w ρ' w') (hb:w'.heap[b]? = w.heap[b]?) (hh:Held ρ w H H' v u b):Held ρ' w' H H' v u b:=by
 obtain ⟨o,n,sz,cs,t,z,h1,h2,h3,h4⟩:=hh
 refine ⟨o,n,sz,cs,t,z,h1,h2,?_,?_⟩
 ·simp only [BRel] at h3 ⊢
  obtain ⟨h0,h1,C,tC,h2,h3,h4⟩:=h3
  refine ⟨h0,h1,C,tC,hb.trans h2,h3,fun j s hs => ?_⟩
  obtain ⟨u,h5,h6⟩:=h4 j s hs
  exact ⟨u,h5,h6.stepF h⟩
 ·exact h4.stepF ⟨fun b hf => absurd (.inl trivial) hf.2.1,fun b hf => absurd (.inl trivial) hf.2.1,h.shape,fun _ _ => .inl rfl⟩
mutual
theorem VRel.bare {ρ ρ':Map} {w:World} (h:∀ b,Free ρ w b → Free ρ' w b):∀ {s:SV} {v:Value},s.refs = [] → VRel ρ w s v → VRel ρ' w s v
 | .junk,_,_,_ => by simp [VRel]
 | .int ..,_,_,hv => by simpa [VRel] using hv
 | .bool _,_,_,hv => by simpa [VRel] using hv
 | .nilp,_,_,hv => by simpa [VRel] using hv
 | .ptr β off,v,hr,hv => by simp [SV.refs] at hr
 | .aptr β i j,v,hr,hv => by simp [SV.refs] at hr
 | .eptr K x j,v,_,hv => by
  simp only [VRel] at hv ⊢
  obtain ⟨ad,es,rfl,h1,h2,h3⟩:=hv
  exact ⟨ad,es,rfl,CRel.mono h (fun _ _ => rfl) h1,h _ h2,h3⟩
 | .nils,_,_,hv => by simpa [VRel] using hv
 | .own β,v,hr,hv => by simp [SV.refs] at hr
 | .sub β off len,v,hr,hv => by simp [SV.refs] at hr
 | .es K xs,v,_,hv => by
  simp only [VRel] at hv ⊢
  exact CRel.mono h (fun _ _ => rfl) hv
 | .agg cs,v,hr,hv => by
  simp only [VRel] at hv ⊢
  obtain ⟨vs,rfl,h1⟩:=hv
  exact ⟨vs,rfl,VRels.bare h (by simpa only [SV.refs] using hr) h1⟩
 | .arrv K xs,v,_,hv => by
  simp only [VRel] at hv ⊢
  obtain ⟨vs,rfl,h1,h2⟩:=hv
  refine ⟨vs,rfl,h1,fun i x hx => ?_⟩
  obtain ⟨es,h3,h4⟩:=h2 i x hx
  exact ⟨es,CRel.mono h (fun _ _ => rfl) h3,h4⟩
 | .tup cs,v,hr,hv => by
  simp only [VRel] at hv ⊢
  obtain ⟨vs,rfl,h1⟩:=hv
  exact ⟨vs,rfl,VRels.bare h (by simpa only [SV.refs] using hr) h1⟩
 | .fn f first cap,v,hr,hv => by
  simp only [VRel] at hv ⊢
  simp only [SV.refs,List.append_eq_nil_iff] at hr
  obtain ⟨vf,vc,rfl,h1,h2⟩:=hv
  exact ⟨vf,vc,rfl,VRels.bare h hr.1 h1,VRels.bare h hr.2 h2⟩
 | .nilf,_,_,hv => by simpa [VRel] using hv
 | .iface t x,v,hr,hv => by
  simp only [VRel] at hv ⊢
  obtain ⟨u,rfl,h1⟩:=hv
  exact ⟨u,rfl,VRel.bare h (by simpa only [SV.refs] using hr) h1⟩
 | .nili,_,_,hv => by simpa [VRel] using hv
 | .mapp β,v,hr,hv => by simp [SV.refs] at hr
 | .nilm,_,_,hv => by simpa [VRel] using hv
theorem VRels.bare {ρ ρ':Map} {w:World} (h:∀ b,Free ρ w b → Free ρ' w b):∀ {cs:List SV} {vs:List Value},SV.refsL cs = [] → VRels ρ w cs vs → VRels ρ' w cs vs
 | [],_,_,hv => by simpa [VRels] using hv
 | c :: cs,vs,hr,hv => by
  simp only [VRels] at hv ⊢
  simp only [SV.refsL,List.append_eq_nil_iff] at hr
  obtain ⟨u,us,rfl,h1,h2⟩:=hv
  exact ⟨u,us,rfl,VRel.bare h hr.1 h1,VRels.bare h hr.2 h2⟩
end
theorem zwf {s:SV}:∀ {cs:List SV},SV.refsL cs = [] → s ∈ cs → s.refs = []
 | [],_,h => by cases h
 | c :: cs,hr,h => by
  simp only [SV.refsL,List.append_eq_nil_iff] at hr
  rcases List.mem_cons.1 h with rfl | h
  ·exact hr.1
  ·exact zwf hr.2 h
theorem ziC {gi:GI} (h:gi.early = true):gi.i.mono T = true:=by
 unfold GI.early at h
 simp only [Bool.and_eq_true] at h
 cases hi:gi.i
 case alloc => rfl
 case bsl K frz sz len zs t ps =>
  rw [hi] at h
  simp only [I.early,Bool.and_eq_true] at h
  simp only [I.mono]; exact h.1.2.1
 all_goals (rw [hi] at h; simp [I.early] at h)
theorem zpX {gi:GI} {τ τ':Env} {H H':Heap} (he:gi.early = true) (h:stepG T gi τ H = some (τ',H')) :
  ∃ s cs t z,∃ f:Nat → SV,gi.d = some s ∧ (f = (fun n => .ptr n 0) ∨ f = .own) ∧ H' = H ++ [.cells cs t z] ∧ τ' = (s,f H.length) :: τ ∧ ∀ H2,stepG T gi τ H2 = some ((s,f H2.length) :: τ,H2 ++ [.cells cs t z]):=by
 unfold GI.early at he
 simp only [Bool.and_eq_true,Option.isNone_iff_eq_none,Option.isSome_iff_exists] at he
 obtain ⟨h1,h2,s,h3⟩:=he
 unfold stepG runG at h ⊢
 simp only [h2,h3,putD] at h ⊢
 cases hi:gi.i
 case alloc zs t =>
  rw [hi] at h
  simp only [runI,Option.some.injEq,Prod.mk.injEq] at h ⊢
  obtain ⟨rfl,rfl⟩:=h
  exact ⟨s,zs,t,zs.length,fun n => .ptr n 0,rfl,.inl rfl,rfl,rfl,fun H2 => ⟨rfl,rfl⟩⟩
 case bsl K frz sz len zs t ps =>
  rw [hi] at h h1
  simp only [I.early,Bool.and_eq_true,Bool.not_eq_true',Option.isNone_iff_eq_none] at h1
  obtain ⟨rfl,rfl,h5⟩:=h1
  cases len with
  | zero => cases h5
  | succ len =>
   simp only [runI,bslI] at h ⊢
   split at h
   ·cases h
   ·rename_i cs e
    simp only [Option.some.injEq,Prod.mk.injEq] at h
    obtain ⟨rfl,rfl⟩:=h
    refine ⟨s,cs,t,sz,.own,rfl,.inr rfl,rfl,rfl,fun H2 => ?_⟩
    simp only [e]
 all_goals (rw [hi] at h1; simp [I.early] at h1)
structure DPre (T:Tab) (gs:List GI) (B:Nat → Nat → Prop) (st:Nat → Env × Heap) (N n:Nat) (ρ0:Map) (w0:World) (L:Array Bool) (a:Act) (w:World) (ρ:Map) (J:Nat) (eb:Nat → Option Nat):Prop where
 size:L.size = n
 N:a.tmps.size = N
 d:a.defers = []
 closed:∀ j,lst L j → ∀ i,B i j → lst L i
 Jle:J ≤ n
 Jl:∀ i gi,i < J → gs[i]? = some gi → gi.i.mono T = false → lst L i
 h:HRel ρ (st J).2 w
 u:∀ β,(st J).2.length ≤ β → ρ β = .unborn
 ui:∀ i,i < J → ¬ lst L i → ∀ β,(st i).2.length ≤ β → β < (st (i + 1)).2.length → ρ β = .unborn
 s:∀ s j,j ≤ n → (∀ i gi,i < j → gs[i]? = some gi → gi.d = some s → lst L i) → (∀ i gi,j ≤ i → gs[i]? = some gi → gi.d = some s → ¬ lst L i) →
  (∀ i gi,J ≤ i → i < j → gs[i]? = some gi → gi.d = some s → gi.early = false) → VRel ρ w (Tm.get (st j).1 s) (a.tmps.getD s undef)
 stp:Step ρ0 w0 ⟨ρ.img,ρ0.res0,ρ.vl⟩ w
 r0:∀ b,ρ0.res0 b → b < w0.heap.size
 res:∀ b,ρ.res0 b ↔ (ρ0.res0 b ∨ ∃ i,J ≤ i ∧ eb i = some b)
 lq:∀ i gi,J ≤ i → lst L i → gs[i]? = some gi → gi.i.quiet = true ∨ gi.early = true
 er:∀ i gi s,J ≤ i → lst L i → gs[i]? = some gi → gi.early = true → gi.d = some s → ∃ b,eb i = some b ∧ Held ρ w (st i).2 (st (i + 1)).2 (Tm.get (st (i + 1)).1 s) (a.tmps.getD s undef) b
 eb1:∀ i b,J ≤ i → eb i = some b → w0.heap.size ≤ b ∧ lst L i ∧ ∃ gi,gs[i]? = some gi ∧ gi.early = true
 eb2:∀ i i' b,J ≤ i → J ≤ i' → eb i = some b → eb i' = some b → i = i'
structure DInv (T:Tab) (gs:List GI) (B:Nat → Nat → Prop) (st:Nat → Env × Heap) (N n:Nat) (ρ0:Map) (w0:World) (L:Array Bool) (a:Act) (w:World) (ρ:Map) (J:Nat) (eb:Nat → Option Nat):Prop where
 p:DPre T gs B st N n ρ0 w0 L a w ρ J eb
 Ju:J < n → ¬ lst L J ∧ ∃ gi,gs[J]? = some gi ∧ gi.i.mono T = false
theorem Step.noRes {ρ ρ':Map} {w w':World} (h:Step ρ w ρ' w') (r:Nat → Prop):Step ⟨ρ.img,r,ρ.vl⟩ w ⟨ρ'.img,r,ρ'.vl⟩ w' :=
 ⟨h.os,h.tape,h.output,h.size,h.kept,h.shape,h.img,h.ref,rfl,h.vl⟩
theorem zmv (hst:∀ j gi,gs[j]? = some gi → stepG T gi (st j).1 (st j).2 = some (st (j + 1))) {s j:Nat}:∀ {k:Nat},j ≤ k → k ≤ gs.length →
  (∀ i gi,j ≤ i → i < k → gs[i]? = some gi → gi.d ≠ some s) → Tm.get (st k).1 s = Tm.get (st j).1 s
 | 0,hj,_,_ => by rw [Nat.le_zero.1 hj]
 | k + 1,hj,hk,h => by
  rcases Nat.lt_or_ge j (k + 1) with hlt | hge
  ·have hkl:k < gs.length:=by omega
   have h1:=hst k gs[k] (List.getElem?_eq_getElem hkl)
   have h2:=h k gs[k] (by omega) (by omega) (List.getElem?_eq_getElem hkl)
   obtain ⟨b,_,_,h3,h4⟩:=zms h1
   have e:Tm.get (st (k + 1)).1 s = Tm.get (st k).1 s:=by
    cases b with
    | true => obtain ⟨v,_,h5⟩:=h3 rfl; rw [h5,if_neg h2]
    | false => rw [(h4 rfl).2,if_neg h2]
   rw [e]
   exact zmv hst (by omega) (by omega) fun i gi h5 h6 h7 => h i gi h5 (by omega) h7
  ·have:j = k + 1:=by omega
   rw [this]
theorem ziD (hT:TabOK P T) (hst:∀ j gi,gs[j]? = some gi → stepG T gi (st j).1 (st j).2 = some (st (j + 1))) {j:Nat}:∀ {k:Nat},j ≤ k → k ≤ gs.length →
  (∀ i gi,j ≤ i → i < k → gs[i]? = some gi → gi.i.mono T = true) → ∃ Δ,(st k).2 = (st j).2 ++ Δ
 | 0,hj,_,_ => by rw [Nat.le_zero.1 hj]; exact ⟨[],by simp⟩
 | k + 1,hj,hk,h => by
  rcases Nat.lt_or_ge j (k + 1) with hlt | hge
  ·have hkl:k < gs.length:=by omega
   obtain ⟨Δ,h1⟩:=zmt hT (h k gs[k] (by omega) (by omega) (List.getElem?_eq_getElem hkl)) (hst k gs[k] (List.getElem?_eq_getElem hkl))
   obtain ⟨Δ',h2⟩:=ziD hT hst (show j ≤ k by omega) (by omega) fun i gi h5 h6 h7 => h i gi h5 (by omega) h7
   exact ⟨Δ' ++ Δ,by rw [h1,h2,List.append_assoc]⟩
  ·have:j = k + 1:=by omega
   rw [this]; exact ⟨[],by simp⟩
theorem lst_set {L:Array Bool} {j:Nat} (hj:j < L.size) (i:Nat):lst (L.setIfInBounds j true) i ↔ i = j ∨ lst L i:=by
 unfold lst
 by_cases h:j = i
 ·subst h; simp [hj]
 ·rw [getD_set_ne false h]; simp [Ne.symm h]
theorem hits_of {d:Option Nat} {l:List Nat} {s:Nat} (hd:d = some s) (h:s ∈ l):hits d l = true:=by
 subst hd; simp [hits]; exact h
theorem zHh {d e:Option Nat} {s:Nat} (hd:d = some s) (he:e = some s):sameD d e = true:=by
 subst hd; subst he; simp [sameD]
theorem HRel.pre {ρ:Map} {H Δ:Heap} {w:World} (h:HRel ρ (H ++ Δ) w):HRel ρ H w where
 dead β hl hr:=by have:=h.dead β (by simp; omega) hr; rwa [List.getElem?_append_left hl] at this
 none_ β hl hr:=by have:=h.none_ β (by simp; omega) hr; rwa [List.getElem?_append_left hl] at this
 at_ β hl b o n sz hr:=by have:=h.at_ β (by simp; omega) b o n sz hr; rwa [List.getElem?_append_left hl] at this
 inj:=h.inj
 lt:=h.lt
 resl:=h.resl
 resf:=h.resf
 vr:=h.vr
theorem HRel.ext {ρ:Map} {H:Heap} {w:World} (h:HRel ρ H w) (hu:∀ β,H.length ≤ β → ρ β = .unborn) (Δ:Heap):HRel ρ (H ++ Δ) w where
 dead β hl hr:=by
  rcases Nat.lt_or_ge β H.length with h1 | h1
  ·rw [List.getElem?_append_left h1]; exact h.dead β h1 hr
  ·rw [hu β h1] at hr; cases hr
 none_ β hl hr:=by
  rcases Nat.lt_or_ge β H.length with h1 | h1
  ·rw [List.getElem?_append_left h1]; exact h.none_ β h1 hr
  ·rw [hu β h1] at hr; cases hr
 at_ β hl b o n sz hr:=by
  rcases Nat.lt_or_ge β H.length with h1 | h1
  ·rw [List.getElem?_append_left h1]; exact h.at_ β h1 b o n sz hr
  ·rw [hu β h1] at hr; cases hr
 inj:=h.inj
 lt:=h.lt
 resl:=h.resl
 resf:=h.resf
 vr:=h.vr
theorem HRel.mid {ρ ρ':Map} {H H' Δ:Heap} {w w':World} {v:SV} {u:Value} (h:HRel ρ (H' ++ Δ) w) (hg:Good true ρ H w v H' u w' ρ'):HRel ρ' (H' ++ Δ) w' where
 dead β hl hr:=by
  rcases Nat.lt_or_ge β H'.length with h1 | h1
  ·rw [List.getElem?_append_left h1]; exact hg.hrel.dead β h1 hr
  ·rw [(hg.mono rfl).2.1 β (.inr h1)] at hr; exact h.dead β hl hr
 none_ β hl hr:=by
  rcases Nat.lt_or_ge β H'.length with h1 | h1
  ·rw [List.getElem?_append_left h1]; exact hg.hrel.none_ β h1 hr
  ·rw [(hg.mono rfl).2.1 β (.inr h1)] at hr; exact h.none_ β hl hr
 at_ β hl b o n sz hr:=by
  rcases Nat.lt_or_ge β H'.length with h1 | h1
  ·rw [List.getElem?_append_left h1]; exact hg.hrel.at_ β h1 b o n sz hr
  ·rw [(hg.mono rfl).2.1 β (.inr h1)] at hr
   obtain ⟨x,h2,h3⟩:=h.at_ β hl b o n sz hr
   exact ⟨x,h2,h3.keep hg.step ((hg.mono rfl).2.2.1 b (h.lt _ _ _ _ _ hr)) fun b' hb' => ⟨(hg.mono rfl).2.2.1 b' (h.vlt hb'),(hg.mono rfl).2.2.2 b' b hb'⟩⟩
 inj:=hg.hrel.inj
 lt:=hg.hrel.lt
 resl:=hg.hrel.resl
 resf:=hg.hrel.resf
 vr:=hg.hrel.vr
variable {n:Nat} {ρ0:Map} {w0:World} {L:Array Bool} {a:Act} {w:World} {ρ:Map} {J:Nat} {eb:Nat → Option Nat}
theorem DPre.kept (hi:DPre T gs B st N n ρ0 w0 L a w ρ J eb) {w':World} {ρ':Map} (hs:Step ρ w ρ' w') {i b:Nat} (hJ:J ≤ i) (hb:eb i = some b):w'.heap[b]? = w.heap[b]?:=by
 have hr:ρ.res0 b:=(hi.res b).2 (.inr ⟨i,hJ,hb⟩)
 refine hs.kept b (hi.h.resl b (.inl hr)) (fun β o n sz e => hi.h.resf β b o n sz e (.inl hr)) ?_
 cases hv:ρ.vl b with
 | none => rfl
 | some t => exact absurd hr (hi.h.vr b t hv)
theorem DPre.slots (hi:DPre T gs B st N n ρ0 w0 L a w ρ J eb) (hord:Ordered T ops gs B) (hn:gs.length = n) (hst:∀ j gi,gs[j]? = some gi → stepG T gi (st j).1 (st j).2 = some (st (j + 1)))
  {j:Nat} {gi:GI} {o:Oper} (hj:j < n) (hun:¬ lst L j) (hgi:gs[j]? = some gi) (hl:LOp P N ops o gi) {v:SV} {u:Value} {w':World} {ρ':Map} (hs:StepF ρ w ρ' w') {J':Nat} (hv:∀ s,gi.d = some s → (J' ≤ j → gi.early = false) → VRel ρ' w' v u)
  (hnx:∀ m,(J' ≤ j → gi.early = false) → Tm.get (st (j + 1)).1 m = if gi.d = some m then v else Tm.get (st j).1 m) (hJ:J' = J ∨ (J' = J + 1 ∧ j = J ∧ gi.early = false)) :
  ∀ s k,k ≤ n → (∀ i gi,i < k → gs[i]? = some gi → gi.d = some s → lst (L.setIfInBounds j true) i) → (∀ i gi,k ≤ i → gs[i]? = some gi → gi.d = some s → ¬ lst (L.setIfInBounds j true) i) →
   (∀ i gi,J' ≤ i → i < k → gs[i]? = some gi → gi.d = some s → gi.early = false) → VRel ρ' w' (Tm.get (st k).1 s) ((a.put o.dst u).tmps.getD s undef):=by
 intro s k hk h1 h2 h3
 have hjs:j < L.size:=by rw [hi.size]; exact hj
 rw [put_get (fun d hd => by rw [hi.N]; exact hl.lt d hd),← hl.d]
 by_cases hd:gi.d = some s
 ·rw [if_pos hd]
  have hjk:j < k:=by
   rcases Nat.lt_or_ge j k with h | h
   ·exact h
   ·exact absurd ((lst_set hjs j).2 (.inl rfl)) (h2 j gi h hgi hd)
  have hc:=zmv (s:=s) hst (show j + 1 ≤ k by omega) (by omega) fun i gi' h3 h4 h5 h6 => by
   have h7:=(lst_set hjs i).1 (h1 i gi' h4 h5 h6)
   rcases h7 with h7 | h7
   ·omega
   ·have hb:B j i:=hord.pair j i gi gi' (by omega) hgi h5 (by
     simp only [Inf.clash,GI.inf]; rw [zHh hd h6]; simp)
    exact hun (hi.closed i h7 j hb)
  have he:J' ≤ j → gi.early = false:=fun h => h3 j gi h hjk hgi hd
  rw [hc,hnx _ he,if_pos hd]
  exact hv s hd he
 ·rw [if_neg hd]
  refine (hi.s s k hk (fun i gi' h3 h4 h5 => ?_) (fun i gi' h3 h4 h5 h6 => h2 i gi' h3 h4 h5 ((lst_set hjs i).2 (.inr h6))) (fun i gi' h4 h5 h6 h7 => ?_)).stepF hs
  ·rcases (lst_set hjs i).1 (h1 i gi' h3 h4 h5) with h7 | h7
   ·subst h7
    rw [hgi] at h4; cases h4
    exact absurd h5 hd
   ·exact h7
  ·rcases hJ with rfl | ⟨rfl,h8,h9⟩
   ·exact h3 i gi' h4 h5 h6 h7
   ·rcases Nat.eq_or_lt_of_le h4 with h10 | h10
    ·subst h10; subst h8
     rw [hgi] at h6; cases h6; exact h9
    ·exact h3 i gi' h10 h5 h6 h7
theorem DInv.reads (hi:DInv T gs B st N n ρ0 w0 L a w ρ J eb) (hord:Ordered T ops gs B) (hn:gs.length = n) {j:Nat} {gi:GI} (hj:j < n) (hun:¬ lst L j) (hgi:gs[j]? = some gi) (hanc:∀ i,B i j → lst L i) :
  ∀ s ∈ gi.reads,VRel ρ w (Tm.get (st j).1 s) (a.tmps.getD s undef):=by
 intro s hs
 refine hi.p.s s j (by omega) (fun i gi' h1 h2 h3 => ?_) (fun i gi' h1 h2 h3 h4 => ?_) (fun i gi' h1 h2 h3 h4 => ?_)
 ·refine hanc i (hord.pair i j gi' gi h1 h2 hgi ?_)
  simp only [Inf.clash,GI.inf]; rw [hits_of h3 hs]; simp
 ·rcases Nat.lt_or_ge j i with h5 | h5
  ·refine hun (hi.p.closed i h4 j (hord.pair j i gi gi' h5 hgi h2 ?_))
   simp only [Inf.clash,GI.inf]; rw [hits_of h3 hs]; simp
  ·have:i = j:=by omega
   subst this; exact hun h4
 ·cases he:gi'.early with
  | false => rfl
  | true =>
   have h5:=(hord.alone i j gi' gi s h3 hgi he h4).2 hs
   obtain ⟨h6,gJ,h7,h8⟩:=hi.Ju (by omega)
   refine absurd (hanc J (hord.pair J j gJ gi (by omega) h7 hgi ?_)) h6
   have h9:gi.early = false:=by
    cases h:gi.early with
    | false => rfl
    | true => rw [ziC h] at h5; cases h5
   have h10:gi.i.quiet = false:=by
    cases h:gi.i.quiet with
    | false => rfl
    | true => rw [zeK h] at h5; cases h5
   simp [Inf.clash,GI.inf,h8,h9,zeL h10]
end
end Go.Proofs.YtljojacnjjgceaaGreat.Den
namespace Go.Proofs.YtljojacnjjgceaaGreat.Den
open Go Go.RowKit
section
variable {P:Program} {T:Tab} {ops:Array Oper} {gs:List GI} {B:Nat → Nat → Prop} {st:Nat → Env × Heap} {N:Nat}
variable {n:Nat} {ρ0:Map} {w0:World} {L:Array Bool} {a:Act} {w:World} {ρ:Map} {J:Nat} {eb:Nat → Option Nat}
theorem zmw (hord:Ordered T ops gs B) (hc:∀ j,lst L j → ∀ i,B i j → lst L i) {j:Nat} (hj:j < L.size) (hanc:∀ i,B i j → lst L i) :
  ∀ k,lst (L.setIfInBounds j true) k → ∀ i,B i k → lst (L.setIfInBounds j true) i:=by
 intro k hk i hb
 rcases (lst_set hj k).1 hk with h | h
 ·subst h; exact (lst_set hj i).2 (.inr (hanc i hb))
 ·exact (lst_set hj i).2 (.inr (hc k h i hb))
theorem DPre.mids (hi:DPre T gs B st N n ρ0 w0 L a w ρ J eb) (hord:Ordered T ops gs B) {j:Nat} {gi:GI} (hjJ:j < J) (hun:¬ lst L j) (hgi:gs[j]? = some gi) (hp:gi.i.quiet = false) :
  ∀ i gi',j ≤ i → i < J → gs[i]? = some gi' → gi'.i.mono T = true:=by
 intro i gi' h1 h2 h3
 cases h4:gi'.i.mono T with
 | true => rfl
 | false =>
  have h5:=hi.Jl i gi' h2 h3 h4
  rcases Nat.lt_or_ge j i with h6 | h6
  ·refine absurd (hi.closed i h5 j (hord.pair j i gi gi' h6 hgi h3 ?_)) hun
   simp [Inf.clash,GI.inf,h4,zeL hp]
  ·have:i = j:=by omega
   subst this; exact absurd h5 hun
theorem DPre.below (hT:TabOK P T) (hi:DPre T gs B st N n ρ0 w0 L a w ρ J eb) (hord:Ordered T ops gs B) (hn:gs.length = n) (hst:∀ j gi,gs[j]? = some gi → stepG T gi (st j).1 (st j).2 = some (st (j + 1)))
  {i:Nat} (hiJ:i < J) (hun:¬ lst L i) {β:Nat} (h1:(st i).2.length ≤ β) (h2:β < (st (i + 1)).2.length):β < (st J).2.length:=by
 have hJ:=hi.Jle
 have hin:i < gs.length:=by omega
 have hgi:=List.getElem?_eq_getElem hin
 cases hpi:gs[i].i.quiet with
 | true => rw [zmu hpi (hst i _ hgi)] at h2; omega
 | false =>
  have hm:=hi.mids hord hiJ hun hgi hpi
  obtain ⟨Δ,h9⟩:=ziD hT hst (show i + 1 ≤ J by omega) (by omega) fun q gi' h10 h11 h12 => hm q gi' (by omega) (by omega) h12
  rw [h9]; simp; omega
theorem DPre.advance (hT:TabOK P T) (hord:Ordered T ops gs B) (hn:gs.length = n) (hst:∀ j gi,gs[j]? = some gi → stepG T gi (st j).1 (st j).2 = some (st (j + 1)))
  (hi:DPre T gs B st N n ρ0 w0 L a w ρ J eb) (hJ:J < n) {gi:GI} (hgi:gs[J]? = some gi) (hm:gi.i.mono T = true):∃ ρ',DPre T gs B st N n ρ0 w0 L a w ρ' (J + 1) eb:=by
 by_cases hc:lst L J ∧ gi.early = true
 ·obtain ⟨hl,he⟩:=hc
  obtain ⟨s,cs,t,z,f,hd,hf,hH,hτ,_⟩:=zpX he (hst J gi hgi)
  obtain ⟨b,heb,hh⟩:=hi.er J gi s (Nat.le_refl _) hl hgi he hd
  have hres:ρ.res0 b:=(hi.res b).2 (.inr ⟨J,Nat.le_refl _,heb⟩)
  obtain ⟨h01,_,_⟩:=hi.eb1 J b (Nat.le_refl _) heb
  have hbl:b < w.heap.size:=hi.h.resl b (.inl hres)
  have hno:∀ β o n sz,ρ β ≠ .at b o n sz:=fun β o n sz e => hi.h.resf β b o n sz e (.inl hres)
  have hvn:ρ.vl b = none:=by
   cases hv:ρ.vl b with
   | none => rfl
   | some t => exact absurd hres (hi.h.vr b t hv)
  obtain ⟨o,n',sz,cs',t',z',h1,h2,h3,h4⟩:=hh
  let ρ3:Map:=⟨fun γ => if γ = (st J).2.length then .at b o n' sz else ρ.img γ,fun b' => ρ.res0 b' ∧ b' ≠ b,ρ.vl⟩
  have e1:ρ3 (st J).2.length = .at b o n' sz:=if_pos rfl
  have e2:∀ γ,γ ≠ (st J).2.length → ρ3 γ = ρ γ:=fun γ hγ => if_neg hγ
  have hu0:ρ (st J).2.length = .unborn:=hi.u _ (Nat.le_refl _)
  have hF:StepF ρ w ρ3 w:={
   free:=fun b' hb' => by
    refine ⟨hb'.1,fun hr => hb'.2.1 ?_,fun β o2 n2 sz2 e => ?_⟩
    ·rcases hr with hr | hr
     ·exact .inl hr.1
     ·exact .inr hr
    ·by_cases hβ:β = (st J).2.length
     ·subst hβ; rw [e1] at e; cases e
      exact hb'.2.1 (.inl hres)
     ·rw [e2 β hβ] at e; exact hb'.2.2 _ _ _ _ e
   kept:=fun _ _ => rfl
   shape:=fun _ C _ _ h => ⟨C,h,rfl⟩
   ref:=fun β hβ => .inl (e2 β fun h => hβ (h ▸ hu0)) }
  refine ⟨ρ3,{
   size:=hi.size
   N:=hi.N
   d:=hi.d
   closed:=hi.closed
   Jle:=hJ
   Jl:=fun i gi' h5 h6 h7 => by
    rcases Nat.lt_or_ge i J with h8 | h8
    ·exact hi.Jl i gi' h8 h6 h7
    ·have:i = J:=by omega
     subst this; exact hl
   h:=by
    rw [h1]
    exact {
     dead:=fun γ hl hr => by
      by_cases hγ:γ = (st J).2.length
      ·subst hγ; rw [e1] at hr; cases hr
      ·rw [e2 γ hγ] at hr
       simp at hl
       rw [List.getElem?_append_left (by omega)]
       exact hi.h.dead γ (by omega) hr
     none_:=fun γ hl hr => by
      by_cases hγ:γ = (st J).2.length
      ·subst hγ; rw [e1] at hr; cases hr
      ·rw [e2 γ hγ] at hr
       simp at hl
       rw [List.getElem?_append_left (by omega)]
       exact hi.h.none_ γ (by omega) hr
     at_:=fun γ hl b2 o2 n2 sz2 hr => by
      by_cases hγ:γ = (st J).2.length
      ·subst hγ; rw [e1] at hr; cases hr
       refine ⟨_,by rw [List.getElem?_append_right (Nat.le_refl _),Nat.sub_self]; rfl,?_⟩
       exact h3.keepF hF rfl fun b' hb' => ⟨rfl,hb'⟩
      ·rw [e2 γ hγ] at hr
       simp at hl
       rw [List.getElem?_append_left (by omega)]
       obtain ⟨x,h5,h6⟩:=hi.h.at_ γ (by omega) b2 o2 n2 sz2 hr
       exact ⟨x,h5,h6.keepF hF rfl fun b' hb' => ⟨rfl,hb'⟩⟩
     inj:=fun β γ b2 o2 n2 sz2 o3 n3 sz3 h5 h6 => by
      by_cases hβ:β = (st J).2.length <;> by_cases hγ:γ = (st J).2.length
      ·rw [hβ,hγ]
      ·subst hβ; rw [e1] at h5; cases h5
       rw [e2 γ hγ] at h6; exact absurd h6 (hno _ _ _ _)
      ·subst hγ; rw [e1] at h6; cases h6
       rw [e2 β hβ] at h5; exact absurd h5 (hno _ _ _ _)
      ·rw [e2 β hβ] at h5; rw [e2 γ hγ] at h6
       exact hi.h.inj β γ b2 o2 n2 sz2 o3 n3 sz3 h5 h6
     lt:=fun β b2 o2 n2 sz2 h5 => by
      by_cases hβ:β = (st J).2.length
      ·subst hβ; rw [e1] at h5; cases h5; exact hbl
      ·rw [e2 β hβ] at h5; exact hi.h.lt β b2 o2 n2 sz2 h5
     resl:=fun b2 h5 => by
      rcases h5 with h5 | h5
      ·exact hi.h.resl b2 (.inl h5.1)
      ·exact hi.h.resl b2 (.inr h5)
     resf:=fun β b2 o2 n2 sz2 h5 h6 => by
      by_cases hβ:β = (st J).2.length
      ·subst hβ; rw [e1] at h5; cases h5
       rcases h6 with h6 | h6
       ·exact h6.2 rfl
       ·exact h6 hvn
      ·rw [e2 β hβ] at h5
       refine hi.h.resf β b2 o2 n2 sz2 h5 ?_
       rcases h6 with h6 | h6
       ·exact .inl h6.1
       ·exact .inr h6
     vr:=fun b2 t2 h5 h6 => hi.h.vr b2 t2 h5 h6.1 }
   u:=fun β h5 => by
    rw [h1] at h5
    simp at h5
    rw [e2 β (by omega)]; exact hi.u β (by omega)
   ui:=fun i h5 h6 β h7 h8 => by
    rcases Nat.lt_or_ge i J with h9 | h9
    ·have:=hi.below hT hord hn hst h9 h6 h7 h8
     rw [e2 β (by omega)]; exact hi.ui i h9 h6 β h7 h8
    ·have:i = J:=by omega
     subst this; exact absurd hl h6
   s:=fun s' k hk h5 h6 h7 => by
    by_cases hcc:J < k ∧ s' = s
    ·obtain ⟨h8,rfl⟩:=hcc
     have hc:=zmv (s:=s') hst (show J + 1 ≤ k by omega) (by omega) fun i gi' h3 h4 h5 => (hord.alone J i gi gi' s' hgi h5 he hd).1 (by omega)
     rw [hc]
     rcases h2 with h2 | h2 <;> rw [h2] at h4 ⊢
     ·simp only [VRel,oneMap] at h4
      simp only [VRel,e1]; exact h4
     ·simp only [VRel,oneMap] at h4
      simp only [VRel,e1]; exact h4
    ·refine (hi.s s' k hk h5 h6 fun i gi' h8 h9 h10 h11 => ?_).stepF hF
     rcases Nat.eq_or_lt_of_le h8 with h12 | h12
     ·subst h12
      rw [hgi] at h10; cases h10
      rw [hd] at h11; cases h11
      exact absurd ⟨h9,rfl⟩ hcc
     ·exact h7 i gi' h12 h9 h10 h11
   stp:={
    os:=hi.stp.os
    tape:=hi.stp.tape
    output:=hi.stp.output
    size:=hi.stp.size
    kept:=hi.stp.kept
    shape:=hi.stp.shape
    img:=fun β b2 o2 n2 sz2 h5 => by
     by_cases hβ:β = (st J).2.length
     ·subst hβ
      have h6:ρ3 (st J).2.length = .at b2 o2 n2 sz2:=h5
      rw [e1] at h6; cases h6; exact .inr (.inl h01)
     ·exact hi.stp.img β b2 o2 n2 sz2 (by rw [← e2 β hβ]; exact h5)
    ref:=fun β h5 => by
     have h6:=hi.stp.ref β h5
     have hβ:β ≠ (st J).2.length:=by
      rintro rfl
      rcases h6 with h6 | h6
      ·exact h5 (h6.symm.trans hu0)
      ·rw [show (Map.mk ρ.img ρ0.res0 ρ.vl).img (st J).2.length = .unborn from hu0] at h6; cases h6
     show ρ3 β = ρ0 β ∨ ρ3 β = .dead
     rw [e2 β hβ]; exact h6
    res:=rfl
    vl:=hi.stp.vl }
   r0:=hi.r0
   res:=fun b' => by
    show (ρ.res0 b' ∧ b' ≠ b) ↔ _
    constructor
    ·rintro ⟨h5,h6⟩
     rcases (hi.res b').1 h5 with h7 | ⟨i,h7,h8⟩
     ·exact .inl h7
     ·refine .inr ⟨i,?_,h8⟩
      rcases Nat.eq_or_lt_of_le h7 with h9 | h9
      ·subst h9; rw [heb] at h8; cases h8; exact absurd rfl h6
      ·exact h9
    ·rintro (h5 | ⟨i,h5,h6⟩)
     ·refine ⟨(hi.res b').2 (.inl h5),fun h6 => ?_⟩
      subst h6
      have:=hi.r0 b' h5
      omega
     ·refine ⟨(hi.res b').2 (.inr ⟨i,by omega,h6⟩),fun h7 => ?_⟩
      subst h7
      have:=hi.eb2 i J b' (by omega) (Nat.le_refl _) h6 heb
      omega
   lq:=fun i gi' h5 h6 h7 => hi.lq i gi' (by omega) h6 h7
   er:=fun i gi' s' h5 h6 h7 h8 h9 => by
    obtain ⟨b',h10,h11⟩:=hi.er i gi' s' (by omega) h6 h7 h8 h9
    exact ⟨b',h10,h11.keep hF rfl⟩
   eb1:=fun i b' h5 h6 => hi.eb1 i b' (by omega) h6
   eb2:=fun i i' b' h5 h6 => hi.eb2 i i' b' (by omega) (by omega) }⟩
 ·obtain ⟨Δ,hΔ⟩:=zmt hT hm (hst J gi hgi)
  refine ⟨ρ,{
   size:=hi.size
   N:=hi.N
   d:=hi.d
   closed:=hi.closed
   Jle:=hJ
   Jl:=fun i gi' h5 h6 h7 => by
    rcases Nat.lt_or_ge i J with h8 | h8
    ·exact hi.Jl i gi' h8 h6 h7
    ·have:i = J:=by omega
     subst this; rw [hgi] at h6; cases h6; rw [hm] at h7; cases h7
   h:=by rw [hΔ]; exact hi.h.ext hi.u Δ
   u:=fun β h5 => hi.u β (by rw [hΔ] at h5; simp at h5; omega)
   ui:=fun i h5 h6 β h7 h8 => by
    rcases Nat.lt_or_ge i J with h9 | h9
    ·exact hi.ui i h9 h6 β h7 h8
    ·have:i = J:=by omega
     subst this; exact hi.u β h7
   s:=fun s' k hk h5 h6 h7 => hi.s s' k hk h5 h6 fun i gi' h8 h9 h10 h11 => by
    rcases Nat.eq_or_lt_of_le h8 with h12 | h12
    ·subst h12
     rw [hgi] at h10; cases h10
     cases he:gi.early with
     | false => rfl
     | true => exact absurd ⟨h5 J gi h9 hgi h11,he⟩ hc
    ·exact h7 i gi' h12 h9 h10 h11
   stp:=hi.stp
   r0:=hi.r0
   res:=fun b' => by
    rw [hi.res b']
    refine or_congr_right ⟨fun ⟨i,h5,h6⟩ => ⟨i,?_,h6⟩,fun ⟨i,h5,h6⟩ => ⟨i,by omega,h6⟩⟩
    rcases Nat.eq_or_lt_of_le h5 with h9 | h9
    ·subst h9
     obtain ⟨_,h10,gi',h11,h12⟩:=hi.eb1 J b' h5 h6
     rw [hgi] at h11; cases h11
     exact absurd ⟨h10,h12⟩ hc
    ·exact h9
   lq:=fun i gi' h5 h6 h7 => hi.lq i gi' (by omega) h6 h7
   er:=fun i gi' s' h5 h6 h7 h8 h9 => hi.er i gi' s' (by omega) h6 h7 h8 h9
   eb1:=fun i b' h5 h6 => hi.eb1 i b' (by omega) h6
   eb2:=fun i i' b' h5 h6 => hi.eb2 i i' b' (by omega) (by omega) }⟩
theorem DPre.settle (hT:TabOK P T) (hord:Ordered T ops gs B) (hn:gs.length = n) (hst:∀ j gi,gs[j]? = some gi → stepG T gi (st j).1 (st j).2 = some (st (j + 1))):∀ (m J:Nat) (ρ:Map),J + m = n → DPre T gs B st N n ρ0 w0 L a w ρ J eb → ∃ ρ' J',DInv T gs B st N n ρ0 w0 L a w ρ' J' eb
 | 0,J,ρ,h,hi => ⟨ρ,J,hi,fun h1 => by omega⟩
 | m + 1,J,ρ,h,hi => by
  have hJ:J < gs.length:=by omega
  have hgi:=List.getElem?_eq_getElem hJ
  cases hm:gs[J].i.mono T with
  | false =>
   refine ⟨ρ,J,hi,fun _ => ⟨fun hl => ?_,gs[J],hgi,hm⟩⟩
   rcases hi.lq J _ (Nat.le_refl _) hl hgi with h1 | h1
   ·rw [zeK h1] at hm; cases hm
   ·rw [ziC h1] at hm; cases hm
  | true =>
   obtain ⟨ρ',hi'⟩:=hi.advance hT hord hn hst (by omega) hgi hm
   exact DPre.settle hT hord hn hst m (J + 1) ρ' (by omega) hi'
theorem zmx (hord:Ordered T ops gs B) {a:Act} (hN:a.tmps.size = N) {i j s:Nat} {gi gj:GI} {o:Oper} (hl:LOp P N ops o gj) {u:Value} (h1:gs[i]? = some gi) (h2:gs[j]? = some gj) (he:gi.early = true) (hd:gi.d = some s) (hne:i ≠ j) :
  (a.put o.dst u).tmps.getD s undef = a.tmps.getD s undef:=by
 rw [put_get (fun d hd => by rw [hN]; exact hl.lt d hd),← hl.d,if_neg ((hord.alone i j gi gj s h1 h2 he hd).1 (Ne.symm hne))]
theorem DInv.pure (hT:TabOK P T) (hi:DInv T gs B st N n ρ0 w0 L a w ρ J eb) (hord:Ordered T ops gs B) (hn:gs.length = n) (hst:∀ j gi,gs[j]? = some gi → stepG T gi (st j).1 (st j).2 = some (st (j + 1)))
  {j:Nat} {gi:GI} {o:Oper} (hj:j < n) (hun:¬ lst L j) (hgi:gs[j]? = some gi) (hl:LOp P N ops o gi) (hanc:∀ i,B i j → lst L i) (hq:gi.i.quiet = true) (h2:stepG T gi (st j).1 (st J).2 = some ((st (j + 1)).1,(st J).2)) {K:Act → World → Prop} {Q:Exit → Act → World → Prop}
  (hK:∀ a' w' ρ',DInv T gs B st N n ρ0 w0 (L.setIfInBounds j true) a' w' ρ' J eb → K a' w') :
  if Region.wanted o (yielded ops a.tmps) = true then o.wp P a w K Q else K (a.put o.dst undef) w:=by
 have hm:gi.i.mono T = true:=zeK hq
 have hjs:j < L.size:=by rw [hi.p.size]; exact hj
 refine ziA (m:=true) hT hl (fun _ => hm) hi.p.N hi.p.d (hi.reads hord hn hj hun hgi hanc) hi.p.h (fun β h3 h4 => by omega) (fun h => by cases h) h2 fun v u w' ρ' hg hnx => hK _ _ ρ' ?_
 have hρ:∀ β,ρ' β = ρ β:=fun β => (hg.mono rfl).2.1 β (by omega)
 exact {
  p:={
   size:=by simp [hi.p.size]
   N:=by rw [ziB]; exact hi.p.N
   d:=by rw [put_defers']; exact hi.p.d
   closed:=zmw hord hi.p.closed hjs hanc
   Jle:=hi.p.Jle
   Jl:=fun i gi' h3 h4 h5 => (lst_set hjs i).2 (.inr (hi.p.Jl i gi' h3 h4 h5))
   h:=hg.hrel
   u:=fun β h3 => by rw [hρ]; exact hi.p.u β h3
   ui:=fun i h3 h4 β h5 h6 => by rw [hρ]; exact hi.p.ui i h3 (fun h7 => h4 ((lst_set hjs i).2 (.inr h7))) β h5 h6
   s:=hi.p.slots hord hn hst hj hun hgi hl hg.step.toF (fun _ _ _ => hg.vrel) (fun m _ => hnx m) (.inl rfl)
   stp:=hi.p.stp.trans (hg.step.noRes _)
   r0:=hi.p.r0
   res:=fun b => by rw [hg.step.res]; exact hi.p.res b
   lq:=fun i gi' h3 h4 h5 => by
    rcases (lst_set hjs i).1 h4 with h6 | h6
    ·subst h6; rw [hgi] at h5; cases h5; exact .inl hq
    ·exact hi.p.lq i gi' h3 h6 h5
   er:=fun i gi' s h3 h4 h5 h6 h7 => by
    rcases (lst_set hjs i).1 h4 with h8 | h8
    ·subst h8; rw [hgi] at h5; cases h5
     exfalso
     have h10:=zpX h6 (hst i _ hgi)
     obtain ⟨_,_,_,_,_,_,_,h11,_⟩:=h10
     have h12:=zmu hq (hst i _ hgi)
     rw [h12] at h11
     have:=congrArg List.length h11
     simp at this
    ·obtain ⟨b,h9,h10⟩:=hi.p.er i gi' s h3 h8 h5 h6 h7
     refine ⟨b,h9,?_⟩
     rw [zmx hord hi.p.N hl h5 hgi h6 h7 (by rintro rfl; exact hun h8)]
     exact h10.keep hg.step.toF (hi.p.kept hg.step h3 h9)
   eb1:=fun i b h3 h4 => by
    obtain ⟨h5,h6,h7⟩:=hi.p.eb1 i b h3 h4
    exact ⟨h5,(lst_set hjs i).2 (.inr h6),h7⟩
   eb2:=hi.p.eb2 }
  Ju:=fun h3 => by
   obtain ⟨h4,gi',h5,h6⟩:=hi.Ju h3
   refine ⟨fun h7 => ?_,gi',h5,h6⟩
   rcases (lst_set hjs J).1 h7 with h8 | h8
   ·subst h8; rw [hgi] at h5; cases h5; rw [hm] at h6; cases h6
   ·exact h4 h8 }
theorem DInv.where (hi:DInv T gs B st N n ρ0 w0 L a w ρ J eb) (hord:Ordered T ops gs B) {j:Nat} {gi:GI} (hj:j < n) (hgi:gs[j]? = some gi) (hanc:∀ i,B i j → lst L i) (hp:gi.i.quiet = false) (hm:gi.i.mono T = true):j < J ∨ (J < j ∧ gi.early = true):=by
 rcases Nat.lt_or_ge j J with h | h
 ·exact .inl h
 ·have hJn:J < n:=by omega
  obtain ⟨h4,gi',h5,h6⟩:=hi.Ju hJn
  have hne:J ≠ j:=by rintro rfl; rw [hgi] at h5; cases h5; rw [hm] at h6; cases h6
  refine .inr ⟨by omega,?_⟩
  cases he:gi.early with
  | true => rfl
  | false =>
   refine absurd (hanc J (hord.pair J j gi' gi (by omega) h5 hgi ?_)) h4
   simp [Inf.clash,GI.inf,h6,he,zeL hp]
theorem DInv.early (hT:TabOK P T) (hi:DInv T gs B st N n ρ0 w0 L a w ρ J eb) (hord:Ordered T ops gs B) (hn:gs.length = n) (hst:∀ j gi,gs[j]? = some gi → stepG T gi (st j).1 (st j).2 = some (st (j + 1)))
  (hbare:∀ j gi,gs[j]? = some gi → gi.early = true → bareB (st j).2 (st (j + 1)).2 = true)
  {j:Nat} {gi:GI} {o:Oper} (hj:j < n) (hun:¬ lst L j) (hgi:gs[j]? = some gi) (hl:LOp P N ops o gi) (hanc:∀ i,B i j → lst L i) (hjJ:J < j) (he:gi.early = true) {K:Act → World → Prop} {Q:Exit → Act → World → Prop}
  (hK:∀ a' w' ρ' eb',DInv T gs B st N n ρ0 w0 (L.setIfInBounds j true) a' w' ρ' J eb' → K a' w') :
  if Region.wanted o (yielded ops a.tmps) = true then o.wp P a w K Q else K (a.put o.dst undef) w:=by
 have hm:=ziC (T:=T) he
 have hjs:j < L.size:=by rw [hi.p.size]; exact hj
 obtain ⟨s,cs,t,z,f,hd,hf,hH,hτ,hrun⟩:=zpX he (hst j gi hgi)
 have hcs:cs ≠ [] ∧ SV.refsL cs = []:=by
  have h1:=hbare j gi hgi he
  rw [hH] at h1
  simp [bareB,Blk.bare] at h1
  exact h1
 refine ziA (m:=true) hT hl (fun _ => hm) hi.p.N hi.p.d (hi.reads hord hn hj hun hgi hanc) hi.p.h (fun β h3 h4 => hi.p.u β h3) (fun h => by cases h) (hrun (st J).2) fun v u w' ρ' hg hnx => ?_
 obtain ⟨_,hρ,hkeep,hvl⟩:=hg.mono rfl
 have hv:v = f (st J).2.length:=by
  have:=hnx s
  rw [if_pos hd] at this
  rw [← this]
  simp [Tm.get]
 have hvr:=hg.vrel
 -- where it lies
 obtain ⟨b,o',n',sz,hat⟩:∃ b o' n' sz,ρ' (st J).2.length = .at b o' n' sz:=by
  have hlen:(st J).2.length < ((st J).2 ++ [Blk.cells cs t z]).length:=by simp
  rcases hr:ρ' (st J).2.length with _ | _ | _ | ⟨b,o',n',sz⟩
  ·exfalso
   rcases hf with rfl | rfl <;> rw [hv] at hvr <;> simp only [VRel,hr] at hvr
  ·exfalso
   have:=hg.hrel.dead _ hlen hr
   rw [List.getElem?_append_right (Nat.le_refl _)] at this
   simp at this
  ·exfalso
   rcases hf with rfl | rfl
   ·rw [hv] at hvr; simp only [VRel,hr] at hvr
   ·rcases hg.hrel.none_ _ hlen hr with ⟨K',t',h1⟩ | ⟨t',z',h1⟩ | ⟨d',e',h1⟩
    ·rw [List.getElem?_append_right (Nat.le_refl _)] at h1; simp at h1
    ·rw [List.getElem?_append_right (Nat.le_refl _)] at h1; simp at h1
     exact hcs.1 h1.1
    ·rw [List.getElem?_append_right (Nat.le_refl _)] at h1; simp at h1
  ·exact ⟨b,o',n',sz,rfl⟩
 have hBx:BRel ρ' w' b o' n' sz (.cells cs t z):=by
  obtain ⟨x,h1,h2⟩:=hg.hrel.at_ _ (by simp) b o' n' sz hat
  rw [List.getElem?_append_right (Nat.le_refl _),Nat.sub_self] at h1
  simp at h1
  subst h1; exact h2
 have hρ':∀ γ,γ ≠ (st J).2.length → ρ' γ = ρ γ:=fun γ hγ => hρ γ (by simp; omega)
 have hb:w.heap.size ≤ b:=by
  rcases hg.step.img _ _ _ _ _ hat with ⟨γ,o2,n2,sz2,h1⟩ | h1 | h1
  ·have hne:γ ≠ (st J).2.length:=by
    rintro rfl
    rw [hi.p.u _ (Nat.le_refl _)] at h1; cases h1
   rw [← hρ' γ hne] at h1
   exact absurd (hg.hrel.inj γ _ b _ _ _ _ _ _ h1 hat) hne
  ·exact h1
  ·cases hv1:ρ.vl b with
   | none => exact absurd hv1 h1
   | some t1 => exact absurd (.inr (by rw [hvl b t1 hv1]; simp)) (hg.hrel.resf _ _ _ _ _ hat)
 let ρ2:Map:=⟨ρ.img,fun b' => ρ.res0 b' ∨ b' = b,ρ.vl⟩
 have hF:StepF ρ w ρ2 w':={
  free:=fun b' hb' => by
   refine ⟨Nat.lt_of_lt_of_le hb'.1 hg.step.size,fun hr => ?_,hb'.2.2⟩
   rcases hr with (hr | hr) | hr
   ·exact hb'.2.1 (.inl hr)
   ·have:=hb'.1; omega
   ·exact hb'.2.1 (.inr hr)
  kept:=fun b' hb' => hkeep b' hb'.1
  shape:=hg.step.shape
  ref:=fun _ _ => .inl rfl }
 let eb2:Nat → Option Nat:=fun i => if i = j then some b else eb i
 have e1:eb2 j = some b:=if_pos rfl
 have e2:∀ i,i ≠ j → eb2 i = eb i:=fun i h => if_neg h
 have hnj:∀ i b',J ≤ i → eb i = some b' → i ≠ j:=fun i b' h1 h2 h3 => by
  subst h3; exact hun (hi.p.eb1 i b' h1 h2).2.1
 have hebl:∀ i b',J ≤ i → eb i = some b' → b' < w.heap.size:=fun i b' h1 h2 => hi.p.h.resl b' (.inl ((hi.p.res b').2 (.inr ⟨i,h1,h2⟩)))
 refine hK _ _ ρ2 eb2 {
  p:={
   size:=by simp [hi.p.size]
   N:=by rw [ziB]; exact hi.p.N
   d:=by rw [put_defers']; exact hi.p.d
   closed:=zmw hord hi.p.closed hjs hanc
   Jle:=hi.p.Jle
   Jl:=fun i gi' h3 h4 h5 => (lst_set hjs i).2 (.inr (hi.p.Jl i gi' h3 h4 h5))
   h:={
    dead:=hi.p.h.dead
    none_:=hi.p.h.none_
    at_:=fun γ hl b2 o2 n2 sz2 hr => by
     obtain ⟨x,h5,h6⟩:=hi.p.h.at_ γ hl b2 o2 n2 sz2 hr
     exact ⟨x,h5,h6.keepF hF (hkeep b2 (hi.p.h.lt _ _ _ _ _ hr)) fun b' hb' => ⟨hkeep b' (hi.p.h.vlt hb'),hb'⟩⟩
    inj:=hi.p.h.inj
    lt:=fun β b2 o2 n2 sz2 h5 => Nat.lt_of_lt_of_le (hi.p.h.lt β b2 o2 n2 sz2 h5) hg.step.size
    resl:=fun b2 h5 => by
     rcases h5 with (h5 | rfl) | h5
     ·exact Nat.lt_of_lt_of_le (hi.p.h.resl b2 (.inl h5)) hg.step.size
     ·exact hg.hrel.lt _ _ _ _ _ hat
     ·exact Nat.lt_of_lt_of_le (hi.p.h.resl b2 (.inr h5)) hg.step.size
    resf:=fun β b2 o2 n2 sz2 h5 h6 => by
     have h7:=hi.p.h.lt β b2 o2 n2 sz2 h5
     rcases h6 with (h6 | h6) | h6
     ·exact hi.p.h.resf β b2 o2 n2 sz2 h5 (.inl h6)
     ·omega
     ·exact hi.p.h.resf β b2 o2 n2 sz2 h5 (.inr h6)
    vr:=fun b2 t2 h5 h6 => by
     have h7:=hi.p.h.vlt h5
     rcases h6 with h6 | h6
     ·exact hi.p.h.vr b2 t2 h5 h6
     ·omega }
   u:=hi.p.u
   ui:=fun i h3 h4 β h5 h6 => hi.p.ui i h3 (fun h7 => h4 ((lst_set hjs i).2 (.inr h7))) β h5 h6
   s:=hi.p.slots (v:=v) hord hn hst hj hun hgi hl hF (fun _ _ h => absurd (h (by omega)) (by rw [he]; simp)) (fun m h => absurd (h (by omega)) (by rw [he]; simp)) (.inl rfl)
   stp:=hi.p.stp.trans {
    os:=hg.step.os
    tape:=hg.step.tape
    output:=hg.step.output
    size:=hg.step.size
    kept:=fun b' h1 _ _ => hkeep b' h1
    shape:=hg.step.shape
    img:=fun β b2 o2 n2 sz2 h => .inl ⟨β,o2,n2,sz2,h⟩
    ref:=fun _ _ => .inl rfl
    res:=rfl
    vl:=fun _ _ h => ours_vl h }
   r0:=hi.p.r0
   res:=fun b' => by
    show (ρ.res0 b' ∨ b' = b) ↔ _
    rw [hi.p.res b']
    constructor
    ·rintro ((h1 | ⟨i,h1,h2⟩) | rfl)
     ·exact .inl h1
     ·exact .inr ⟨i,h1,by rw [e2 i (hnj i b' h1 h2)]; exact h2⟩
     ·exact .inr ⟨j,by omega,e1⟩
    ·rintro (h1 | ⟨i,h1,h2⟩)
     ·exact .inl (.inl h1)
     ·by_cases hij:i = j
      ·subst hij; rw [e1] at h2; cases h2; exact .inr rfl
      ·rw [e2 i hij] at h2; exact .inl (.inr ⟨i,h1,h2⟩)
   lq:=fun i gi' h3 h4 h5 => by
    rcases (lst_set hjs i).1 h4 with h6 | h6
    ·subst h6; rw [hgi] at h5; cases h5; exact .inr he
    ·exact hi.p.lq i gi' h3 h6 h5
   er:=fun i gi' s' h3 h4 h5 h6 h7 => by
    by_cases hij:i = j
    ·subst hij
     rw [hgi] at h5; cases h5
     rw [hd] at h7; cases h7
     refine ⟨b,e1,o',n',sz,cs,t,z,hH,?_,?_,?_⟩
     ·rw [hτ]
      simp only [Tm.get,Nat.beq_refl,cond]
      rcases hf with rfl | rfl
      ·exact .inl rfl
      ·exact .inr rfl
     ·simp only [BRel] at hBx ⊢
      obtain ⟨h0,h1,C,tC,h2,h3,h4⟩:=hBx
      refine ⟨h0,h1,C,tC,h2,h3,fun q s hs => ?_⟩
      obtain ⟨u',h5,h6⟩:=h4 q s hs
      refine ⟨u',h5,h6.bare (fun b1 hb1 => ?_) (zwf hcs.2 (List.mem_of_getElem? hs))⟩
      refine ⟨hb1.1,fun hr => ?_,fun β o2 n2 sz2 e => ?_⟩
      ·rcases hr with (hr | rfl) | hr
       ·exact hb1.2.1 (.inl (by rw [hg.step.res]; exact hr))
       ·exact hb1.2.2 _ _ _ _ hat
       ·cases hv1:ρ.vl b1 with
        | none => exact hr hv1
        | some t1 => exact hb1.2.1 (.inr (by rw [hvl b1 t1 hv1]; simp))
      ·have hne:β ≠ (st J).2.length:=by
        rintro rfl
        have h9:ρ (st J).2.length = .at b1 o2 n2 sz2:=e
        rw [hi.p.u _ (Nat.le_refl _)] at h9; cases h9
       exact hb1.2.2 β o2 n2 sz2 (by rw [hρ' β hne]; exact e)
     ·rw [put_get (fun d hd => by rw [hi.p.N]; exact hl.lt d hd),← hl.d,if_pos hd,hτ]
      simp only [Tm.get,Nat.beq_refl,cond]
      rw [hv] at hvr
      rcases hf with rfl | rfl
      ·simp only [VRel,hat] at hvr
       simp only [VRel,oneMap]; exact hvr
      ·simp only [VRel,hat] at hvr
       simp only [VRel,oneMap]; exact hvr
    ·have h8:lst L i:=((lst_set hjs i).1 h4).resolve_left hij
     obtain ⟨b',h9,h10⟩:=hi.p.er i gi' s' h3 h8 h5 h6 h7
     refine ⟨b',by rw [e2 i hij]; exact h9,?_⟩
     rw [zmx hord hi.p.N hl h5 hgi h6 h7 hij]
     exact h10.keep hF (hkeep b' (hebl i b' h3 h9))
   eb1:=fun i b' h3 h4 => by
    by_cases hij:i = j
    ·subst hij; rw [e1] at h4; cases h4
     exact ⟨Nat.le_trans hi.p.stp.size hb,(lst_set hjs i).2 (.inl rfl),gi,hgi,he⟩
    ·rw [e2 i hij] at h4
     obtain ⟨h5,h6,h7⟩:=hi.p.eb1 i b' h3 h4
     exact ⟨h5,(lst_set hjs i).2 (.inr h6),h7⟩
   eb2:=fun i i' b' h3 h4 h5 h6 => by
    by_cases hij:i = j <;> by_cases hij':i' = j
    ·rw [hij,hij']
    ·subst hij; rw [e1] at h5; cases h5
     rw [e2 i' hij'] at h6
     have:=hebl i' b h4 h6; omega
    ·subst hij'; rw [e1] at h6; cases h6
     rw [e2 i hij] at h5
     have:=hebl i b h3 h5; omega
    ·rw [e2 i hij] at h5; rw [e2 i' hij'] at h6
     exact hi.p.eb2 i i' b' h3 h4 h5 h6 }
  Ju:=fun h3 => by
   obtain ⟨h4,gi',h5,h6⟩:=hi.Ju h3
   refine ⟨fun h7 => ?_,gi',h5,h6⟩
   rcases (lst_set hjs J).1 h7 with h8 | h8
   ·omega
   ·exact h4 h8 }
theorem DInv.mono (hT:TabOK P T) (hi:DInv T gs B st N n ρ0 w0 L a w ρ J eb) (hord:Ordered T ops gs B) (hn:gs.length = n) (hst:∀ j gi,gs[j]? = some gi → stepG T gi (st j).1 (st j).2 = some (st (j + 1)))
  {j:Nat} {gi:GI} {o:Oper} (hj:j < n) (hun:¬ lst L j) (hgi:gs[j]? = some gi) (hl:LOp P N ops o gi) (hanc:∀ i,B i j → lst L i) (hp:gi.i.quiet = false) (hm:gi.i.mono T = true) (hjJ:j < J) {K:Act → World → Prop} {Q:Exit → Act → World → Prop}
  (hK:∀ a' w' ρ',DInv T gs B st N n ρ0 w0 (L.setIfInBounds j true) a' w' ρ' J eb → K a' w') :
  if Region.wanted o (yielded ops a.tmps) = true then o.wp P a w K Q else K (a.put o.dst undef) w:=by
 have hjs:j < L.size:=by rw [hi.p.size]; exact hj
 have hJn:=hi.p.Jle
 have hmid:=hi.p.mids hord hjJ hun hgi hp
 obtain ⟨Δ,hΔ⟩:=ziD hT hst (show j + 1 ≤ J by omega) (by omega) fun i gi' h1 h2 h3 => hmid i gi' (by omega) h2 h3
 obtain ⟨Δ1,hΔ1⟩:=zmt hT hm (hst j gi hgi)
 have hH:HRel ρ (st j).2 w:=by
  have:=hi.p.h
  rw [hΔ,hΔ1,List.append_assoc] at this
  exact this.pre
 have hlen:(st (j + 1)).2.length ≤ (st J).2.length:=by rw [hΔ]; simp
 refine ziA (m:=true) hT hl (fun _ => hm) hi.p.N hi.p.d (hi.reads hord hn hj hun hgi hanc) hH (fun β h3 h4 => hi.p.ui j hjJ hun β h3 h4) (fun h => by cases h) (hst j gi hgi) fun v u w' ρ' hg hnx => hK _ _ ρ' ?_
 have hρ:∀ β,(β < (st j).2.length ∨ (st (j + 1)).2.length ≤ β) → ρ' β = ρ β:=(hg.mono rfl).2.1
 have hle:∀ i k,i ≤ k → k ≤ J → j ≤ i → (st i).2.length ≤ (st k).2.length:=by
  intro i k h1 h2 h3
  obtain ⟨Δ2,h4⟩:=ziD hT hst h1 (by omega) fun q gi' h5 h6 h7 => hmid q gi' (by omega) (by omega) h7
  rw [h4]; simp
 exact {
  p:={
   size:=by simp [hi.p.size]
   N:=by rw [ziB]; exact hi.p.N
   d:=by rw [put_defers']; exact hi.p.d
   closed:=zmw hord hi.p.closed hjs hanc
   Jle:=hi.p.Jle
   Jl:=fun i gi' h3 h4 h5 => (lst_set hjs i).2 (.inr (hi.p.Jl i gi' h3 h4 h5))
   h:=by
    have:=hi.p.h
    rw [hΔ] at this ⊢
    exact this.mid hg
   u:=fun β h3 => by rw [hρ β (.inr (by omega))]; exact hi.p.u β h3
   ui:=fun i h3 h4 β h5 h6 => by
    have hnl:¬ lst L i:=fun h7 => h4 ((lst_set hjs i).2 (.inr h7))
    have hij:i ≠ j:=by rintro rfl; exact h4 ((lst_set hjs i).2 (.inl rfl))
    have:=hi.p.ui i h3 hnl β h5 h6
    rcases Nat.lt_or_ge j i with h8 | h8
    ·rw [hρ β (.inr (Nat.le_trans (hle (j + 1) i h8 (by omega) (by omega)) h5))]; exact this
    ·have hin:i < gs.length:=by omega
     have hgi':=List.getElem?_eq_getElem hin
     cases hpi:gs[i].i.quiet with
     | true =>
      have:=zmu hpi (hst i _ hgi')
      rw [this] at h6; omega
     | false =>
      have hmi:=hi.p.mids hord h3 hnl hgi' hpi
      obtain ⟨Δ2,h9⟩:=ziD hT hst (show i + 1 ≤ j by omega) (by omega) fun q gi' h10 h11 h12 => hmi q gi' (by omega) (by omega) h12
      rw [hρ β (.inl (by rw [h9]; simp; omega))]; exact this
   s:=hi.p.slots hord hn hst hj hun hgi hl hg.step.toF (fun _ _ _ => hg.vrel) (fun m _ => hnx m) (.inl rfl)
   stp:=hi.p.stp.trans (hg.step.noRes _)
   r0:=hi.p.r0
   res:=fun b => by rw [hg.step.res]; exact hi.p.res b
   lq:=fun i gi' h3 h4 h5 => by
    rcases (lst_set hjs i).1 h4 with h6 | h6
    ·omega
    ·exact hi.p.lq i gi' h3 h6 h5
   er:=fun i gi' s h3 h4 h5 h6 h7 => by
    rcases (lst_set hjs i).1 h4 with h8 | h8
    ·omega
    ·obtain ⟨b,h9,h10⟩:=hi.p.er i gi' s h3 h8 h5 h6 h7
     refine ⟨b,h9,?_⟩
     rw [zmx hord hi.p.N hl h5 hgi h6 h7 (by omega)]
     exact h10.keep hg.step.toF (hi.p.kept hg.step h3 h9)
   eb1:=fun i b h3 h4 => by
    obtain ⟨h5,h6,h7⟩:=hi.p.eb1 i b h3 h4
    exact ⟨h5,(lst_set hjs i).2 (.inr h6),h7⟩
   eb2:=hi.p.eb2 }
  Ju:=fun h3 => by
   obtain ⟨h4,gi',h5,h6⟩:=hi.Ju h3
   refine ⟨fun h7 => ?_,gi',h5,h6⟩
   rcases (lst_set hjs J).1 h7 with h8 | h8
   ·omega
   ·exact h4 h8 }
theorem DInv.change (hT:TabOK P T) (hi:DInv T gs B st N n ρ0 w0 L a w ρ J eb) (hord:Ordered T ops gs B) (hn:gs.length = n) (hst:∀ j gi,gs[j]? = some gi → stepG T gi (st j).1 (st j).2 = some (st (j + 1)))
  {j:Nat} {gi:GI} {o:Oper} (hj:j < n) (hun:¬ lst L j) (hgi:gs[j]? = some gi) (hl:LOp P N ops o gi) (hanc:∀ i,B i j → lst L i) (hm:gi.i.mono T = false) {K:Act → World → Prop} {Q:Exit → Act → World → Prop}
  (hK:∀ a' w' ρ' J',DInv T gs B st N n ρ0 w0 (L.setIfInBounds j true) a' w' ρ' J' eb → K a' w') :
  if Region.wanted o (yielded ops a.tmps) = true then o.wp P a w K Q else K (a.put o.dst undef) w:=by
 have hjs:j < L.size:=by rw [hi.p.size]; exact hj
 have hp:gi.i.quiet = false:=by
  cases h:gi.i.quiet with
  | false => rfl
  | true => rw [zeK h] at hm; cases hm
 have hne:gi.early = false:=by
  cases h:gi.early with
  | false => rfl
  | true => rw [ziC h] at hm; cases hm
 obtain rfl:j = J:=by
  rcases Nat.lt_trichotomy j J with h | h | h
  ·exact absurd (hi.p.Jl j gi h hgi hm) hun
  ·exact h
  ·obtain ⟨h4,gi',h5,h6⟩:=hi.Ju (by omega)
   refine absurd (hanc J (hord.pair J j gi' gi h h5 hgi ?_)) h4
   simp [Inf.clash,GI.inf,h6,hne,zeL hp]
 refine ziA (m:=false) hT hl (by simp) hi.p.N hi.p.d (hi.reads hord hn hj hun hgi hanc) hi.p.h (fun β h3 h4 => hi.p.u β h3) (fun _ β h3 => hi.p.u β h3) (hst j gi hgi) fun v u w' ρ' hg hnx => ?_
 have hub:∀ β,(st (j + 1)).2.length ≤ β → ρ' β = .unborn:=fun β h5 => hg.unb β (hi.p.u β (Nat.le_trans hg.len h5)) h5
 have hpre:DPre T gs B st N n ρ0 w0 (L.setIfInBounds j true) (a.put o.dst u) w' ρ' (j + 1) eb:={
  size:=by simp [hi.p.size]
  N:=by rw [ziB]; exact hi.p.N
  d:=by rw [put_defers']; exact hi.p.d
  closed:=zmw hord hi.p.closed hjs hanc
  Jle:=hj
  Jl:=fun i gi' h5 h6 h7 => (lst_set hjs i).2 (by
   rcases Nat.lt_or_ge i j with h8 | h8
   ·exact .inr (hi.p.Jl i gi' h8 h6 h7)
   ·exact .inl (by omega))
  h:=hg.hrel
  u:=hub
  ui:=fun i h5 h6 β h7 h8 => by
   have hnl:¬ lst L i:=fun h7 => h6 ((lst_set hjs i).2 (.inr h7))
   have hij:i ≠ j:=by rintro rfl; exact h6 ((lst_set hjs i).2 (.inl rfl))
   have h9:i < j:=by omega
   have hin:i < gs.length:=by omega
   have hgi':=List.getElem?_eq_getElem hin
   cases hpi:gs[i].i.quiet with
   | true =>
    have:=zmu hpi (hst i _ hgi')
    rw [this] at h8; omega
   | false =>
    refine absurd (hanc i (hord.pair i j _ gi h9 hgi' hgi ?_)) hnl
    simp [Inf.clash,GI.inf,hm,zeL hpi]
  s:=hi.p.slots hord hn hst hj hun hgi hl hg.step.toF (fun _ _ _ => hg.vrel) (fun m _ => hnx m) (.inr ⟨rfl,rfl,hne⟩)
  stp:=hi.p.stp.trans (hg.step.noRes _)
  r0:=hi.p.r0
  res:=fun b => by
   rw [hg.step.res,hi.p.res b]
   refine or_congr_right ⟨fun ⟨i,h5,h6⟩ => ⟨i,?_,h6⟩,fun ⟨i,h5,h6⟩ => ⟨i,by omega,h6⟩⟩
   rcases Nat.eq_or_lt_of_le h5 with h9 | h9
   ·subst h9; exact absurd (hi.p.eb1 j b h5 h6).2.1 hun
   ·exact h9
  lq:=fun i gi' h3 h4 h5 => by
   rcases (lst_set hjs i).1 h4 with h6 | h6
   ·omega
   ·exact hi.p.lq i gi' (by omega) h6 h5
  er:=fun i gi' s h3 h4 h5 h6 h7 => by
   rcases (lst_set hjs i).1 h4 with h8 | h8
   ·omega
   ·obtain ⟨b,h9,h10⟩:=hi.p.er i gi' s (by omega) h8 h5 h6 h7
    refine ⟨b,h9,?_⟩
    rw [zmx hord hi.p.N hl h5 hgi h6 h7 (by omega)]
    exact h10.keep hg.step.toF (hi.p.kept hg.step (by omega) h9)
  eb1:=fun i b h3 h4 => by
   obtain ⟨h5,h6,h7⟩:=hi.p.eb1 i b (by omega) h4
   exact ⟨h5,(lst_set hjs i).2 (.inr h6),h7⟩
  eb2:=fun i i' b h3 h4 => hi.p.eb2 i i' b (by omega) (by omega) }
 obtain ⟨ρ2,J',h1⟩:=DPre.settle hT hord hn hst (n - (j + 1)) (j + 1) ρ' (by omega) hpre
 exact hK _ _ ρ2 J' h1
theorem zpY (hT:TabOK P T) (hst:∀ j gi,gs[j]? = some gi → stepG T gi (st j).1 (st j).2 = some (st (j + 1))) {β:Nat} {j:Nat}:∀ {k:Nat},j ≤ k → k ≤ gs.length →
  (∀ (i:Nat) (gi:GI),j ≤ i → i < k → gs[i]? = some gi → gi.i.mono T = false → gi.i.isCall = true ∧ β ∉ gi.i.touch T (st i).1 (st i).2) → β < (st j).2.length → β < (st k).2.length ∧ (st k).2[β]? = (st j).2[β]?
 | 0,hj,_,_,hb => by rw [Nat.le_zero.1 hj] at hb ⊢; exact ⟨hb,rfl⟩
 | k + 1,hj,hk,hc,hb => by
  rcases Nat.lt_or_ge j (k + 1) with hlt | hge
  ·obtain ⟨h1,h2⟩:=zpY hT hst (show j ≤ k by omega) (by omega) (fun i gi h1 h2 => hc i gi h1 (by omega)) hb
   have hkl:k < gs.length:=by omega
   have hgk:=List.getElem?_eq_getElem hkl
   have h3:=hst k _ hgk
   cases hm:gs[k].i.mono T with
   | true =>
    obtain ⟨Δ,h6⟩:=zmt hT hm h3
    rw [h6,List.length_append,List.getElem?_append_left h1]
    exact ⟨by omega,h2⟩
   | false =>
    obtain ⟨h4,h5⟩:=hc k _ (by omega) (by omega) hgk hm
    obtain ⟨b,_,_,h7,h8⟩:=zms h3
    cases b with
    | false => rw [(h8 rfl).1]; exact ⟨h1,h2⟩
    | true =>
     obtain ⟨v,h9,_⟩:=h7 rfl
     obtain ⟨h10,h11⟩:=zHf hT h4 h9
     exact ⟨by omega,by rw [h11 β h1 h5]; exact h2⟩
  ·have:j = k + 1:=by omega
   subst this; exact ⟨hb,rfl⟩
theorem DInv.ldc (hT:TabOK P T) (hi:DInv T gs B st N n ρ0 w0 L a w ρ J eb) (hord:Ordered T ops gs B) (hn:gs.length = n) (hst:∀ j gi,gs[j]? = some gi → stepG T gi (st j).1 (st j).2 = some (st (j + 1)))
  {j:Nat} {gi:GI} (hj:j < n) (hun:¬ lst L j) (hgi:gs[j]? = some gi) (hanc:∀ i,B i j → lst L i) {s:Nat} (hq':gi.i.isLdc = true) (hsl:s ∈ gi.i.slots) (hcal:∀ β,(Tm.get (st j).1 s).at β → β ∈ gi.calmOf (st j).1)
  (hc:∀ β ∈ gi.calmOf (st j).1,∀ (i:Nat) (gi:GI),gs[i]? = some gi → β ∉ gi.touched T (st i).1 (st i).2)
  (hstep:∀ H2:Heap,(∀ β y,(Tm.get (st j).1 s).at β → (st j).2[β]? = some y → H2[β]? = some y) → stepG T gi (st j).1 H2 = some ((st (j + 1)).1,H2)) :
  stepG T gi (st j).1 (st J).2 = some ((st (j + 1)).1,(st J).2):=by
 refine hstep _ fun β y hp hb => ?_
 have hβj:β < (st j).2.length:=(List.getElem?_eq_some_iff.1 hb).1
 have hcβ:=hc β (hcal β hp)
 have htch:∀ (i:Nat) (gi:GI),gs[i]? = some gi → gi.i.mono T = false → β ∉ gi.i.touch T (st i).1 (st i).2:=fun i gi h1 h2 => by
  have:=hcβ i gi h1
  rw [GI.touched,h2] at this
  exact this
 have hpj:gi.i.pure = false:=by cases hg:gi.i <;> rw [hg] at hq' <;> simp only [I.isLdc,Bool.false_eq_true] at hq' <;> rfl
 have hrd:=hi.reads hord hn hj hun hgi hanc s (by
  have:s ∈ gi.i.slots:=hsl
  unfold GI.reads
  split
  ·exact this
  ·exact List.mem_cons_of_mem _ this)
 have hborn:β < (st J).2.length:=by
  rcases Nat.lt_or_ge β (st J).2.length with h | h
  ·exact h
  ·have:=hi.p.u β h
   rcases hp with ⟨off,hp⟩ | ⟨i,j,hp⟩ | hp | ⟨i,j,hp⟩ <;> rw [hp] at hrd <;> simp only [VRel,this] at hrd
 have hJ:=hi.p.Jle
 have hej:gi.early = false:=by unfold GI.early; cases hg:gi.i <;> rw [hg] at hq' <;> simp only [I.isLdc,Bool.false_eq_true] at hq' <;> rfl
 have npe:∀ {g:GI},g.i.mono T = false → g.early = false:=fun {g} h => by
  cases hq:g.early with
  | false => rfl
  | true => rw [ziC hq] at h; cases h
 have np:∀ {i:I},i.mono T = false → i.pure = false ∧ i.isLdc = false:=fun {i} h => by
  cases hq:i.quiet with
  | false => exact zeL hq
  | true => rw [zeK hq] at h; cases h
 rcases Nat.le_total j J with h | h
 ·rw [(zpY hT hst h (by omega) (fun i gi' h1 h2 h3 h4 => ⟨?_,htch i gi' h3 h4⟩) hβj).2]; exact hb
  cases hcl:gi'.i.isCall with
  | true => rfl
  | false =>
   have hij:j < i:=by
    rcases Nat.lt_or_ge j i with h5 | h5
    ·exact h5
    ·obtain rfl:i = j:=by omega
     rw [hgi] at h3; cases h3
     rw [zeK (by unfold I.quiet; rw [hq']; simp)] at h4; cases h4
   refine absurd (hi.p.closed i (hi.p.Jl i gi' h2 h3 h4) j (hord.pair j i gi gi' hij hgi h3 ?_)) hun
   simp [Inf.clash,GI.inf,h4,hcl,hpj]
 ·rw [← (zpY hT hst h (by omega) (fun i gi' h1 h2 h3 h4 => ⟨?_,htch i gi' h3 h4⟩) hborn).2]; exact hb
  cases hcl:gi'.i.isCall with
  | true => rfl
  | false =>
   obtain ⟨hJl,giJ,h5,h6⟩:=hi.Ju (by omega)
   have hil:lst L i:=hanc i (hord.pair i j gi' gi h2 h3 hgi (by simp [Inf.clash,GI.inf,h4,hcl,hpj,hej]))
   rcases Nat.lt_or_ge J i with h7 | h7
   ·exact absurd (hi.p.closed i hil J (hord.pair J i giJ gi' h7 h5 h3 (by simp [Inf.clash,GI.inf,h6,np h4,npe h4]))) hJl
   ·obtain rfl:i = J:=by omega
    exact absurd hil hJl
def unl (L:Array Bool):Nat:=L.toList.count false
theorem unl_set {j:Nat} (hj:j < L.size) (hun:¬ lst L j):unl L = unl (L.setIfInBounds j true) + 1:=by
 unfold unl
 have hl:j < L.toList.length:=by simpa using hj
 rw [Array.toList_setIfInBounds,List.count_set hl]
 have h1:L.toList[j] = false:=by
  unfold lst at hun
  have:L.getD j false = L.toList[j]:=by simp [hj]
  rw [this] at hun; simpa using hun
 have h2:0 < L.toList.count false:=List.count_pos_iff.2 (h1 ▸ List.getElem_mem hl)
 rw [h1]
 generalize L.toList.count false = c at h2 ⊢
 show c = (c - 1 + 0) + 1
 omega
theorem zHi (hT:TabOK P T) (hord:Ordered T ops gs B) (hn:gs.length = n) (hops:ops.size = n) (hls:∀ (j:Nat) (o:Oper) (gi:GI),ops[j]? = some o → gs[j]? = some gi → LOp P N ops o gi)
  (hst:∀ j gi,gs[j]? = some gi → stepG T gi (st j).1 (st j).2 = some (st (j + 1))) {Q:Exit → Act → World → Prop}
  (hbare:∀ j gi,gs[j]? = some gi → gi.early = true → bareB (st j).2 (st (j + 1)).2 = true)
  (hcalm:∀ (j:Nat) (gj:GI),gs[j]? = some gj → ∀ β ∈ gj.calmOf (st j).1,∀ (i:Nat) (gi:GI),gs[i]? = some gi → β ∉ gi.touched T (st i).1 (st i).2)
  (hQ:∀ ρ' a' w',At P N ρ' (st n).2 w' (st n).1 a' → Step ρ0 w0 ρ' w' → Q .normal a' w') :
  ∀ (Z:Nat) (L:Array Bool) (a:Act) (w:World) (ρ:Map) (J:Nat) (eb:Nat → Option Nat),unl L = Z → DInv T gs B st N n ρ0 w0 L a w ρ J eb → wpAny P .any ops Q Z L a w:=by
 have fin:∀ {L:Array Bool} {a:Act} {w:World} {ρ:Map} {J:Nat} {eb:Nat → Option Nat},(∀ j,j < n → lst L j) → DInv T gs B st N n ρ0 w0 L a w ρ J eb → Q .normal a w:=by
  intro L a w ρ J eb hall hi
  have hJ:J = n:=by
   rcases Nat.lt_or_ge J n with h | h
   ·exact absurd (hall J h) (hi.Ju h).1
   ·have:=hi.p.Jle; omega
  subst hJ
  have hres:ρ0.res0 = ρ.res0:=by
   funext b
   refine propext ((hi.p.res b).trans ⟨fun h => ?_,fun h => .inl h⟩).symm
   rcases h with h | ⟨i,h1,h2⟩
   ·exact h
   ·obtain ⟨_,_,gi,h3,_⟩:=hi.p.eb1 i b h1 h2
    have:=(List.getElem?_eq_some_iff.1 h3).1
    omega
  refine hQ ρ a w ⟨⟨hi.p.N,hi.p.d,fun s => ?_⟩,hi.p.h,hi.p.u⟩ (by have:=hi.p.stp; rw [hres] at this; exact this)
  refine hi.p.s s J (Nat.le_refl _) (fun i gi h1 _ _ => hall i h1) (fun i gi h1 h2 _ => ?_) (fun i gi h1 h2 => by omega)
  have:=(List.getElem?_eq_some_iff.1 h2).1
  omega
 have allof:∀ {L:Array Bool},L.size = n → Region.ready .any ops L = [] → ∀ j,j < n → lst L j:=by
  intro L hL hr j
  induction j using Nat.strongRecOn with
  | ind j ih =>
   intro hj
   by_cases hl:lst L j
   ·exact hl
   ·have hm:j ∈ Region.ready .any ops L:=mem_ready.2 ⟨by
     unfold lst at hl
     have h1:j < L.size:=by omega
     simp [h1] at hl ⊢; exact hl,ops[j]'(by omega),Array.getElem?_eq_getElem (by omega),fun e he hb => by
     have h1:=hord.back j _ (Array.getElem?_eq_getElem (by omega)) e he hb
     exact ih e.on h1 (by omega)⟩
    rw [hr] at hm; cases hm
 intro Z
 induction Z with
 | zero =>
  intro L a w ρ J eb hu hi
  have hall:∀ j,j < n → lst L j:=by
   intro j hj
   by_cases hl:lst L j
   ·exact hl
   ·have:=unl_set (by rw [hi.p.size]; exact hj) hl
    omega
  refine ⟨?_,fin hall hi⟩
  cases hr:Region.ready .any ops L with
  | nil => rfl
  | cons x xs =>
   have hx:x ∈ Region.ready .any ops L:=by rw [hr]; simp
   obtain ⟨h1,o,ho,_⟩:=mem_ready.1 hx
   have hx1:x < n:=by rw [← hops]; exact (Array.getElem?_eq_some_iff.1 ho).1
   have h2:=hall x hx1
   unfold lst at h2
   have h3:x < L.size:=by rw [hi.p.size]; exact hx1
   simp [h3] at h1 h2
   rw [h1] at h2; cases h2
 | succ Z ih =>
  intro L a w ρ J eb hu hi
  refine ⟨fun hr => fin (allof hi.p.size hr) hi,fun j hj => ?_⟩
  obtain ⟨h1,o,ho,hall⟩:=mem_ready.1 hj
  have hjn:j < n:=by rw [← hops]; exact (Array.getElem?_eq_some_iff.1 ho).1
  have hjs:j < L.size:=by rw [hi.p.size]; exact hjn
  have hun:¬ lst L j:=by
   unfold lst
   simp [hjs] at h1 ⊢; exact h1
  have hgi:gs[j]? = some (gs[j]'(by omega)):=List.getElem?_eq_getElem (by omega)
  have hl:=hls j o _ ho hgi
  have hanc:∀ i,B i j → lst L i:=by
   intro i hb
   obtain ⟨e,he,hbd,h2⟩:=hord.anc j o ho i hb
   have h3:lst L e.on:=hall e he hbd
   rcases h2 with h2 | h2
   ·subst h2; exact h3
   ·exact hi.p.closed e.on h3 i h2
  have hu':unl (L.setIfInBounds j true) = Z:=by have:=unl_set hjs hun; omega
  have key:if Region.wanted o (yielded ops a.tmps) = true then o.wp P a w (wpAny P .any ops Q Z (L.setIfInBounds j true)) Q else wpAny P .any ops Q Z (L.setIfInBounds j true) (a.put o.dst undef) w:=by
   cases hp:(gs[j]'(by omega)).i.quiet with
   | true =>
    have h2:stepG T (gs[j]'(by omega)) (st j).1 (st J).2 = some ((st (j + 1)).1,(st J).2):=by
     have hq:=hp
     unfold I.quiet at hq
     simp only [Bool.or_eq_true] at hq
     rcases hq with hq | hq
     ·exact (zwb hq (hst j _ hgi) (st J).2).2
     ·cases hil:(gs[j]'(by omega)).i <;> rw [hil] at hq <;> simp only [I.isLdc,Bool.false_eq_true] at hq
      ·exact hi.ldc hT hord hn hst hjn hun hgi hanc (by rw [hil]; rfl) (by rw [hil]; simp [I.slots,I.args,S.slot]) (fun β hp => by rcases hp with ⟨off,hp⟩ | ⟨i,j,hp⟩ | hp | ⟨i,j,hp⟩ <;> simp [GI.calmOf,hil,hp,SV.refs]) (hcalm j _ hgi) fun H2 h2 => (zwc hil (hst j _ hgi) h2).2
      ·exact hi.ldc hT hord hn hst hjn hun hgi hanc (by rw [hil]; rfl) (by rw [hil]; simp [I.slots,I.args,S.slot]) (fun β hp => by rcases hp with ⟨off,hp⟩ | ⟨i,j,hp⟩ | hp | ⟨i,j,hp⟩ <;> simp [GI.calmOf,hil,hp,SV.refs]) (hcalm j _ hgi) fun H2 h2 => (zwd hil (hst j _ hgi) h2).2
    exact hi.pure hT hord hn hst hjn hun hgi hl hanc hp h2 fun a' w' ρ' hi' => ih _ a' w' ρ' J eb hu' hi'
   | false =>
    cases hm:(gs[j]'(by omega)).i.mono T with
    | true =>
     rcases hi.where hord hjn hgi hanc hp hm with h | ⟨h,he⟩
     ·exact hi.mono hT hord hn hst hjn hun hgi hl hanc hp hm h fun a' w' ρ' hi' => ih _ a' w' ρ' J eb hu' hi'
     ·exact hi.early hT hord hn hst hbare hjn hun hgi hl hanc h he fun a' w' ρ' eb' hi' => ih _ a' w' ρ' J eb' hu' hi'
    | false => exact hi.change hT hord hn hst hjn hun hgi hl hanc hm fun a' w' ρ' J' hi' => ih _ a' w' ρ' J' eb hu' hi'
  unfold wpOp
  simp only [ho]
  split
  ·rename_i hw; rw [if_pos hw] at key; exact .inl key
  ·rename_i hw; rw [if_neg hw] at key; exact key
theorem zHj {R:Type} {τ:Env} {H:Heap} {k:Env → Heap → Option R} {r:R} (hT:TabOK P T) (hlen:gs.length = ops.size) (hord:orderOK T ops.toList gs = true) (hls:∀ (j:Nat) (o:Oper) (gi:GI),ops[j]? = some o → gs[j]? = some gi → LOp P N ops o gi)
  (hat:At P N ρ H w τ a) (he:runRD T gs [] [] τ H k = some r) {Q:Exit → Act → World → Prop}
  (hQ:∀ τ' H' ρ' a' w',At P N ρ' H' w' τ' a' → Step ρ w ρ' w' → k τ' H' = some r → Q .normal a' w') :
  wpAny P .any ops Q ops.size (Array.replicate ops.size false) a w:=by
 obtain ⟨B,hB⟩:=zG9 hlen hord
 obtain ⟨st,h0,hst,hk,hcm,hbare⟩:=zwe (by simp) he
 have hno:∀ j,¬ lst (Array.replicate ops.size false) j:=by
  intro j
  unfold lst
  by_cases hj:j < ops.size
  ·simp [hj]
  ·simp [hj]
 have hpre:DPre T gs B st N ops.size ρ w (Array.replicate ops.size false) a w ρ 0 fun _ => none:={
  size:=by simp
  N:=hat.t.1
  d:=hat.t.2.1
  closed:=fun j h => absurd h (hno j)
  Jle:=by omega
  Jl:=fun i gi h5 => by omega
  h:=by rw [h0]; exact hat.h
  u:=by rw [h0]; exact hat.u
  ui:=fun i h5 => by omega
  s:=fun s j hj h5 _ _ => by
   have hc:=zmv (s:=s) hst (show 0 ≤ j by omega) (by omega) fun i gi h6 h7 h8 h9 => hno i (h5 i gi h7 h8 h9)
   rw [hc,h0]; exact hat.t.2.2 s
  stp:=Step.refl _ _
  r0:=fun b h => hat.h.resl b (.inl h)
  res:=fun b => ⟨.inl,fun h => by rcases h with h | ⟨_,_,h⟩; exact h; cases h⟩
  lq:=fun i gi _ h => absurd h (hno i)
  er:=fun i gi s _ h => absurd h (hno i)
  eb1:=fun i b _ h => by cases h
  eb2:=fun i i' b _ _ h => by cases h }
 obtain ⟨ρ1,J,h1⟩:=DPre.settle hT hB hlen hst ops.size 0 ρ (by omega) hpre
 exact zHi (ρ0:=ρ) (w0:=w) hT hB hlen rfl hls hst hbare (fun j gj hj β hb => (hcm β (.inr ⟨j,gj,hj,hb⟩)).2) (fun ρ' a' w' hat' hst' => hQ _ _ ρ' a' w' hat' hst' (by rw [← hlen]; exact hk)) ops.size _ a w ρ1 J _ (by simp [unl]) h1
end
end Go.Proofs.YtljojacnjjgceaaGreat.Den
namespace Go.Proofs.YtljojacnjjgceaaGreat.Den
open Go Go.RowKit
structure StepN (n0:Nat) (ρ:Map) (w:World) (ρ':Map) (w':World):Prop where
 os:w'.os = w.os
 tape:w'.tape = w.tape
 output:w'.output = w.output
 size:w.heap.size ≤ w'.heap.size
 kept:∀ b,b < w.heap.size → (∀ β o n sz,ρ β ≠ .at b o n sz) → ρ.vl b = none → w'.heap[b]? = w.heap[b]?
 shape:∀ (b:Nat) C t fr,w.heap[b]? = some (.cells C t fr) → ∃ C',w'.heap[b]? = some (.cells C' t fr) ∧ C'.size = C.size
 img:∀ β b o n sz,ρ' β = .at b o n sz → Ours ρ w b
 ref:∀ β,β < n0 → ρ β ≠ .unborn → ρ' β = ρ β ∨ ρ' β = .dead
 res:ρ'.res0 = ρ.res0
 vl:∀ b t,ρ'.vl b = some t → Ours ρ w b
section
variable {n0:Nat} {ρ ρ1 ρ2:Map} {w w1 w2:World}
theorem Step.toN (h:Step ρ w ρ1 w1):StepN n0 ρ w ρ1 w1 :=
 ⟨h.os,h.tape,h.output,h.size,h.kept,h.shape,h.img,fun β _ => h.ref β,h.res,h.vl⟩
theorem StepN.refl:StepN n0 ρ w ρ w:=(Step.refl ρ w).toN
theorem StepN.ours (h:StepN n0 ρ w ρ1 w1) {b:Nat} (hb:Ours ρ1 w1 b):Ours ρ w b:=by
 rcases hb with ⟨β,o,n,sz,e⟩ | e | e
 ·exact h.img _ _ _ _ _ e
 ·exact .inr (.inl (Nat.le_trans h.size e))
 ·cases hv:ρ1.vl b with
  | none => exact absurd hv e
  | some t => exact h.vl b t hv
theorem StepN.trans (h:StepN n0 ρ w ρ1 w1) (k:StepN n0 ρ1 w1 ρ2 w2):StepN n0 ρ w ρ2 w2 where
 os:=k.os.trans h.os
 tape:=k.tape.trans h.tape
 output:=k.output.trans h.output
 size:=Nat.le_trans h.size k.size
 kept b hb hn hv:=by
  have hno:¬ Ours ρ w b:=by
   rintro (⟨β,o,n,sz,e⟩ | e | e)
   ·exact hn _ _ _ _ e
   ·omega
   ·exact e hv
  refine (k.kept b (Nat.lt_of_lt_of_le hb h.size) (fun β o n sz e => hno (h.img β b o n sz e)) ?_).trans (h.kept b hb hn hv)
  cases hv1:ρ1.vl b with
  | none => rfl
  | some t => exact absurd (h.vl b t hv1) hno
 shape b C t fr hb:=by
  obtain ⟨C',h1,h2⟩:=h.shape b C t fr hb
  obtain ⟨C'',h3,h4⟩:=k.shape b C' t fr h1
  exact ⟨C'',h3,h4.trans h2⟩
 img β b o n sz e:=h.ours (k.img β b o n sz e)
 ref β hβ hu:=by
  rcases h.ref β hβ hu with e | e
  ·rcases k.ref β hβ (by rw [e]; exact hu) with e2 | e2
   ·exact .inl (e2.trans e)
   ·exact .inr e2
  ·rcases k.ref β hβ (by rw [e]; simp) with e2 | e2
   ·exact .inr (e2.trans e)
   ·exact .inr e2
 res:=k.res.trans h.res
 vl b t hb:=h.ours (k.vl b t hb)
end
section
variable {P:Program} {N:Nat} {ρ ρ':Map} {H H':Heap} {w:World} {τ τ':Env} {a:Act} {v:SV} {val:Value}
theorem Step.regrab {rs:List Nat} {β b o n sz:Nat} (o' n' sz':Nat) (hr:ρ β = .at b o n sz) (hu:ρ H.length = .unborn) :
  Step ρ w ((ρ.kill rs).put H.length (.at b o' n' sz')) w where
 os:=rfl
 tape:=rfl
 output:=rfl
 size:=Nat.le_refl _
 kept _ _ _ _:=rfl
 shape _ C _ _ h:=⟨C,h,rfl⟩
 img γ b1 o1 n1 sz1 hg:=by
  by_cases e:γ = H.length
  ·subst e; rw [Map.put_same] at hg; injection hg with h2; subst h2; exact .inl ⟨β,o,n,sz,hr⟩
  ·rw [Map.put_other _ _ e] at hg
   simp only [Map.kill] at hg
   split at hg
   ·cases hg
   ·exact .inl ⟨γ,o1,n1,sz1,hg⟩
 ref γ hg:=by
  have e:γ ≠ H.length:=by rintro rfl; exact hg hu
  rw [Map.put_other _ _ e]
  simp only [Map.kill]
  split
  ·exact .inr rfl
  ·exact .inl rfl
 res:=rfl
 vl _ _ h:=ours_vl h
theorem zHk {K:Kd} {own:Bool} {v':SV} (hH:HRel ρ H w) (hv:VRel ρ w v val) (hu:ρ H.length = .unborn) (he:fixV H K own v = some (v',H')) :
  ∃ ρ',Good false ρ H w v' H' val w ρ':=by
 unfold fixV at he
 split at he
 ·split at he
  ·simp only [Option.some.injEq,Prod.mk.injEq] at he
   obtain ⟨rfl,rfl⟩:=he
   exact ⟨ρ,Good.same hH hv⟩
  ·simp only [Option.some.injEq,Prod.mk.injEq] at he
   obtain ⟨rfl,rfl⟩:=he
   refine ⟨(ρ.kill []).put H.length .none_,zan (rs:=[]) hH hu (zmg hu) (fun _ _ _ _ _ _ _ => rfl) (fun _ _ _ => rfl) (.inl ⟨rfl,.inl ⟨K,0,rfl⟩⟩) (by simp) ?_⟩
   simp only [VRel,Map.put_same] at hv ⊢
   exact hv
  ·rename_i β off len
   split at he
   ·rename_i K' xs t hb
    simp only [Option.some.injEq,Prod.mk.injEq] at he
    obtain ⟨rfl,rfl⟩:=he
    simp only [VRel] at hv
    rcases hr:ρ β with _ | _ | _ | ⟨b,o,n,sz⟩ <;> rw [hr] at hv <;> simp only at hv
    ·exact absurd hr (live_of hH hb (by simp))
    ·obtain ⟨rfl,ad,rfl⟩:=hv
     refine ⟨(ρ.kill [β]).put H.length .none_,zan (rs:=[β]) hH hu (zmg hu) (fun _ _ _ _ _ _ _ => rfl) (fun _ _ _ => rfl) (.inl ⟨rfl,.inl ⟨K',t,by simp⟩⟩) (by simp) ?_⟩
     simp only [VRel,Map.put_same]
     exact ⟨ad,rfl⟩
    ·obtain ⟨hn,ad,c,rfl,hc,ha⟩:=hv
     rcases ha with ⟨rfl,rfl⟩ | ⟨rfl,hroom⟩
     ·refine ⟨(ρ.kill [β]).put H.length .none_,zan (rs:=[β]) hH hu (zmg hu) (fun _ _ _ _ _ _ _ => rfl) (fun _ _ _ => rfl) (.inl ⟨rfl,.inl ⟨K',t,by simp⟩⟩) (by simp) ?_⟩
      simp only [VRel,Map.put_same]
      exact ⟨ad,rfl⟩
     ·obtain ⟨rfl,rfl,C,tC,hC,hle,hrow⟩:=row_raw hH hb hr
      have hst:=Step.regrab (w:=w) (rs:=[β]) (H:=H) (o + off * K'.sz) len K'.sz hr hu
      have hmul:(off + len) * K'.sz ≤ xs.length * K'.sz:=Nat.mul_le_mul_right _ hn
      rw [Nat.add_mul] at hmul
      refine ⟨_,zan (rs:=[β]) hH hu hst (fun _ _ _ _ _ _ _ => rfl) (fun _ _ _ => rfl) (.inr ⟨b,o + off * K'.sz,len,K'.sz,rfl,hH.lt _ _ _ _ _ hr,hH.resf _ _ _ _ _ hr,fun γ o' n' sz' hγ hr' => ?_,?_⟩) (by simp) ?_⟩
      ·have:=hH.inj _ _ _ _ _ _ _ _ _ hr hr'
       subst this; simp at hγ
      ·simp only [BRel]
       refine ⟨by simp; omega,by first | rfl | trivial,C,tC,hC,by omega,fun i x hx => ?_⟩
       rw [List.getElem?_take] at hx
       split at hx
       ·rw [List.getElem?_drop] at hx
        obtain ⟨es,h1,h2⟩:=hrow _ x hx
        refine ⟨es,h1.step hst,fun j u hj => ?_⟩
        rw [← h2 j u hj]; congr 1; rw [Nat.add_mul]; omega
       ·simp at hx
      ·simp only [VRel,Map.put_same]
       exact ⟨c,hc,rfl,hroom⟩
   ·simp at he
  ·simp at he
 ·split at he
  ·rename_i p hp
   simp only [Option.some.injEq] at he
   subst he
   unfold frz1 at hp
   split at hp
   ·split at hp
    ·rename_i d e xs ex hb
     split at hp
     ·simp only [Option.some.injEq,Prod.mk.injEq] at hp
      obtain ⟨rfl,rfl⟩:=hp
      obtain ⟨ρ1,g1,g2,g3,g4⟩:=zvP hH hb hv
      exact ⟨ρ1,g3,g1,g2,by simp [zc],fun γ h _ => g4 γ h,by simp⟩
     ·cases hp
    ·cases hp
   ·cases hp
  split at he
  ·rename_i xs hdec
   simp only [Option.some.injEq,Prod.mk.injEq] at he
   obtain ⟨rfl,rfl⟩:=he
   refine ⟨ρ.kill v.refs,Step.kill _,hH.kill _,?_,by simp [zc],fun β h _ => zak h,by simp⟩
   simp only [VRel]
   exact zax (dp:=false) (B:=Free (ρ.kill v.refs) w) hH (fun b h => h.step (Step.kill _)) (fun h => by cases h) (fun γ b o n sz hg hr => zmj hH (by simpa [SV.refsL] using hg.resolve_left (by simp)) hr) hdec (VRels.single hv)
  ·simp at he
theorem zwg {f:Heap → SV → Option (SV × Heap)} (hfx:∀ {v v':SV} {val:Value} {ρ:Map} {H H':Heap},HRel ρ H w → (∀ γ,H.length ≤ γ → ρ γ = .unborn) → VRel ρ w v val → f H v = some (v',H') → ∃ ρ',Good false ρ H w v' H' val w ρ')
  {s:Nat} {c:Option Nat} (hat:At P N ρ H w τ a) (he:fixS f s c τ H = some (τ',H')):∃ ρ',At P N ρ' H' w τ' a ∧ Step ρ w ρ' w:=by
 unfold fixS at he
 split at he
 ·split at he
  ·rename_i v H1 hf
   simp only [Option.some.injEq,Prod.mk.injEq] at he
   obtain ⟨rfl,rfl⟩:=he
   obtain ⟨ρ1,hg⟩:=hfx hat.h hat.u (hat.t.2.2 s) hf
   exact ⟨ρ1,⟨⟨hat.t.1,hat.t.2.1,fun n => by
    rw [Tm.get_cons]
    split
    ·rename_i e; subst e; exact hg.vrel
    ·exact (hat.t.2.2 n).step hg.step⟩,hg.hrel,fun β hβ => hg.unb β (hat.u β (Nat.le_trans hg.len hβ)) hβ⟩,hg.step⟩
  ·simp at he
 ·rename_i c
  split at he
  ·rename_i β hs
   split at he
   ·rename_i cs t z hb
    split at he
    ·rename_i u hc
     split at he
     ·rename_i v H1 hf
      split at he
      ·rename_i cs1 t1 z1 hb1
       simp only [Option.some.injEq,Prod.mk.injEq] at he
       obtain ⟨rfl,rfl⟩:=he
       have hp:=hat.t.2.2 s
       rw [hs] at hp
       obtain ⟨b,o',n,sz,hr,_⟩:=ptr_rel hat.h hb (by simp) hp
       have hlt:β < H.length:=(List.getElem?_eq_some_iff.1 hb).1
       obtain ⟨x,h1,h2⟩:=hat.h.at_ β hlt _ _ _ _ hr
       rw [hb] at h1; cases h1
       simp only [BRel] at h2
       obtain ⟨_,_,C,tC,hC,_,hcell⟩:=h2
       obtain ⟨val,hval,hrel⟩:=hcell c u hc
       obtain ⟨ρ1,hg⟩:=hfx hat.h hat.u hrel hf
       have hr1:ρ1 β = .at b o' n sz:=by
        rcases hg.step.ref β (by rw [hr]; simp) with e | e
        ·rw [e,hr]
        ·have:=hg.hrel.dead β (List.getElem?_eq_some_iff.1 hb1).1 e
         rw [hb1] at this; cases this
       obtain ⟨y,h3,h4⟩:=hg.hrel.at_ β (List.getElem?_eq_some_iff.1 hb1).1 _ _ _ _ hr1
       rw [hb1] at h3; cases h3
       simp only [BRel] at h4
       obtain ⟨hz1,hl1,C1,tC1,hC1,hle1,hcell1⟩:=h4
       rw [hC] at hC1; cases hC1
       have hbr:BRel ρ1 w b o' n sz (.cells (cs1.set c v) t1 z1):=by
        simp only [BRel]
        refine ⟨hz1,by simpa using hl1,C,tC,hC,hle1,fun j q hq => ?_⟩
        rw [List.getElem?_set] at hq
        split at hq
        ·rename_i e; subst e
         split at hq
         ·cases hq; exact ⟨val,hval,hg.vrel⟩
         ·cases hq
        ·exact hcell1 j q hq
       exact ⟨ρ1,⟨⟨hat.t.1,hat.t.2.1,fun n => (hat.t.2.2 n).step hg.step⟩,hg.hrel.setBlk hr1 hbr,
        fun γ hγ => by
         simp only [List.length_set] at hγ
         exact hg.unb γ (hat.u γ (Nat.le_trans hg.len hγ)) hγ⟩,hg.step⟩
      ·simp at he
     ·simp at he
    ·simp at he
   ·simp at he
  ·simp at he
theorem zwh:∀ {l:List (Nat × Option Nat × Kd × Bool)} {τ:Env} {H:Heap} {ρ:Map},At P N ρ H w τ a → fixAll l τ H = some (τ',H') → ∃ ρ',At P N ρ' H' w τ' a ∧ Step ρ w ρ' w
 | [],τ,H,ρ,hat,he => by
  simp only [fixAll,Option.some.injEq,Prod.mk.injEq] at he
  obtain ⟨rfl,rfl⟩:=he
  exact ⟨ρ,hat,Step.refl _ _⟩
 | (s,c,K,o) :: r,τ,H,ρ,hat,he => by
  simp only [fixAll] at he
  split at he
  ·rename_i hf
   obtain ⟨ρ1,h1,h2⟩:=zwg (fun h1 h2 h3 h4 => zHk h1 h3 (h2 _ (Nat.le_refl _)) h4) hat hf
   obtain ⟨ρ2,h3,h4⟩:=zwh h1 he
   exact ⟨ρ2,h3,h2.trans h4⟩
  ·simp at he
theorem zwi:∀ {l:List (Nat × Option Nat × Kd × Nat)} {τ:Env} {H:Heap} {ρ:Map},At P N ρ H w τ a → fixTs l τ H = some (τ',H') → ∃ ρ',At P N ρ' H' w τ' a ∧ Step ρ w ρ' w
 | [],τ,H,ρ,hat,he => by
  simp only [fixTs,Option.some.injEq,Prod.mk.injEq] at he
  obtain ⟨rfl,rfl⟩:=he
  exact ⟨ρ,hat,Step.refl _ _⟩
 | (s,c,K,d) :: r,τ,H,ρ,hat,he => by
  simp only [fixTs] at he
  split at he
  ·rename_i hf
   obtain ⟨ρ1,h1,h2⟩:=zwg (fun h1 h2 h3 h4 => zGv h1 h2 h3 h4) hat hf
   obtain ⟨ρ2,h3,h4⟩:=zwi h1 he
   exact ⟨ρ2,h3,h2.trans h4⟩
  ·simp at he
end
section
variable {P:Program} {N n0:Nat} {ρ ρ':Map} {w:World} {f:Nat → Option Nat}
mutual
theorem VRel.ren (hf:∀ β β',f β = some β' → ρ' β' = ρ β) (hfree:∀ b,Free ρ w b → Free ρ' w b):∀ {s:SV} {u:Value},VRel ρ w s u → VRel ρ' w (s.ren f) u
 | .junk,_,_ => by simp [SV.ren,VRel]
 | .int ..,_,h => by simpa [SV.ren,VRel] using h
 | .bool _,_,h => by simpa [SV.ren,VRel] using h
 | .nilp,_,h => by simpa [SV.ren,VRel] using h
 | .ptr β o,_,h => by
  simp only [SV.ren]
  split
  ·rename_i β' e
   simp only [VRel] at h ⊢
   rw [hf β β' e]; exact h
  ·simp [VRel]
 | .aptr β i j,_,h => by
  simp only [SV.ren]
  split
  ·rename_i β' e
   simp only [VRel] at h ⊢
   rw [hf β β' e]; exact h
  ·simp [VRel]
 | .eptr K x j,_,h => by
  simp only [SV.ren,VRel] at h ⊢
  obtain ⟨ad,es,h1,h2,h3,h4⟩:=h
  exact ⟨ad,es,h1,CRel.mono hfree (fun _ _ => rfl) h2,hfree _ h3,h4⟩
 | .nils,_,h => by simpa [SV.ren,VRel] using h
 | .own β,_,h => by
  simp only [SV.ren]
  split
  ·rename_i β' e
   simp only [VRel] at h ⊢
   rw [hf β β' e]; exact h
  ·simp [VRel]
 | .sub β o l,_,h => by
  simp only [SV.ren]
  split
  ·rename_i β' e
   simp only [VRel] at h ⊢
   rw [hf β β' e]; exact h
  ·simp [VRel]
 | .es K xs,_,h => by
  simp only [SV.ren,VRel] at h ⊢
  exact CRel.mono hfree (fun _ _ => rfl) h
 | .agg cs,_,h => by
  simp only [SV.ren,VRel] at h ⊢
  obtain ⟨vs,h1,h2⟩:=h
  exact ⟨vs,h1,VRels.ren hf hfree h2⟩
 | .arrv K xs,_,h => by
  simp only [SV.ren,VRel] at h ⊢
  obtain ⟨vs,h1,h2,h3⟩:=h
  refine ⟨vs,h1,h2,fun i x hx => ?_⟩
  obtain ⟨es,h4,h5⟩:=h3 i x hx
  exact ⟨es,CRel.mono hfree (fun _ _ => rfl) h4,h5⟩
 | .tup cs,_,h => by
  simp only [SV.ren,VRel] at h ⊢
  obtain ⟨vs,h1,h2⟩:=h
  exact ⟨vs,h1,VRels.ren hf hfree h2⟩
 | .fn g a b,_,h => by
  simp only [SV.ren,VRel] at h ⊢
  obtain ⟨vf,vc,h1,h2,h3⟩:=h
  exact ⟨vf,vc,h1,VRels.ren hf hfree h2,VRels.ren hf hfree h3⟩
 | .nilf,_,h => by simpa [SV.ren,VRel] using h
 | .iface t x,_,h => by
  simp only [SV.ren,VRel] at h ⊢
  obtain ⟨u,h1,h2⟩:=h
  exact ⟨u,h1,VRel.ren hf hfree h2⟩
 | .nili,_,h => by simpa [SV.ren,VRel] using h
 | .mapp β,_,h => by
  simp only [SV.ren]
  split
  ·rename_i β' e
   simp only [VRel] at h ⊢
   rw [hf β β' e]; exact h
  ·simp [VRel]
 | .nilm,_,h => by simpa [SV.ren,VRel] using h
theorem VRels.ren (hf:∀ β β',f β = some β' → ρ' β' = ρ β) (hfree:∀ b,Free ρ w b → Free ρ' w b):∀ {cs:List SV} {us:List Value},VRels ρ w cs us → VRels ρ' w (SV.renL f cs) us
 | [],_,h => by simpa [SV.renL,VRels] using h
 | c :: cs,_,h => by
  simp only [SV.renL,VRels] at h ⊢
  obtain ⟨u,us,h1,h2,h3⟩:=h
  exact ⟨u,us,h1,VRel.ren hf hfree h2,VRels.ren hf hfree h3⟩
end
theorem zpZ:∀ {cs:List SV},(SV.renL f cs).length = cs.length
 | [] => rfl
 | c :: cs => by simp [SV.renL,zpZ (cs:=cs)]
theorem zwj:∀ {cs:List SV} {j:Nat},(SV.renL f cs)[j]? = (cs[j]?).map (SV.ren f)
 | [],j => by simp [SV.renL]
 | c :: cs,0 => by simp [SV.renL]
 | c :: cs,j + 1 => by simp [SV.renL,zwj (cs:=cs)]
theorem BRel.ren (hf:∀ β β',f β = some β' → ρ' β' = ρ β) (hfree:∀ b,Free ρ w b → Free ρ' w b) (hvl:ρ'.vl = ρ.vl) {b o n sz:Nat}:∀ {x:Blk},BRel ρ w b o n sz x → BRel ρ' w b o n sz (x.ren f)
 | .dead,h => h
 | .cells cs t z,h => by
  simp only [Blk.ren,BRel] at h ⊢
  obtain ⟨h1,h2,C,tC,h3,h4,h5⟩:=h
  refine ⟨h1,by rw [zpZ]; exact h2,C,tC,h3,h4,fun j s hs => ?_⟩
  rw [zwj,Option.map_eq_some_iff] at hs
  obtain ⟨s0,h6,rfl⟩:=hs
  obtain ⟨u,h7,h8⟩:=h5 j s0 h6
  exact ⟨u,h7,VRel.ren hf hfree h8⟩
 | .arr K xs t,h => by
  simp only [Blk.ren,BRel] at h ⊢
  obtain ⟨h1,h2,C,tC,h3,h4,h5⟩:=h
  refine ⟨h1,h2,C,tC,h3,h4,fun i x hx => ?_⟩
  obtain ⟨es,h6,h7⟩:=h5 i x hx
  exact ⟨es,CRel.mono hfree (fun _ _ => rfl) h6,h7⟩
 | .tree d e xs ex,h => by
  simp only [Blk.ren,BRel] at h ⊢
  obtain ⟨h1,h2,C,tC,us,tk,h3,h4,h5,h6,h7,h8,h9,h10⟩:=h
  refine ⟨h1,h2,C,tC,us,tk,h3,h4,h5,h6,?_,h8,by rw [hvl]; exact h9,fun p hp => ?_⟩
  ·have e1:(ex.map fun p => (p.1,SV.renL f p.2)).map Prod.fst = ex.map Prod.fst:=by cases ex <;> rfl
   rw [e1]
   refine h7.mono (fun c hc p hp => ?_) fun x _ c t ht h => h.monoB hfree
   obtain ⟨q,hq,rfl⟩:=Option.map_eq_some_iff.1 hp
   exact VRels.ren hf hfree (hc q hq)
  ·obtain ⟨q,hq,rfl⟩:=Option.map_eq_some_iff.1 hp
   exact ⟨(h10 q hq).1,by rw [zpZ]; exact (h10 q hq).2⟩
 | .mapi es,h => by
  simp only [Blk.ren,BRel] at h ⊢
  exact h
 | .mapo e g ex,h => by
  simp only [Blk.ren,BRel] at h ⊢
  obtain ⟨h0,h1,A,c,es,tk,h2,h3,h4,h5,h6,h7,h8⟩:=h
  have e1:(ex.map fun p => (p.1,p.2.1,p.2.2.ren f)).map keyM = ex.map keyM:=by cases ex <;> rfl
  refine ⟨h0,h1,A,c,es,tk,h2,h3,h4,fun p q hp => ⟨fun h => (h5 p q hp).1 (by rw [← e1]; exact h),fun v hv a => ?_⟩,?_,h7,by rw [hvl]; exact h8⟩
  ·obtain ⟨x,hx,hxe⟩:=Option.map_eq_some_iff.1 hv
   simp only [Prod.mk.injEq] at hxe
   obtain ⟨rfl,rfl,rfl⟩:=hxe
   exact VRel.ren hf hfree ((h5 _ _ hp).2 x.2.2 hx a)
  ·rw [e1]
   refine h6.mono (fun u hu x hx => ?_) fun a b u t ht hp => hp.monoB hfree
   obtain ⟨y,hy,rfl⟩:=Option.map_eq_some_iff.1 hx
   exact VRel.ren hf hfree (hu y hy)
theorem zwk {β:Nat}:∀ {σ:List Nat} {k i:Nat},idxIn β σ k = some i → k ≤ i ∧ σ[i - k]? = some β
 | [],k,i,h => by simp [idxIn] at h
 | x :: r,k,i,h => by
  simp only [idxIn] at h
  rcases zg h with ⟨h1,h2⟩ | ⟨h1,h2⟩
  ·simp at h2; subst h2
   have:=Nat.eq_of_beq_eq_true h1
   subst this; simp
  ·obtain ⟨h3,h4⟩:=zwk h2
   refine ⟨by omega,?_⟩
   have:i - k = (i - (k + 1)) + 1:=by omega
   rw [this]; simpa using h4
theorem zwl:∀ {σ:List Nat},nodupB σ = true → ∀ (i j:Nat) (x:Nat),σ[i]? = some x → σ[j]? = some x → i = j
 | [],_,i,j,x,h,_ => by simp at h
 | y :: r,hn,i,j,x,h1,h2 => by
  simp only [nodupB,Bool.and_eq_true,Bool.not_eq_true'] at hn
  obtain ⟨h3,h4⟩:=hn
  have hno:∀ k,r[k]? ≠ some y:=fun k hk => by
   have:=List.mem_of_getElem? hk
   simp at h3; exact h3 this
  cases i with
  | zero =>
   simp at h1; subst h1
   cases j with
   | zero => rfl
   | succ j => simp at h2; exact absurd h2 (hno j)
  | succ i =>
   cases j with
   | zero => simp at h2; subst h2; simp at h1; exact absurd h1 (hno i)
   | succ j => rw [zwl h4 i j x (by simpa using h1) (by simpa using h2)]
def Map.gc (ρ:Map) (n0:Nat) (σ:List Nat):Map:=⟨fun γ => if γ < n0 then ρ γ else match σ[γ - n0]? with | some β => ρ β | none => .unborn,ρ.res0,ρ.vl⟩
theorem gc_ren {σ:List Nat} (β β':Nat) (h:renF n0 σ β = some β'):(ρ.gc n0 σ) β' = ρ β:=by
 unfold renF at h
 rcases zg h with ⟨h1,h2⟩ | ⟨h1,h2⟩
 ·simp at h2; subst h2
  simp only [Map.gc]; rw [if_pos (by simpa [Nat.blt_eq] using h1)]
 ·obtain ⟨h3,h4⟩:=zwk h2
  simp only [Map.gc]; rw [if_neg (by omega),h4]
theorem gc_from {σ:List Nat} (γ:Nat):(∃ β,(ρ.gc n0 σ) γ = ρ β ∧ ((γ < n0 ∧ β = γ) ∨ (n0 ≤ γ ∧ σ[γ - n0]? = some β))) ∨ (ρ.gc n0 σ) γ = .unborn:=by
 simp only [Map.gc]
 split
 ·rename_i h; exact .inl ⟨γ,rfl,.inl ⟨h,rfl⟩⟩
 ·rename_i h
  split
  ·rename_i β hβ; exact .inl ⟨β,rfl,.inr ⟨by omega,hβ⟩⟩
  ·exact .inr rfl
theorem get_map {g:SV → SV}:∀ {τ:Env} {n:Nat},(∃ s,Tm.get τ n = s ∧ Tm.get (τ.map fun p => (p.1,g p.2)) n = g s) ∨ Tm.get (τ.map fun p => (p.1,g p.2)) n = .junk
 | [],n => .inr rfl
 | (m,v) :: τ,n => by
  simp only [List.map_cons,Tm.get_cons]
  split
  ·exact .inl ⟨v,rfl,rfl⟩
  ·exact get_map
theorem zHl {τ τ':Env} {H H':Heap} {a:Act} (hat:At P N ρ H w τ a) (he:gc n0 τ H = some (τ',H')):∃ ρ',At P N ρ' H' w τ' a ∧ StepN n0 ρ w ρ' w:=by
 unfold gc at he
 simp only at he
 generalize gcOrder n0 H LIM (τ.flatMap (fun p => p.2.refs) ++ (H.take n0).flatMap Blk.refs) [] = σ at he
 obtain ⟨hc,he⟩:=(zg he).resolve_right (by simp)
 simp only [Bool.and_eq_true,List.all_eq_true,Nat.ble_eq,Nat.blt_eq] at hc
 obtain ⟨hnd,hσ,hn0⟩:=hc
 simp only [Option.some.injEq,Prod.mk.injEq] at he
 obtain ⟨rfl,hH'⟩:=he
 have hf:=@gc_ren n0 ρ σ
 have himg:∀ {γ b o n sz},(ρ.gc n0 σ) γ = .at b o n sz → ∃ β,ρ β = .at b o n sz ∧ ((γ < n0 ∧ β = γ) ∨ (n0 ≤ γ ∧ σ[γ - n0]? = some β)):=by
  intro γ b o n sz h
  rcases gc_from (ρ:=ρ) (n0:=n0) (σ:=σ) γ with ⟨β,h1,h2⟩ | h1
  ·exact ⟨β,by rw [← h1]; exact h,h2⟩
  ·rw [h] at h1; cases h1
 have hfree:∀ b,Free ρ w b → Free (ρ.gc n0 σ) w b:=fun b h => ⟨h.1,h.2.1,fun γ o n sz hg => by
  obtain ⟨β,h1,_⟩:=himg hg
  exact h.2.2 _ _ _ _ h1⟩
 have hlen:H'.length = n0 + σ.length:=by
  rw [← hH']; simp; omega
 have hblk:∀ {γ β},((γ < n0 ∧ β = γ) ∨ (n0 ≤ γ ∧ σ[γ - n0]? = some β)) → ∃ x,H[β]? = some x ∧ β < H.length ∧
   H'[γ]? = some (x.ren (renF n0 σ)):=by
  intro γ β h
  rw [← hH']
  rcases h with ⟨h1,rfl⟩ | ⟨h1,h2⟩
  ·have hlt:β < H.length:=by omega
   refine ⟨H[β],List.getElem?_eq_getElem hlt,hlt,?_⟩
   rw [List.getElem?_append_left (by simp; omega),List.getElem?_map,List.getElem?_take,if_pos h1,List.getElem?_eq_getElem hlt]; rfl
  ·have hlt:=(hσ β (List.mem_of_getElem? h2)).2
   refine ⟨H[β],List.getElem?_eq_getElem hlt,hlt,?_⟩
   have hl2:((H.take n0).map (Blk.ren (renF n0 σ))).length = n0:=by simp; omega
   rw [List.getElem?_append_right (by omega),hl2,List.getElem?_map,h2]
   simp [List.getElem?_eq_getElem hlt]
 have hcase:∀ γ,γ < n0 + σ.length → ∃ β,(ρ.gc n0 σ) γ = ρ β ∧ ((γ < n0 ∧ β = γ) ∨ (n0 ≤ γ ∧ σ[γ - n0]? = some β)):=by
  intro γ hγ
  by_cases h:γ < n0
  ·exact ⟨γ,by simp [Map.gc,h],.inl ⟨h,rfl⟩⟩
  ·have h2:σ[γ - n0]? = some (σ[γ - n0]'(by omega)):=List.getElem?_eq_getElem (by omega)
   exact ⟨_,by simp only [Map.gc]; rw [if_neg h,h2],.inr ⟨by omega,h2⟩⟩
 refine ⟨ρ.gc n0 σ,⟨⟨hat.t.1,hat.t.2.1,fun n => ?_⟩,?_,fun β hβ => ?_⟩,?_⟩
 ·rcases get_map (g:=SV.ren (renF n0 σ)) (τ:=τ) (n:=n) with ⟨s,h1,h2⟩ | h1
  ·rw [h2,← h1]; exact VRel.ren hf hfree (hat.t.2.2 n)
  ·rw [h1]; simp [VRel]
 ·constructor
  ·intro γ hl hd
   rw [hlen] at hl
   obtain ⟨β,h1,h2⟩:=hcase γ hl
   obtain ⟨x,h3,h4,h5⟩:=hblk h2
   rw [h1] at hd
   have:=hat.h.dead β h4 hd
   rw [h3] at this; cases this
   exact h5
  ·intro γ hl hd
   rw [hlen] at hl
   obtain ⟨β,h1,h2⟩:=hcase γ hl
   obtain ⟨x,h3,h4,h5⟩:=hblk h2
   rw [h1] at hd
   rcases hat.h.none_ β h4 hd with ⟨K,t,h6⟩ | ⟨t,z,h6⟩ | ⟨d,e,h6⟩
   ·rw [h3] at h6; cases h6; exact .inl ⟨K,0,h5⟩
   ·rw [h3] at h6; cases h6; exact .inr (.inl ⟨0,z,h5⟩)
   ·rw [h3] at h6; cases h6; exact .inr (.inr ⟨d,e,h5⟩)
  ·intro γ hl b o n sz hd
   rw [hlen] at hl
   obtain ⟨β,h1,h2⟩:=hcase γ hl
   obtain ⟨x,h3,h4,h5⟩:=hblk h2
   rw [h1] at hd
   obtain ⟨y,h6,h7⟩:=hat.h.at_ β h4 _ _ _ _ hd
   rw [h3] at h6; cases h6
   exact ⟨_,h5,h7.ren hf hfree rfl⟩
  ·intro γ1 γ2 b o n sz o' n' sz' h1 h2
   obtain ⟨β1,h3,h4⟩:=himg h1
   obtain ⟨β2,h5,h6⟩:=himg h2
   have:=hat.h.inj _ _ _ _ _ _ _ _ _ h3 h5
   subst this
   rcases h4 with ⟨h7,h8⟩ | ⟨h7,h8⟩ <;> rcases h6 with ⟨h9,h10⟩ | ⟨h9,h10⟩
   ·omega
   ·have:=(hσ _ (List.mem_of_getElem? h10)).1; omega
   ·have:=(hσ _ (List.mem_of_getElem? h8)).1; omega
   ·have:=zwl hnd _ _ _ h8 h10; omega
  ·intro γ b o n sz h1
   obtain ⟨β1,h3,h4⟩:=himg h1
   exact hat.h.lt _ _ _ _ _ h3
  ·exact hat.h.resl
  ·intro γ b o n sz h1
   obtain ⟨β1,h3,h4⟩:=himg h1
   exact hat.h.resf _ _ _ _ _ h3
  ·exact hat.h.vr
 ·rw [hlen] at hβ
  simp only [Map.gc]
  rw [if_neg (by omega),List.getElem?_eq_none (by omega)]
 ·exact {
   os:=rfl,tape:=rfl,output:=rfl
   size:=Nat.le_refl _
   kept:=fun _ _ _ _ => rfl
   shape:=fun _ C _ _ h => ⟨C,h,rfl⟩
   img:=fun γ b o n sz h => by
    obtain ⟨β1,h3,_⟩:=himg h
    exact .inl ⟨_,_,_,_,h3⟩
   ref:=fun β hβ _ => .inl (by simp only [Map.gc]; rw [if_pos hβ])
   res:=rfl
   vl:=fun _ _ h => ours_vl h }
theorem zmy {τ τ':Env} {H H':Heap} {a:Act} {nm:Norm} (hat:At P N ρ H w τ a) (he:norm n0 nm τ H = some (τ',H')):∃ ρ',At P N ρ' H' w τ' a ∧ StepN n0 ρ w ρ' w:=by
 unfold norm at he
 split at he
 ·rename_i τ1 H1 hf
  obtain ⟨ρ1,h1,h2⟩:=zwh hat hf
  split at he
  ·rename_i τ2 H2 hf2
   obtain ⟨ρ2,k1,k2⟩:=zwi h1 hf2
   have hat1:At P N ρ2 H2 w (nm.live.map fun s => (s,Tm.get τ2 s)) a:=⟨⟨k1.t.1,k1.t.2.1,fun n => by
    have:∀ (l:List Nat),Tm.get (l.map fun s => (s,Tm.get τ2 s)) n = Tm.get τ2 n ∨ Tm.get (l.map fun s => (s,Tm.get τ2 s)) n = .junk:=by
     intro l
     induction l with
     | nil => exact .inr rfl
     | cons x l ih =>
      rw [List.map_cons,Tm.get_cons]
      split
      ·rename_i e; subst e; exact .inl rfl
      ·exact ih
    rcases this nm.live with h | h
    ·rw [h]; exact k1.t.2.2 n
    ·rw [h]; simp [VRel]⟩,k1.h,k1.u⟩
   obtain ⟨ρ3,h3,h4⟩:=zHl hat1 he
   exact ⟨ρ3,h3,(h2.trans k2).toN.trans h4⟩
  ·simp at he
 ·simp at he
theorem zwm {τ:Env} {a:Act} {H:Heap} {s:Nat} {c:Option Nat} {v:SV} (hat:At P N ρ H w τ a) (he:cellC τ H s c = some v):∃ u,VRel ρ w v u:=by
 unfold cellC at he
 split at he
 ·rcases zg he with ⟨_,he⟩ | ⟨_,he⟩
  ·simp only [Option.some.injEq] at he; subst he; exact ⟨.int .i64 ((s - 1000000:Nat):Int),by simp only [VRel]⟩
  ·simp only [Option.some.injEq] at he; subst he; exact ⟨_,hat.t.2.2 s⟩
 ·rename_i c
  split at he
  ·rename_i β hs
   split at he
   ·rename_i cs t z hb
    have hp:=hat.t.2.2 s
    rw [hs] at hp
    obtain ⟨b,o',n,sz,hr,_⟩:=ptr_rel hat.h hb (by simp) hp
    obtain ⟨x,h1,h2⟩:=hat.h.at_ β (List.getElem?_eq_some_iff.1 hb).1 _ _ _ _ hr
    rw [hb] at h1; cases h1
    simp only [BRel] at h2
    obtain ⟨_,_,C,tC,hC,_,hcell⟩:=h2
    rcases zg he with ⟨_,he⟩ | ⟨_,he⟩
    ·obtain ⟨val,hval,hrel⟩:=hcell c v he
     exact ⟨val,hrel⟩
    ·split at he
     ·rename_i γ hc
      obtain ⟨val,hval,hrel⟩:=hcell _ _ hc
      split at he
      ·rename_i d e xs ex hg
       split at he
       ·rename_i p
        have hlt:γ < H.length:=(List.getElem?_eq_some_iff.1 hg).1
        rcases hr2:ρ γ with _ | _ | _ | ⟨b2,o2,n2,sz2⟩
        ·simp only [VRel,hr2] at hrel
        ·exact absurd hr2 (live_of hat.h hg (by simp))
        ·rcases hat.h.none_ γ hlt hr2 with ⟨K',t,h⟩ | ⟨t,z,h⟩ | ⟨d',e',h⟩ <;> rw [hg] at h <;> cases h
        ·obtain ⟨_,_,C2,tC2,_,_,hexl,hpc⟩:=tree_of hat.h hg hr2
         obtain ⟨es,_,_,h7⟩:=hpc p.1 (hexl p rfl).1
         rcases h7 with ⟨q,h7,_,h8⟩ | ⟨h7,_⟩
         ·cases h7
          obtain ⟨u,_,h9⟩:=h8.get _ _ he
          exact ⟨u,h9⟩
         ·exact absurd rfl (h7 _ rfl)
       ·cases he
      ·cases he
     ·cases he
   ·cases he
  ·cases he
theorem zmz {R:Type} {r:R} {τ:Env} {a:Act}:∀ {l:List (Nat × Nat × Nat × Option Nat)} {ρ:Map} {H:Heap} {k:Heap → Option R},At P N ρ H w τ a → openK l τ H k = some r → ∃ H' ρ',At P N ρ' H' w τ a ∧ Step ρ w ρ' w ∧ k H' = some r
 | [],ρ,H,k,hat,he => ⟨H,ρ,hat,Step.refl _ _,he⟩
 | (s,c,si,ci) :: l,ρ,H,k,hat,he => by
  simp only [openK] at he
  split at he
  ·rename_i β hv
   split at he
   ·rename_i kk n hi
    split at he
    ·rename_i d K xs ex hb
     split at he
     ·obtain ⟨_,he⟩:=za he
      obtain ⟨hn,he⟩:=za he
      have hn:=of_decide_eq_true hn
      obtain ⟨u,hu⟩:=zwm hat hv
      have hlt:β < H.length:=(List.getElem?_eq_some_iff.1 hb).1
      have hr:∃ b o n sz,ρ β = .at b o n sz:=by
       rcases hr:ρ β with _ | _ | _ | ⟨b,o,n,sz⟩
       ·simp only [VRel,hr] at hu
       ·exact absurd hr (live_of hat.h hb (by simp))
       ·rcases hat.h.none_ β hlt hr with ⟨K',t,h⟩ | ⟨t,z,h⟩ | ⟨d',e,h⟩
        ·rw [hb] at h; cases h
        ·rw [hb] at h; cases h
        ·rw [hb] at h; cases h; simp at hn
       ·exact ⟨b,o,n,sz,rfl⟩
      obtain ⟨b,o,n',sz,hr⟩:=hr
      obtain ⟨ρ1,g1,g2,g3,g4⟩:=zpF hat.h hat.u hb hr hn
      obtain ⟨H2,ρ2,k1,k2,k3⟩:=zmz (ρ:=ρ1) ⟨⟨hat.t.1,hat.t.2.1,fun m => (hat.t.2.2 m).step g2⟩,g1,fun γ h => g4 γ (by simpa using h)⟩ he
      exact ⟨H2,ρ2,k1,g2.trans k2,k3⟩
     ·cases he
    ·cases he
   ·cases he
  ·rename_i β hv
   split at he
   ·rename_i y hy
    split at he
    ·rename_i e f ex hb
     split at he
     ·obtain ⟨u,hu⟩:=zwm hat hv
      obtain ⟨b,o,n,sz,A,c',es,tk,hr,_⟩:=mapo_of hat.h hb hu
      obtain ⟨ρ1,g1,g2,g3,g4⟩:=zGr hat.h hat.u y.1 y.2 hb hr
      obtain ⟨H2,ρ2,k1,k2,k3⟩:=zmz (ρ:=ρ1) ⟨⟨hat.t.1,hat.t.2.1,fun m => (hat.t.2.2 m).step g2⟩,g1,fun γ h => g4 γ (by simpa [expl] using h)⟩ he
      exact ⟨H2,ρ2,k1,g2.trans k2,k3⟩
     ·cases he
    ·cases he
   ·cases he
  ·cases he
theorem At.ref {τ:Env} {a:Act} {H:Heap} {s:S} {b:Bool} (hat:At P N ρ H w τ a) (hb:s.ev τ = .bool b):At P N ρ H w (refS s b τ) a:=by
 cases s with
 | c v => exact hat
 | t n => exact ⟨⟨hat.t.1,hat.t.2.1,fun m => by rw [refS,zcA hb]; exact hat.t.2.2 m⟩,hat.h,hat.u⟩
end
end Go.Proofs.YtljojacnjjgceaaGreat.Den
