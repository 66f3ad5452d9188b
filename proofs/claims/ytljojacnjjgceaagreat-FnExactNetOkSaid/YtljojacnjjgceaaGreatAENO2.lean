/- Part 2 of the texts behind the row. -/
import Derived.Test.YtljojacnjjgceaaGreatAENO1
import Derived.Laws.StructEq
set_option linter.unusedVariables false
set_option linter.unusedSimpArgs false
namespace Go.Proofs.YtljojacnjjgceaaGreat.Den
open Go Go.RowKit
section
variable {P:Program} {o:Oper} {a:Act} {m:Bool} {ρ:Map} {H H':Heap} {w:World} {τ:Env} {N:Nat} {T:Tab} {v:SV}
theorem zvz {x:SV} {u:Value} {l:Nat} (hH:HRel ρ H w) (h:lenOf H x = some l) (hv:VRel ρ w x u):∃ a c,u = .slice a l c ∧ l ≤ c:=by
 unfold lenOf at h
 split at h
 ·simp at h; subst h
  simp only [VRel,CRel] at hv
  obtain ⟨a,c,e,hc,_⟩:=hv
  simp at e
  exact ⟨a,c,e,hc⟩
 ·simp at h; subst h
  simp only [VRel] at hv
  obtain ⟨a,rfl⟩:=hv
  exact ⟨a,0,rfl,Nat.le_refl _⟩
 ·rename_i β off l'
  have key:∃ x,H[β]? = some x ∧ x ≠ .dead ∧ l = l':=by
   split at h
   ·rename_i hb; simp at h; exact ⟨_,hb,by simp,h.symm⟩
   ·rename_i hb; simp at h; exact ⟨_,hb,by simp,h.symm⟩
   ·simp at h
  obtain ⟨x,hb,hx,rfl⟩:=key
  simp only [VRel] at hv
  rcases hr:ρ β with _ | _ | _ | ⟨b,o,n,sz⟩ <;> rw [hr] at hv <;> simp only at hv
  ·exact absurd hr (live_of hH hb hx)
  ·obtain ⟨rfl,a,rfl⟩:=hv
   exact ⟨a,0,rfl,Nat.le_refl _⟩
  ·obtain ⟨_,a,c,rfl,hc,_⟩:=hv
   exact ⟨a,c,rfl,hc⟩
 ·rename_i β
  split at h
  ·rename_i K xs t hb
   simp at h; subst h
   rcases own_rel hH hb (by simp) hv with ⟨hr,a,rfl⟩ | ⟨b,o,n,sz,c,hr,hc,rfl,_⟩
   ·have:=ziq hH hb hr; subst this
    exact ⟨a,0,rfl,Nat.le_refl _⟩
   ·obtain ⟨_,hn,_⟩:=row_of hH hb hr
    exact ⟨_,c,by rw [hn],by omega⟩
  ·rename_i d K xs ex hb
   simp at h; subst h
   rcases own_rel hH hb (by simp) hv with ⟨hr,a,rfl⟩ | ⟨b,o,n,sz,c,hr,hc,rfl,_⟩
   ·have:=zpE hH hb hr; subst this
    exact ⟨a,0,rfl,Nat.le_refl _⟩
   ·obtain ⟨_,hn,_⟩:=tree_of hH hb hr
    exact ⟨_,c,by rw [hn],by omega⟩
  ·rename_i cs t z hb
   split at h
   ·simp at h
   ·rename_i hz
    simp at h; subst h
    rcases own_rel hH hb (by simp) hv with ⟨hr,a,rfl⟩ | ⟨b,o,n,sz,c,hr,hc,rfl,_⟩
    ·have:=zcx hH hb hr; subst this
     exact ⟨a,0,by simp,by simp⟩
    ·obtain ⟨C,tC,_,hsz,hn,_⟩:=zL hH hb hr
     have:cs.length / z = n:=by rw [hn,← hsz]; exact Nat.mul_div_cancel _ (by omega)
     exact ⟨_,c,by rw [this],by omega⟩
  ·simp at h
 ·simp at h
theorem zmh {w:World} {y:Nat} {code:BoundsCode} {k:IntKind} {i:Int} (h0:0 ≤ i) (h1:i ≤ (y:Int)):(Instr.sliceBound (.int k i) y code).run P w = .ok i.toNat w:=by
 simp [Instr.sliceBound,asIntOf,h0,h1]
theorem zGw {t e:TypeId} {j:TypeInfo} {ad:Option Addr} {len cap l h:Nat} {lo hi:Option Value} (hu:P.underlying t = some (.slice e)) (hj:P.info? e = some j)
  (hh:(hi = none ∧ h = len) ∨ ∃ k i,hi = some (.int k i) ∧ 0 ≤ i ∧ i ≤ (cap:Int) ∧ h = i.toNat) (hl:(lo = none ∧ l = 0) ∨ ∃ k i,lo = some (.int k i) ∧ 0 ≤ i ∧ i ≤ (h:Int) ∧ l = i.toNat) :
  (Instr.sliceAt t (.slice ad len cap) lo hi none).run P w = .ok (.slice (if cap = l then ad else ad.map (·.add (l * j.size))) (h - l) (cap - l)) w:=by
 have hb:(Instr.sliceBounds true len cap lo hi none).run P w = .ok (l,h,cap) w:=by
  rcases hh with ⟨rfl,rfl⟩ | ⟨k,i,rfl,h0,h1,rfl⟩ <;> rcases hl with ⟨rfl,rfl⟩ | ⟨k2,i2,rfl,h2,h3,rfl⟩
  ·simp [Instr.sliceBounds]
  ·simp [Instr.sliceBounds,zmh h2 h3]
  ·simp [Instr.sliceBounds,zmh h0 h1]
  ·simp [Instr.sliceBounds,zmh h0 h1,zmh h2 h3]
 simp [Instr.sliceAt,run_underlying hu,Instr.slice,hb,zm hj]
theorem zvA {R:Type} {x:Option SV} {d:Option Nat} {top:Nat} {k:Nat → Option R} {r:R} (h:bound x d top k = some r) :
  ∃ n,k n = some r ∧ ((x = none ∧ d = some n) ∨ ∃ kk i,x = some (.int kk i) ∧ 0 ≤ i ∧ i ≤ (top:Int) ∧ n = i.toNat):=by
 unfold bound at h
 split at h
 ·split at h
  ·exact ⟨_,h,.inl ⟨rfl,rfl⟩⟩
  ·simp at h
 ·rename_i kk i
  obtain ⟨h0,h⟩:=za h
  obtain ⟨h1,h⟩:=za h
  exact ⟨_,h,.inr ⟨kk,i,rfl,by simpa using h0,by simpa using h1,rfl⟩⟩
 ·simp at h
theorem ev_opt {x:Option Operand} {s:Option S} (ht:TRel ρ w τ a N) (h:x.map opL = s.map some):(s = none → x = none) ∧ ∀ kk i,s.map (S.ev τ) = some (.int kk i) → x.map a.eval = some (.int kk i):=by
 cases x <;> cases s <;> simp at h
 ·simp
 ·refine ⟨by simp,fun kk i e => ?_⟩
  have:=opL_rel ht h
  simp at e ⊢
  rw [e] at this
  simpa [VRel] using this
theorem snd_sl {t e:TypeId} {j:TypeInfo} {x:Operand} {lo hi:Option Operand} {sx:S} {slo shi:Option S} (hop:o.op = .slice t x lo hi none) (hu:P.underlying t = some (.slice e)) (hj:P.info? e = some j)
  (hx:opL x = some sx) (hlo:lo.map opL = slo.map some) (hhi:hi.map opL = shi.map some) (ht:TRel ρ w τ a N) (hH:HRel ρ H w)
  (he:runI T (.sl j.size sx slo shi none) τ H (fun v H => some (v,H)) = some (v,H')):OpOK P o a m ρ H w v H':=by
 have vx:=opL_rel ht hx
 have e1:=ev_opt ht hlo
 have e2:=ev_opt ht hhi
 have key:H' = H ∧ ∃ u,(Instr.sliceAt t (a.eval x) (lo.map a.eval) (hi.map a.eval) none).run P w = .ok u w ∧ VRel ρ w v u:=by
  simp only [runI,slI,Option.map_none] at he
  rcases zg he with ⟨hok,he⟩ | ⟨_,he⟩
  ·split at he
   ·simp at he
   ·rename_i l hl
    obtain ⟨ad,c,hv,hc⟩:=zvz hH hl vx
    obtain ⟨h,he,h1⟩:=zvA he
    obtain ⟨q,he,h2⟩:=zvA he
    have h1':(hi.map a.eval = none ∧ h = l) ∨ ∃ k i,hi.map a.eval = some (.int k i) ∧ 0 ≤ i ∧ i ≤ (c:Int) ∧ h = i.toNat:=by
     rcases h1 with ⟨hn,hd⟩ | ⟨kk,i,hi',h3,h4,h5⟩
     ·simp at hd hn; exact .inl ⟨by simp [e2.1 hn],hd.symm⟩
     ·exact .inr ⟨kk,i,e2.2 kk i hi',h3,by omega,h5⟩
    have h2':(lo.map a.eval = none ∧ q = 0) ∨ ∃ k i,lo.map a.eval = some (.int k i) ∧ 0 ≤ i ∧ i ≤ (h:Int) ∧ q = i.toNat:=by
     rcases h2 with ⟨hn,hd⟩ | ⟨kk,i,hi',h3,h4,h5⟩
     ·simp at hd hn; exact .inl ⟨by simp [e1.1 hn],hd.symm⟩
     ·exact .inr ⟨kk,i,e1.2 kk i hi',h3,h4,h5⟩
    have hle:h ≤ l:=by
     rcases h1 with ⟨_,hd⟩ | ⟨kk,i,_,h3,h4,h5⟩
     ·simp at hd; omega
     ·omega
    have hqh:q ≤ h:=by
     rcases h2 with ⟨_,hd⟩ | ⟨kk,i,_,h3,h4,h5⟩
     ·simp at hd; omega
     ·omega
    have hrun:=zGw (P:=P) (w:=w) (ad:=ad) (len:=l) (cap:=c) hu hj h1' h2'
    split at he
    ·rename_i K xs ex
     rw [ex] at vx hok
     simp at he; obtain ⟨rfl,rfl⟩:=he
     have hsz:K.sz = j.size:=by simpa [szOK] using hok
     rw [hv] at vx ⊢
     refine ⟨rfl,_,hrun,?_⟩
     simp only [VRel,CRel] at vx ⊢
     obtain ⟨a',c',e3,hc',hx'⟩:=vx
     simp at e3
     obtain ⟨rfl,hl',rfl⟩:=e3
     have hlen:((xs.take h).drop q).length = h - q:=by simp; omega
     refine ⟨_,c - q,by rw [hlen],by rw [hlen]; omega,fun h0 => ?_⟩
     rw [hlen] at h0
     obtain ⟨ad',rfl,hB,hel⟩:=hx' (by omega)
     rw [if_neg (by omega)]
     refine ⟨ad'.add (q * j.size),rfl,by rw [zij]; exact hB,fun i y hy => ?_⟩
     rw [List.getElem?_drop,List.getElem?_take] at hy
     split at hy
     ·obtain ⟨es,h3,h4⟩:=hel _ y hy
      refine ⟨es,h3,fun jj u hu => ?_⟩
      rw [add_add,← hsz,← h4 jj u hu]
      congr 2; rw [Nat.add_mul]; omega
     ·simp at hy
    ·rename_i ex
     rw [ex] at vx
     simp at he; obtain ⟨rfl,rfl⟩:=he
     have hl0:l = 0:=by rw [ex] at hl; simpa [lenOf] using hl.symm
     rw [hv] at vx ⊢
     refine ⟨rfl,_,hrun,?_⟩
     simp only [VRel] at vx ⊢
     obtain ⟨a',e3⟩:=vx
     simp at e3
     obtain ⟨rfl,rfl,rfl⟩:=e3
     obtain rfl:h = 0:=by omega
     obtain rfl:q = 0:=by omega
     exact ⟨_,rfl⟩
    ·rename_i β ex
     rw [ex] at vx hok hl
     simp at he; obtain ⟨rfl,rfl⟩:=he
     have hlive:∃ y,H[β]? = some y ∧ y ≠ .dead:=by
      simp only [szOK] at hok
      split at hok
      ·rename_i hb; exact ⟨_,hb,by simp⟩
      ·rename_i hb; exact ⟨_,hb,by simp⟩
      ·simp at hok
     obtain ⟨y,hb,hy⟩:=hlive
     rw [hv] at vx ⊢
     refine ⟨rfl,_,hrun,?_⟩
     rcases own_rel hH hb hy vx with ⟨hr,a',e3⟩ | ⟨b,o',n',sz,c',hr,hc',e3,hroom⟩
     ·simp at e3
      obtain ⟨rfl,rfl,rfl⟩:=e3
      obtain rfl:h = 0:=by omega
      obtain rfl:q = 0:=by omega
      simp only [VRel,hr]
      exact ⟨by first | rfl | trivial,_,rfl⟩
     ·simp at e3
      obtain ⟨rfl,rfl,rfl⟩:=e3
      have hsz:sz = j.size:=by
       simp only [szOK] at hok
       split at hok
       ·rename_i hb'; obtain ⟨h3,_⟩:=row_of hH hb' hr; rw [← h3]; simpa using hok
       ·rename_i hb'; obtain ⟨_,_,_,h3,_⟩:=zL hH hb' hr; rw [← h3]; simpa using hok
       ·simp at hok
      simp only [VRel,hr]
      refine ⟨by omega,_,_,rfl,by omega,?_⟩
      by_cases hcq:c = q
      ·subst hcq; exact .inl ⟨by omega,by omega⟩
      ·rw [if_neg hcq]
       refine .inr ⟨by simp [zd,hsz],?_⟩
       obtain ⟨C,t',hC,hCs⟩:=hroom
       have:o' + q * sz + (c - q) * sz = o' + c * sz:=by
        have:q * sz + (c - q) * sz = c * sz:=by rw [← Nat.add_mul]; congr 1; omega
        omega
       exact ⟨C,t',hC,by omega⟩
    ·rename_i β off len ex
     rw [ex] at vx hok hl
     simp at he; obtain ⟨rfl,rfl⟩:=he
     have hlive:∃ y,H[β]? = some y ∧ y ≠ .dead:=by
      simp only [szOK] at hok
      split at hok
      ·rename_i hb; exact ⟨_,hb,by simp⟩
      ·rename_i hb; exact ⟨_,hb,by simp⟩
      ·simp at hok
     obtain ⟨y,hb,hy⟩:=hlive
     rw [hv] at vx ⊢
     refine ⟨rfl,_,hrun,?_⟩
     simp only [VRel] at vx ⊢
     rcases hr:ρ β with _ | _ | _ | ⟨b,o',n',sz⟩ <;> rw [hr] at vx <;> simp only at vx
     ·exact absurd hr (live_of hH hb hy)
     ·obtain ⟨h3,a',e3⟩:=vx
      simp at e3
      obtain ⟨rfl,rfl,rfl⟩:=e3
      obtain rfl:h = 0:=by omega
      obtain rfl:q = 0:=by omega
      exact ⟨rfl,_,rfl⟩
     ·obtain ⟨hn,a',c',e3,hc',h6⟩:=vx
      simp at e3
      obtain ⟨rfl,rfl,rfl⟩:=e3
      have hsz:sz = j.size:=by
       simp only [szOK] at hok
       split at hok
       ·rename_i hb'; obtain ⟨h3,_⟩:=row_of hH hb' hr; rw [← h3]; simpa using hok
       ·rename_i hb'; obtain ⟨_,_,_,h3,_⟩:=zL hH hb' hr; rw [← h3]; simpa using hok
       ·simp at hok
      refine ⟨by omega,_,_,rfl,by omega,?_⟩
      by_cases hcq:c = q
      ·subst hcq; exact .inl ⟨by omega,by omega⟩
      ·rw [if_neg hcq]
       rcases h6 with ⟨h7,h8⟩ | ⟨rfl,C,t',hC,hCs⟩
       ·omega
       ·refine .inr ⟨by simp [zd,hsz,Nat.add_mul,Nat.add_assoc],?_⟩
        have:o' + (off + q) * sz + (c - q) * sz = o' + off * sz + c * sz:=by
         have:q * sz + (c - q) * sz = c * sz:=by rw [← Nat.add_mul]; congr 1; omega
         rw [Nat.add_mul]; omega
        exact ⟨C,t',hC,by omega⟩
    ·simp at he
  ·simp at he
 obtain ⟨rfl,u,hr,hv⟩:=key
 exact OpOK.same hH (u:=u) (by simp [execOp,hop,hr]) hv
theorem snd_sl0 {t e:TypeId} {j:TypeInfo} {x hi mx:Operand} {sx shi smx:S} {sz:Nat} (hop:o.op = .slice t x none (some hi) (some mx)) (hu:P.underlying t = some (.slice e)) (hj:P.info? e = some j)
  (hx:opL x = some sx) (hhi:opL hi = some shi) (hmx:opL mx = some smx) (ht:TRel ρ w τ a N) (hH:HRel ρ H w)
  (he:runI T (.sl sz sx none (some shi) (some smx)) τ H (fun v H => some (v,H)) = some (v,H')):OpOK P o a m ρ H w v H':=by
 have vx:=opL_rel ht hx
 have vh:=opL_rel ht hhi
 have vm:=opL_rel ht hmx
 simp only [runI,slI,Option.map_some,Option.map_none] at he
 split at he
 ·rename_i heq; simp at heq
 ·rename_i kk heq
  simp at heq
  rw [heq] at vm
  split at he
  ·rename_i k2 h1 h2
   simp at h1
   rw [h1] at vh
   simp only [VRel] at vm vh
   have hsl:∃ ad n c,a.eval x = .slice ad n c:=by
    split at he
    ·rename_i ex; rw [ex] at vx
     simp only [VRel,CRel] at vx
     obtain ⟨a',c,e1,_⟩:=vx
     simp at e1; exact ⟨_,_,_,e1⟩
    ·rename_i ex; rw [ex] at vx; simp only [VRel] at vx; obtain ⟨a',e1⟩:=vx; exact ⟨_,_,_,e1⟩
    ·rename_i β ex; rw [ex] at vx; simp only [VRel] at vx
     rcases hr:ρ β with _ | _ | _ | ⟨b,o',n',sz⟩ <;> rw [hr] at vx <;> simp only at vx
     ·exact vx
     ·obtain ⟨_,h⟩:=vx; exact ⟨_,_,_,h⟩
     ·obtain ⟨_,_,h,_⟩:=vx; exact ⟨_,_,_,h⟩
    ·rename_i β q1 q2 ex; rw [ex] at vx; simp only [VRel] at vx
     rcases hr:ρ β with _ | _ | _ | ⟨b,o',n',sz⟩ <;> rw [hr] at vx <;> simp only at vx
     ·exact vx
     ·obtain ⟨_,_,h⟩:=vx; exact ⟨_,_,_,h⟩
     ·obtain ⟨_,_,_,h,_⟩:=vx; exact ⟨_,_,_,h⟩
    ·simp at he
   obtain ⟨ad,n,c,hv⟩:=hsl
   have hres:v = .nils ∧ H' = H:=by
    split at he <;> simp at he <;> first | exact ⟨he.1.symm,he.2.symm⟩ | skip
   obtain ⟨rfl,rfl⟩:=hres
   refine OpOK.same hH (u:=.slice ad 0 0) ?_ (by simp only [VRel]; exact ⟨_,rfl⟩)
   simp [execOp,hop,hv,vh,vm,Instr.sliceAt,run_underlying hu,Instr.slice,Instr.sliceBounds,Instr.sliceBound,asIntOf,zm hj]
  ·simp at he
 ·simp at he
theorem snd_len {x:Operand} {sx:S} {c:Call} {t e:TypeId} (hop:o.op = .call c) (hc:c.callee = .builtin .len) (hargs:c.args = #[x]) (hty:c.argTypes = #[t]) (hu:P.underlying t = some (.slice e))
  (hx:opL x = some sx) (ht:TRel ρ w τ a N) (hH:HRel ρ H w) (he:runI T (.len sx) τ H (fun v H => some (v,H)) = some (v,H')):OpOK P o a m ρ H w v H':=by
 have vx:=opL_rel ht hx
 simp only [runI] at he
 split at he
 ·rename_i n hl
  simp at he; obtain ⟨rfl,rfl⟩:=he
  obtain ⟨ad,cc,hv,_⟩:=zvz hH hl vx
  refine OpOK.same hH (u:=.int .i64 (n:Int)) ?_ (by simp [VRel])
  simp [execOp,hop,resolve,hc,hargs,hty,invoke,builtin,Builtin.len_,run_underlying hu,hv,goInt]
 ·simp at he
theorem snd_bin {op:BinOp} {t yt:TypeId} {x y:Operand} {sx sy:S} (hop:o.op = .binOp op t x y yt) (hx:opL x = some sx) (hy:opL y = some sy)
  (ht:TRel ρ w τ a N) (hH:HRel ρ H w) (he:runI T (.bin op sx sy) τ H (fun v H => some (v,H)) = some (v,H')):OpOK P o a m ρ H w v H':=by
 have vx:=opL_rel ht hx
 have vy:=opL_rel ht hy
 have key:H' = H ∧ ∃ u,(do eqGuard op t x y (a.eval x) (a.eval y); binOp op t (a.eval x) (a.eval y):Sem Value).run P w = .ok u w ∧ VRel ρ w v u:=by
  simp only [runI,binI] at he
  split at he
  ·rename_i ka p kb q e1 e2
   rw [e1] at vx; rw [e2] at vy
   simp only [VRel] at vx vy
   rw [vx,vy]
   have hg:∀ w:World,(eqGuard op t x y (.int ka p) (.int kb q)).run P w = .ok () w:=by
    intro w; unfold eqGuard; split <;> rfl
   simp only [Sem.run_bind,hg,Result.andThen_ok]
   split at he
   ·obtain ⟨h0,he⟩:=za he
    simp at he h0; obtain ⟨rfl,rfl⟩:=he
    exact ⟨rfl,_,by simp [binOp,Op.shift,show ¬ q < 0 by omega]; rfl,by simp only [VRel]⟩
   ·obtain ⟨h0,he⟩:=za he
    simp at he h0; obtain ⟨rfl,rfl⟩:=he
    exact ⟨rfl,_,by simp [binOp,Op.shift,show ¬ q < 0 by omega]; rfl,by simp only [VRel]⟩
   ·split at he
    ·rename_i hk
     subst hk
     split at he
     case h_4 | h_5 =>
      obtain ⟨h0,he⟩:=za he
      simp at he h0; obtain ⟨rfl,rfl⟩:=he
      exact ⟨rfl,.int ka _,by simp [binOp,Op.intDiv,h0]; rfl,by simp only [VRel]⟩
     all_goals (simp at he)
     all_goals (obtain ⟨rfl,rfl⟩:=he; exact ⟨rfl,_,by simp [binOp,Op.intArith,Op.intBits,Op.intCmp]; rfl,by simp only [VRel]⟩)
    ·simp at he
  ·simp at he
 obtain ⟨rfl,u,hr,hv⟩:=key
 exact OpOK.same hH (u:=u) (by simp only [execOp,hop,Sem.run_bind] at hr ⊢; rw [hr]; rfl) hv
theorem snd_beq {op:BinOp} {neg:Bool} {t yt:TypeId} {x y:Operand} {sx sy:S} (hop:o.op = .binOp op t x y yt) (hn:(op = .eql ∧ neg = false) ∨ (op = .neq ∧ neg = true)) (hu:P.underlying t = some .bool)
  (hx:opL x = some sx) (hy:opL y = some sy)
  (ht:TRel ρ w τ a N) (hH:HRel ρ H w) (he:runI T (.beq neg sx sy) τ H (fun v H => some (v,H)) = some (v,H')):OpOK P o a m ρ H w v H':=by
 have vx:=opL_rel ht hx
 have vy:=opL_rel ht hy
 simp only [runI] at he
 split at he
 ·rename_i p q e1 e2
  rw [e1] at vx; rw [e2] at vy
  simp only [VRel] at vx vy
  simp at he; obtain ⟨rfl,rfl⟩:=he
  have hg:∀ w:World,(eqGuard op t x y (.bool p) (.bool q)).run P w = .ok () w:=by
   intro w; unfold eqGuard; split <;> rfl
  have heq:(Op.equal t (.bool p) (.bool q)).run P w = .ok (p == q) w:=run_equalIn_bool w 9999 t p q hu
  refine OpOK.same hH (u:=.bool (cond neg (!(p == q)) (p == q))) ?_ (by simp [VRel])
  rcases hn with ⟨rfl,rfl⟩ | ⟨rfl,rfl⟩ <;> simp [execOp,hop,vx,vy,hg,binOp,heq]
 ·simp at he
theorem zpH {d:Nat} {xs ys:Array Value}:∀ (fs:List Field) (k:Nat) (cs ds:List SV) (r:Bool),
  (∀ (i:Nat) (f:Field),fs[i]? = some f → f.name ≠ "_" ∧ f.offset = k + i ∧ ∃ kk,P.underlying f.type = some (.int kk)) →
  cs.length = fs.length → eqC cs ds = some r → VRels ρ w cs (xs.toList.drop k) → VRels ρ w ds (ys.toList.drop k) → (Op.eqFields (d + 1) xs ys fs).run P w = .ok r w
 | [],k,cs,ds,r,_,hl,he,_,_ => by
  have:cs = []:=by cases cs <;> simp_all
  subst this
  cases ds <;> simp [eqC] at he
  subst he; simp [Op.eqFields]
 | f :: fs,k,cs,ds,r,hf,hl,he,hx,hy => by
  cases cs with
  | nil => simp at hl
  | cons c cs =>
   obtain ⟨hn,ho,hty⟩:=hf 0 f rfl
   simp at ho
   have hxk:∃ u us,xs.toList.drop k = u :: us ∧ VRel ρ w c u ∧ VRels ρ w cs us:=by simpa [VRels] using hx
   obtain ⟨u,us,e1,hu,hus⟩:=hxk
   have hd1:xs.toList.drop (k + 1) = us:=by rw [← List.drop_drop,e1]; rfl
   have hx0:xs[k]? = some u:=by rw [← Array.getElem?_toList,← List.head?_drop,e1]; rfl
   have hpart:∀ (vs:Array Value) (u:Value),vs[k]? = some u → (part f.type vs f.offset).run P w = .ok u w:=by
    intro vs u hvu
    have hag:isAggL P f.type = some false:=by obtain ⟨kk,h⟩:=hty; simp [isAggL,h]
    simp [part,zeE hag,ho,hvu]
   cases ds with
   | nil => cases c <;> simp [eqC] at he
   | cons e ds =>
    have hyk:∃ u us,ys.toList.drop k = u :: us ∧ VRel ρ w e u ∧ VRels ρ w ds us:=by simpa [VRels] using hy
    obtain ⟨v,vs,e2,hv,hvs⟩:=hyk
    have hd2:ys.toList.drop (k + 1) = vs:=by rw [← List.drop_drop,e2]; rfl
    have hy0:ys[k]? = some v:=by rw [← Array.getElem?_toList,← List.head?_drop,e2]; rfl
    have key:∃ (b r':Bool),eqC cs ds = some r' ∧ r = (b && r') ∧ (Op.equalIn (d + 1) f.type u v).run P w = .ok b w:=by
     cases c <;> cases e <;> simp only [eqC] at he <;> (try simp at he; done)
     ·rename_i k1 p k2 q
      simp only [VRel] at hu hv
      subst hu; subst hv
      split at he
      ·rename_i hk
       subst hk
       split at he
       ·rename_i r' hr
        simp at he
        obtain ⟨kk,h⟩:=hty
        exact ⟨p == q,r',hr,he.symm,run_equalIn_int w d f.type k1 kk p q h⟩
       ·simp at he
      ·simp at he
    obtain ⟨b,r',hr',rfl,hrun⟩:=key
    have ih:=zpH (d:=d) fs (k + 1) cs ds r' (fun i g hg => by
     obtain ⟨h1,h2,h3⟩:=hf (i + 1) g (by simpa using hg)
     exact ⟨h1,by omega,h3⟩) (by simpa using hl) hr' (by rw [hd1]; exact hus) (by rw [hd2]; exact hvs)
    rw [Op.eqFields,if_pos hn]
    simp only [Sem.run_bind,hpart xs u hx0,hpart ys v hy0,hrun,Result.andThen_ok]
    cases b
    ·simp
    ·simpa using ih
theorem snd_eqs {op:BinOp} {neg:Bool} {t yt:TypeId} {n:Nat} {x y:Operand} {sx sy:S} (hop:o.op = .binOp op t x y yt) (hn:(op = .eql ∧ neg = false) ∨ (op = .neq ∧ neg = true)) (hp:eqPlain P t = some n)
  (hx:opL x = some sx) (hy:opL y = some sy)
  (ht:TRel ρ w τ a N) (hH:HRel ρ H w) (he:runI T (.eqs neg n sx sy) τ H (fun v H => some (v,H)) = some (v,H')):OpOK P o a m ρ H w v H':=by
 have vx:=opL_rel ht hx
 have vy:=opL_rel ht hy
 simp only [runI] at he
 split at he
 ·rename_i cs ds e1 e2
  rw [e1] at vx; rw [e2] at vy
  simp only [VRel] at vx vy
  obtain ⟨xs,hxv,hcx⟩:=vx
  obtain ⟨ys,hyv,hcy⟩:=vy
  split at he
  ·rename_i hlen
   split at he
   ·rename_i b hb
    simp at he; obtain ⟨rfl,rfl⟩:=he
    unfold eqPlain at hp
    split at hp
    ·rename_i fs hfs
     split at hp
     ·rename_i hall
      obtain ⟨h1,h2,h3,h4⟩:=hall
      simp at hp
      have hfo:P.fieldsOf t = fs:=by simp [Program.fieldsOf,hfs]
      have hrun:(Op.equalIn 10000 t (.agg xs) (.agg ys)).run P w = .ok b w:=by
       rw [run_equalIn_struct w 9999 t xs ys (by rw [hfo]; exact hfs) h1,hfo]
       refine zpH (d:=9998) fs.toList 0 cs ds b (fun i f hf => ?_) (by rw [hlen.1]; simpa using hp.symm) hb (by simpa using hcx) (by simpa using hcy)
       have hm:f ∈ fs.toList:=List.mem_of_getElem? hf
       have h3':=List.all_eq_true.1 h3 f hm
       have h4':=List.all_eq_true.1 h4 (f,i) (List.mem_zipIdx_iff_getElem?.2 (by simpa using hf))
       simp only [Bool.and_eq_true,bne_iff_ne] at h3'
       refine ⟨h3'.1,by simpa using h4',?_⟩
       have h5:=h3'.2
       split at h5
       ·rename_i kk hk; exact ⟨kk,hk⟩
       ·simp at h5
      refine OpOK.same hH (u:=.bool (cond neg (!b) b)) ?_ (by simp [VRel])
      rcases hn with ⟨rfl,rfl⟩ | ⟨rfl,rfl⟩
      ·simp [execOp,hop,hxv,hyv,run_eqGuard_agg w _ t x y xs ys h2,run_eql_struct,hrun]
      ·simp [execOp,hop,hxv,hyv,run_eqGuard_agg w _ t x y xs ys h2,run_neq_struct,hrun]
     ·simp at hp
    ·simp at hp
   ·simp at he
  ·simp at he
 ·simp at he
theorem snd_not {yt:TypeId} {x:Operand} {sx:S} (hop:o.op = .unOp .not yt x) (hx:opL x = some sx) (ht:TRel ρ w τ a N) (hH:HRel ρ H w)
  (he:runI T (.not sx) τ H (fun v H => some (v,H)) = some (v,H')):OpOK P o a m ρ H w v H':=by
 have vx:=opL_rel ht hx
 simp only [runI] at he
 split at he
 ·rename_i b e
  rw [e] at vx
  simp only [VRel] at vx
  simp at he; obtain ⟨rfl,rfl⟩:=he
  exact OpOK.same hH (u:=.bool (!b)) (by simp [execOp,hop,vx,Op.unary]) (by simp [VRel])
 ·simp at he
theorem snd_neg {yt:TypeId} {x:Operand} {sx:S} (hop:o.op = .unOp .neg yt x) (hx:opL x = some sx) (ht:TRel ρ w τ a N) (hH:HRel ρ H w)
  (he:runI T (.neg sx) τ H (fun v H => some (v,H)) = some (v,H')):OpOK P o a m ρ H w v H':=by
 have vx:=opL_rel ht hx
 simp only [runI] at he
 split at he
 ·rename_i k n e
  rw [e] at vx
  simp only [VRel] at vx
  simp at he; obtain ⟨rfl,rfl⟩:=he
  exact OpOK.same hH (u:=.int k (k.wrap (0 - n))) (by simp [execOp,hop,vx,Op.unary,Op.intArith]) (by simp [VRel])
 ·simp at he
theorem zGx {src dst:TypeId} {k ks:IntKind} {x:Operand} {sx:S} (hop:o.op = .convert src dst x) (hs:P.underlying src = some (.int ks)) (hd:P.underlying dst = some (.int k)) (hx:opL x = some sx) (ht:TRel ρ w τ a N) (hH:HRel ρ H w)
  (he:runI T (.conv k sx) τ H (fun v H => some (v,H)) = some (v,H')):OpOK P o a m ρ H w v H':=by
 have vx:=opL_rel ht hx
 simp only [runI] at he
 split at he
 ·rename_i kk n e
  rw [e] at vx
  simp only [VRel] at vx
  simp at he; obtain ⟨rfl,rfl⟩:=he
  exact OpOK.same hH (u:=.int k (k.wrap n)) (by simp [execOp,hop,vx,convert,run_underlying hs,run_underlying hd,Conv.intToInt]) (by simp [VRel])
 ·simp at he
theorem snd_mn {c:Call} {x y:Operand} {sx sy:S} (hop:o.op = .call c) (hc:c.callee = .builtin .min) (hargs:c.args = #[x,y]) (hx:opL x = some sx) (hy:opL y = some sy) (ht:TRel ρ w τ a N) (hH:HRel ρ H w)
  (he:runI T (.mn sx sy) τ H (fun v H => some (v,H)) = some (v,H')):OpOK P o a m ρ H w v H':=by
 have vx:=opL_rel ht hx
 have vy:=opL_rel ht hy
 simp only [runI] at he
 split at he
 ·rename_i k p k2 q e1 e2
  rw [e1] at vx; rw [e2] at vy
  simp only [VRel] at vx vy
  simp at he; obtain ⟨rfl,rfl⟩:=he
  exact OpOK.same hH (u:=.int k (if q < p then q else p)) (by simp [execOp,hop,resolve,hc,hargs,invoke,builtin,Builtin.min_,Builtin.min2,vx,vy]) (by simp [VRel])
 ·simp at he
theorem snd_mx {c:Call} {x y:Operand} {sx sy:S} (hop:o.op = .call c) (hc:c.callee = .builtin .max) (hargs:c.args = #[x,y]) (hx:opL x = some sx) (hy:opL y = some sy) (ht:TRel ρ w τ a N) (hH:HRel ρ H w)
  (he:runI T (.mx sx sy) τ H (fun v H => some (v,H)) = some (v,H')):OpOK P o a m ρ H w v H':=by
 have vx:=opL_rel ht hx
 have vy:=opL_rel ht hy
 simp only [runI] at he
 split at he
 ·rename_i k p k2 q e1 e2
  rw [e1] at vx; rw [e2] at vy
  simp only [VRel] at vx vy
  simp at he; obtain ⟨rfl,rfl⟩:=he
  exact OpOK.same hH (u:=.int k (if q > p then q else p)) (by simp [execOp,hop,resolve,hc,hargs,invoke,builtin,Builtin.max_,Builtin.max2,vx,vy]) (by simp [VRel])
 ·simp at he
theorem zGy {t:TypeId} {d:TypeDesc} {x:Operand} {sx:S} (hop:o.op = .makeInterface t x) (hu:P.underlying t = some d) (hd:∀ ms,d ≠ .interface ms) (hx:opL x = some sx) (ht:TRel ρ w τ a N) (hH:HRel ρ H w)
  (he:runI T (.mkif t sx) τ H (fun v H => some (v,H)) = some (v,H')):OpOK P o a m ρ H w v H':=by
 have vx:=opL_rel ht hx
 simp only [runI] at he
 simp at he; obtain ⟨rfl,rfl⟩:=he
 refine OpOK.same hH (u:=.iface t (a.eval x)) ?_ (by simp only [VRel]; exact ⟨_,rfl,vx⟩)
 simp only [execOp,hop,Instr.makeInterface,Sem.run_bind,run_underlying hu,Result.andThen_ok]
 cases d <;> first | rfl | exact absurd rfl (hd _)
theorem zGz {fn:Fn} {first cap:Array Operand} {sf sc:List S} (hop:o.op = .makeFunc fn first cap) (hf:opsL first.toList = some sf) (hc:opsL cap.toList = some sc) (ht:TRel ρ w τ a N) (hH:HRel ρ H w)
  (he:runI T (.mkfn fn sf sc) τ H (fun v H => some (v,H)) = some (v,H')):OpOK P o a m ρ H w v H':=by
 have v1:=zme ht hf
 have v2:=zme ht hc
 simp only [runI] at he
 simp at he; obtain ⟨rfl,rfl⟩:=he
 refine OpOK.same hH (u:=.func fn (first.map a.eval) (cap.map a.eval)) (by simp [execOp,hop,Instr.makeFunc]) ?_
 simp only [VRel]
 exact ⟨_,_,rfl,by simpa using v1,by simpa using v2⟩
theorem snd_tas {xt t:TypeId} {ok:Bool} {x:Operand} {sx:S} {d:TypeDesc} {i:TypeInfo} {z:Value} {sz:SV} (hop:o.op = .typeAssert x xt t ok) (hu:P.underlying t = some d) (hd:∀ ms,d ≠ .interface ms) (hx:opL x = some sx)
  (hi:P.info? t = some i) (hz:i.zero = some z) (hs:svOf 1000 z = some sz) (ht:TRel ρ w τ a N) (hH:HRel ρ H w)
  (he:runI T (.tas t ok sz sx) τ H (fun v H => some (v,H)) = some (v,H')):OpOK P o a m ρ H w v H':=by
 have vx:=opL_rel ht hx
 have vz:VRel ρ w sz z:=svOf_rel hs
 have hzero:∀ w:World,(zeroValue t).run P w = .ok z w:=fun w => by simp [zeroValue,typeInfo,hi,hz]
 have key:H' = H ∧ ∃ u,(Instr.typeAssert (a.eval x) xt t ok).run P w = .ok u w ∧ VRel ρ w v u:=by
  simp only [runI] at he
  unfold Instr.typeAssert
  simp only [Sem.run_bind,run_underlying hu,Result.andThen_ok]
  split at he
  ·rename_i t' y e
   rw [e] at vx
   simp only [VRel] at vx
   obtain ⟨u,hv,hvy⟩:=vx
   rw [hv]
   split at he
   ·split at he
    ·rename_i htt
     subst htt
     simp at he; obtain ⟨rfl,rfl⟩:=he
     refine ⟨rfl,.tuple #[u,.bool true],?_,?_⟩
     ·cases d <;> first | exact absurd rfl (hd _) | simp
     ·simp only [VRel]; exact ⟨_,rfl,by simp [VRels,VRel,hvy]⟩
    ·rename_i htt
     simp at he; obtain ⟨rfl,rfl⟩:=he
     refine ⟨rfl,.tuple #[z,.bool false],?_,?_⟩
     ·cases d <;> first | exact absurd rfl (hd _) | simp [htt,hzero]
     ·simp only [VRel]; exact ⟨_,rfl,by simp [VRels,VRel,vz]⟩
   ·split at he
    ·rename_i htt
     subst htt
     simp at he; obtain ⟨rfl,rfl⟩:=he
     refine ⟨rfl,u,?_,hvy⟩
     cases d <;> first | exact absurd rfl (hd _) | simp
    ·simp at he
  ·rename_i e
   rw [e] at vx
   simp only [VRel] at vx
   rw [vx]
   split at he
   ·simp at he; obtain ⟨rfl,rfl⟩:=he
    refine ⟨rfl,.tuple #[z,.bool false],?_,?_⟩
    ·cases d <;> first | exact absurd rfl (hd _) | simp [hzero]
    ·simp only [VRel]; exact ⟨_,rfl,by simp [VRels,VRel,vz]⟩
   ·simp at he
  ·simp at he
 obtain ⟨rfl,u,hr,hv⟩:=key
 exact OpOK.same hH (u:=u) (by simp [execOp,hop,hr]) hv
end
end Go.Proofs.YtljojacnjjgceaaGreat.Den
