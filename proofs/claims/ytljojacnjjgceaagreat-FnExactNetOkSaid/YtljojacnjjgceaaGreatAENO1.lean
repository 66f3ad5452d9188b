/- Part 1 of the texts behind the row. -/
import Derived.Test.YtljojacnjjgceaaGreatAENO0
import Derived.Laws.Append
import Derived.Laws.CopyRow
import Derived.Laws.MakeOwn
set_option linter.unusedVariables false
set_option linter.unusedSimpArgs false
namespace Go.Proofs.YtljojacnjjgceaaGreat.Den
open Go Go.RowKit
theorem Tm.get_cons (m:Nat) (v:SV) (r:Env) (n:Nat):Tm.get ((m,v) :: r) n = if m = n then v else Tm.get r n:=by
 simp only [Tm.get]
 by_cases h:m = n
 ·subst h; simp
 ·rw [if_neg h,show Nat.beq m n = false from by rw [← Bool.not_eq_true,Nat.beq_eq]; exact h]; rfl
theorem VRels.single {ρ:Map} {w:World} {s:SV} {u:Value} (h:VRel ρ w s u):VRels ρ w [s] [u]:=by
 simp only [VRels]; exact ⟨u,[],rfl,h,rfl⟩
theorem VRels.single' {ρ:Map} {w:World} {s:SV} {us:List Value} (h:VRels ρ w [s] us):∃ u,us = [u] ∧ VRel ρ w s u:=by
 simp only [VRels] at h
 obtain ⟨u,us',rfl,h1,rfl⟩:=h
 exact ⟨u,rfl,h1⟩
theorem VRels.split {ρ:Map} {w:World}:∀ {n:Nat} {cs:List SV} {vs:List Value},VRels ρ w cs vs → VRels ρ w (cs.take n) (vs.take n) ∧ VRels ρ w (cs.drop n) (vs.drop n)
 | 0,_,_,h => by simpa [VRels] using h
 | n + 1,[],vs,h => by simp only [VRels] at h; subst h; simp [VRels]
 | n + 1,c :: cs,vs,h => by
  simp only [VRels] at h
  obtain ⟨u,us,rfl,h1,h2⟩:=h
  have:=VRels.split (n:=n) h2
  simp only [List.take_succ_cons,List.drop_succ_cons,VRels]
  exact ⟨⟨u,_,rfl,h1,this.1⟩,this.2⟩
theorem enc_rel {ρ:Map} {w:World}:∀ {K:Kd} {x:K.T} {vs:List Value},CRel w (Free ρ w) K x vs → VRels ρ w (enc K x) vs
 | .int _,_,_,h => by simp only [CRel] at h; subst h; exact VRels.single (by simp [VRel])
 | .bool,_,_,h => by simp only [CRel] at h; subst h; exact VRels.single (by simp [VRel])
 | .unit,_,_,h => by simp only [CRel] at h; subst h; simp [enc,VRels]
 | .pair a b,x,_,h => by
  simp only [CRel] at h
  obtain ⟨c1,c2,rfl,h1,h2⟩:=h
  exact VRels.append (enc_rel h1) (enc_rel h2)
 | .list e,xs,_,h => by
  have h':=h
  simp only [CRel] at h'
  obtain ⟨a,c,rfl,_⟩:=h'
  exact VRels.single (by simpa [VRel] using h)
theorem zpB:∀ {K:Kd} (x:K.T),(enc K x).length = K.sz
 | .int _,_ => rfl
 | .bool,_ => rfl
 | .unit,_ => rfl
 | .pair a b,x => by simp [enc,Kd.sz,zpB x.1,zpB x.2]
 | .list e,_ => rfl
theorem zmc {w:World} {B:Nat → Prop}:∀ {K:Kd} {x:K.T} {vs:List Value},CRel w B K x vs → ∀ u ∈ vs,u.oneCell' = true
 | .int _,_,_,h => by simp only [CRel] at h; subst h; simp [Value.oneCell']
 | .bool,_,_,h => by simp only [CRel] at h; subst h; simp [Value.oneCell']
 | .unit,_,_,h => by simp only [CRel] at h; subst h; simp
 | .pair a b,x,_,h => by
  simp only [CRel] at h
  obtain ⟨c1,c2,rfl,h1,h2⟩:=h
  intro u hu
  rcases List.mem_append.1 hu with h3 | h3
  ·exact zmc h1 u h3
  ·exact zmc h2 u h3
 | .list e,xs,_,h => by
  simp only [CRel] at h
  obtain ⟨a,c,rfl,_⟩:=h
  simp [Value.oneCell']
theorem zvr {ρ:Map} {w:World}:∀ {s:SV} {u:Value},VRel ρ w s u → s.oneB = true → u.oneCell' = true
 | s,u,h,h1 => by
  cases s <;> simp only [SV.oneB,Bool.false_eq_true] at h1 <;> simp only [VRel] at h
  case int => subst h; rfl
  case bool => subst h; rfl
  case nilp => subst h; rfl
  case ptr b o => rcases hr:ρ b with _ | _ | _ | ⟨_,_,_,_⟩ <;> rw [hr] at h <;> simp only at h <;> first | (obtain ⟨_,rfl⟩:=h; rfl) | (subst h; rfl)
  case aptr b i j => rcases hr:ρ b with _ | _ | _ | ⟨_,_,_,_⟩ <;> rw [hr] at h <;> simp only at h <;> first | (obtain ⟨_,rfl⟩:=h; rfl) | (subst h; rfl)
  case eptr => obtain ⟨_,_,rfl,_⟩:=h; rfl
  case nils => obtain ⟨_,rfl⟩:=h; rfl
  case own b => rcases hr:ρ b with _ | _ | _ | ⟨_,_,_,_⟩ <;> rw [hr] at h <;> simp only at h <;> first | (obtain ⟨_,rfl⟩:=h; rfl) | (obtain ⟨_,_,_,rfl⟩:=h; rfl) | (obtain ⟨_,_,rfl,_⟩:=h; rfl)
  case sub b o l => rcases hr:ρ b with _ | _ | _ | ⟨_,_,_,_⟩ <;> rw [hr] at h <;> simp only at h <;> first | (obtain ⟨_,_,rfl⟩:=h; rfl) | (obtain ⟨_,_,_,rfl⟩:=h; rfl) | (obtain ⟨_,_,_,rfl,_⟩:=h; rfl)
  case es => simp only [CRel] at h; obtain ⟨_,_,e,_⟩:=h; simp at e; subst e; rfl
  case fn => obtain ⟨_,_,rfl,_⟩:=h; rfl
  case nilf => subst h; rfl
  case iface => obtain ⟨_,rfl,_⟩:=h; rfl
  case nili => subst h; rfl
  case mapp b => rcases hr:ρ b with _ | _ | _ | ⟨_,_,_,_⟩ <;> rw [hr] at h <;> simp only at h <;> first | (obtain ⟨_,rfl⟩:=h; rfl) | (subst h; rfl)
  case nilm => subst h; rfl
theorem zpC {cs vs:List SV} {off:Nat} (h:off + vs.length ≤ cs.length):(setCells cs off vs).length = cs.length:=by
 simp [setCells]; omega
theorem zGj {cs vs:List SV} {off:Nat} (h:off + vs.length ≤ cs.length) (j:Nat) :
  (setCells cs off vs)[j]? = if off ≤ j ∧ j < off + vs.length then vs[j - off]? else cs[j]?:=by
 unfold setCells
 rw [List.getElem?_append,List.length_take,Nat.min_eq_left (by omega)]
 by_cases h1:j < off
 ·rw [if_pos h1,if_neg (by omega),List.getElem?_take,if_pos h1]
 ·rw [if_neg h1,List.getElem?_append]
  by_cases h2:j - off < vs.length
  ·rw [if_pos h2,if_pos (by omega)]
  ·rw [if_neg h2,if_neg (by omega),List.getElem?_drop]
   congr 1; omega
theorem zGk {w:World} {B:Nat → Prop} {e e':Kd} (h:e' = e) {xs:List e'.T} {vs:List Value} (hc:CRel w B (.list e') xs vs):CRel w B (.list e) (h ▸ xs) vs:=by
 subst h; exact hc
theorem zmd:∀ (a b:List SV),SV.refsL (a ++ b) = SV.refsL a ++ SV.refsL b
 | [],b => by simp [SV.refsL]
 | c :: a,b => by simp [SV.refsL,zmd a b]
theorem zeB {ρ:Map} {w:World} {B:Nat → Prop} {K:Kd} {f:List SV → Option K.T} (hf:∀ cs x vs,f cs = some x → VRels ρ w cs vs → CRel w B K x vs) (sz:Nat) :
  ∀ (n:Nat) (cs:List SV) (xs:List K.T) (vs:List Value),decRows f sz n cs = some xs → VRels ρ w cs vs →
   xs.length = n ∧ ∀ (i:Nat) (x:K.T),xs[i]? = some x → CRel w B K x ((vs.drop (i * sz)).take sz)
 | 0,cs,xs,vs,h,hv => by
  cases cs <;> simp [decRows] at h
  subst h; simp
 | n + 1,cs,xs,vs,h,hv => by
  simp only [decRows] at h
  split at h
  ·rename_i x r h1 h2
   simp at h; subst h
   have hs:=hv.split (n:=sz)
   have ih:=zeB hf sz n _ _ _ h2 hs.2
   refine ⟨by simp [ih.1],fun i y hy => ?_⟩
   cases i with
   | zero => simp at hy; subst hy; simpa using hf _ _ _ h1 hs.1
   | succ i =>
    simp at hy
    have:=ih.2 i y hy
    rw [List.drop_drop] at this
    rw [Nat.add_mul,Nat.one_mul,Nat.add_comm]; exact this
  ·simp at h
theorem zn {w:World} {b:Nat} {C:Array Value} {t:TypeId} {fr:Nat × Nat} (h:w.heap[b]? = some (.cells C t fr)) (o:Nat):w.cell? ⟨b,o,none⟩ = C[o]?:=by
 simp [World.cell?,h]
theorem zd (b o k:Nat):(⟨b,o,none⟩:Addr).add k = ⟨b,o + k,none⟩:=by
 unfold Addr.add; split <;> simp_all
theorem zB {ρ:Map} {w:World} {dp:Bool}:∀ {K:Kd} {cs:List SV} {x:K.T} {vs:List Value},decH dp [] K cs = some x → VRels ρ w cs vs → CRel w (Free ρ w) K x vs
 | .int k,cs,x,vs,h,hv => by
  unfold decH at h
  split at h
  ·split at h
   ·rename_i n hk; subst hk; simp at h; subst h
    obtain ⟨u,rfl,hu⟩:=hv.single'
    simp [VRel] at hu; subst hu; rfl
   ·simp at h
  ·simp at h
 | .bool,cs,x,vs,h,hv => by
  unfold decH at h
  split at h
  ·simp at h; subst h
   obtain ⟨u,rfl,hu⟩:=hv.single'
   simp [VRel] at hu; subst hu; rfl
  ·simp at h
 | .unit,cs,x,vs,h,hv => by
  unfold decH at h
  split at h
  ·simp only [VRels] at hv; subst hv; rfl
  ·simp at h
 | .pair a b,cs,x,vs,h,hv => by
  unfold decH at h
  split at h
  ·rename_i y z h1 h2
   simp at h; subst h
   have hs:=hv.split (n:=a.sz)
   exact ⟨_,_,(List.take_append_drop a.sz vs).symm,zB h1 hs.1,zB h2 hs.2⟩
  ·simp at h
 | .list e,cs,x,vs,h,hv => by
  unfold decH at h
  split at h
  ·split at h
   ·rename_i e' xs he
    simp at h; subst h
    obtain ⟨u,rfl,hu⟩:=hv.single'
    exact zGk he (by simpa [VRel] using hu)
   ·simp at h
  ·simp at h; subst h
   obtain ⟨u,rfl,hu⟩:=hv.single'
   simp only [VRel] at hu
   obtain ⟨a,rfl⟩:=hu
   exact ⟨a,0,rfl,Nat.le_refl _,fun h => absurd h (by simp)⟩
  ·simp at h
  ·simp at h
  ·simp at h
theorem TreeC.crel {w:World} {B B':Nat → Prop} (hB:∀ b,B b → B' b):∀ {K:Kd} {d:Nat} {x:K.T} {cs:List Value} {tk:List Nat},TreeC w B K d x cs tk → (∀ b ∈ tk,B' b) → CRel w B' K x cs
 | .int k,_,_,_,_,h,_ => h.1
 | .bool,_,_,_,_,h,_ => h.1
 | .unit,_,_,_,_,h,_ => h.1
 | .pair a b,d,x,cs,tk,h,hb => by
  simp only [TreeC] at h
  obtain ⟨c1,c2,t1,t2,rfl,rfl,h3,h4⟩:=h
  exact ⟨c1,c2,rfl,h3.crel hB fun b hb' => hb b (List.mem_append.2 (.inl hb')),h4.crel hB fun b hb' => hb b (List.mem_append.2 (.inr hb'))⟩
 | .list e,0,xs,cs,tk,h,hb => by
  simp only [TreeC] at h
  exact CRel.mono hB (fun _ _ => rfl) h.1
 | .list e,d + 1,xs,cs,tk,h,hb => by
  simp only [TreeC] at h
  rcases h with ⟨a,rfl,rfl,rfl⟩ | ⟨b,o,c,C,tC,us,t',rfl,rfl,h2,h3,h4,h5,h6,h7⟩
  ·exact ⟨a,0,rfl,Nat.le_refl _,fun h => absurd h (by simp)⟩
  ·refine ⟨_,c,rfl,h2,fun _ => ⟨⟨b,o,none⟩,rfl,hb b (by simp),fun i y hy => ?_⟩⟩
   obtain ⟨es,t,h8,h9,h10⟩:=h7.get (fun _ _ _ h => h.length) i y hy
   refine ⟨es,h8.crel hB fun b' hb' => hb b' (by simp [h9 b' hb']),fun j u hu => ?_⟩
   rw [zd,zn h3]
   exact h6 _ _ (h10 j u hu)
theorem zax {ρ:Map} {H:Heap} {w:World} {dp:Bool} {B:Nat → Prop} (hH:HRel ρ H w) (hF:∀ b,Free ρ w b → B b) (hV:dp = true → ∀ b t,ρ.vl b = some t → B b) :
  ∀ {K:Kd} {cs:List SV} {x:K.T} {vs:List Value},(∀ γ b o n sz,(dp = true ∨ γ ∈ SV.refsL cs) → ρ γ = .at b o n sz → B b) →
   decH dp H K cs = some x → VRels ρ w cs vs → CRel w B K x vs
 | .int k,cs,x,vs,_,h,hv => by
  have:decH dp [] (.int k) cs = some x:=by unfold decH at h ⊢; exact h
  exact CRel.mono hF (fun _ _ => rfl) (zB this hv)
 | .bool,cs,x,vs,_,h,hv => by
  have:decH dp [] .bool cs = some x:=by unfold decH at h ⊢; exact h
  exact CRel.mono hF (fun _ _ => rfl) (zB this hv)
 | .unit,cs,x,vs,_,h,hv => by
  have:decH dp [] .unit cs = some x:=by unfold decH at h ⊢; exact h
  exact CRel.mono hF (fun _ _ => rfl) (zB this hv)
 | .pair a b,cs,x,vs,hR,h,hv => by
  unfold decH at h
  split at h
  ·rename_i y z h1 h2
   simp at h; subst h
   have hs:=hv.split (n:=a.sz)
   have hr:SV.refsL cs = SV.refsL (cs.take a.sz) ++ SV.refsL (cs.drop a.sz):=by
    rw [← zmd,List.take_append_drop]
   refine ⟨_,_,(List.take_append_drop a.sz vs).symm,zax hH hF hV (fun γ b o n sz hd => hR γ b o n sz (hd.imp id fun hm => ?_)) h1 hs.1,zax hH hF hV (fun γ b o n sz hd => hR γ b o n sz (hd.imp id fun hm => ?_)) h2 hs.2⟩
   ·rw [hr]; exact List.mem_append.2 (.inl hm)
   ·rw [hr]; exact List.mem_append.2 (.inr hm)
  ·simp at h
 | .list e,cs,x,vs,hR,h,hv => by
  unfold decH at h
  split at h
  ·rename_i e' xs
   have:decH dp [] (.list e) [.es e' xs] = some x:=by unfold decH; exact h
   exact CRel.mono hF (fun _ _ => rfl) (zB this hv)
  ·have:decH dp [] (.list e) [.nils] = some x:=by unfold decH; exact h
   exact CRel.mono hF (fun _ _ => rfl) (zB this hv)
  ·rename_i β
   obtain ⟨u,rfl,hu⟩:=hv.single'
   simp only [VRel] at hu
   split at h
   ·rename_i e' xs t hb
    split at h
    ·rename_i he
     subst he
     simp at h; subst h
     have hlt:β < H.length:=(List.getElem?_eq_some_iff.1 hb).1
     rcases hr:ρ β with _ | _ | _ | ⟨b,o,n,sz⟩ <;> rw [hr] at hu <;> simp only at hu
     ·have:=hH.dead β hlt hr; rw [hb] at this; simp at this
     ·obtain ⟨a,rfl⟩:=hu
      rcases hH.none_ β hlt hr with ⟨K',t',h1⟩ | ⟨t',z',h1⟩ | ⟨d',e',h1⟩
      ·rw [hb] at h1
       injection h1 with h1
       injection h1 with h2 h3 h4
       subst h2
       obtain rfl:=eq_of_heq h3
       exact ⟨a,0,rfl,Nat.le_refl _,fun h => absurd h (by simp)⟩
      ·rw [hb] at h1; simp at h1
      ·rw [hb] at h1; simp at h1
     ·obtain ⟨c,hc,rfl,hroom⟩:=hu
      obtain ⟨x,h1,h2⟩:=hH.at_ β hlt _ _ _ _ hr
      rw [hb] at h1; simp at h1; subst h1
      simp only [BRel] at h2
      obtain ⟨rfl,rfl,C,tC,hC,hsz,hrow⟩:=h2
      refine ⟨some ⟨b,o,none⟩,c,rfl,hc,fun _ => ⟨⟨b,o,none⟩,rfl,hR β b o _ _ (.inr (by simp [SV.refsL,SV.refs])) hr,fun i y hy => ?_⟩⟩
      obtain ⟨es,h3,h4⟩:=hrow i y hy
      refine ⟨es,CRel.mono hF (fun _ _ => rfl) h3,fun j u hu => ?_⟩
      rw [zd,zn hC,← Nat.add_assoc]
      exact h4 j u hu
    ·simp at h
   ·rename_i ds t z hb
    split at h
    ·rename_i hz
     have hlt:β < H.length:=(List.getElem?_eq_some_iff.1 hb).1
     rcases hr:ρ β with _ | _ | _ | ⟨b,o,n,sz⟩ <;> rw [hr] at hu <;> simp only at hu
     ·have:=hH.dead β hlt hr; rw [hb] at this; simp at this
     ·obtain ⟨a,rfl⟩:=hu
      rcases hH.none_ β hlt hr with ⟨K',t',h1⟩ | ⟨t',z',h1⟩ | ⟨d',e',h1⟩ <;> rw [hb] at h1 <;> simp at h1
      obtain ⟨rfl,_⟩:=h1
      simp [decRows] at h; subst h
      exact ⟨a,0,rfl,Nat.le_refl _,fun h => absurd h (by simp)⟩
     ·obtain ⟨c,hc,rfl,hroom⟩:=hu
      obtain ⟨y,h1,h2⟩:=hH.at_ β hlt _ _ _ _ hr
      rw [hb] at h1; simp at h1; subst h1
      simp only [BRel] at h2
      obtain ⟨rfl,hlen,C,tC,hC,hsz,hcell⟩:=h2
      obtain ⟨rfl,hz0⟩:=hz
      have hvs:VRels ρ w ds ((C.toList.drop o).take ds.length):=by
       refine VRels.of (by simp; omega) fun i s u h1 h2 => ?_
       obtain ⟨u',h3,h4⟩:=hcell i s h1
       have hi:i < ds.length:=(List.getElem?_eq_some_iff.1 h1).1
       rw [List.getElem?_take,if_pos hi,List.getElem?_drop] at h2
       rw [← Array.getElem?_toList,h2] at h3
       cases h3; exact h4
      have hf:∀ cs x vs,decH dp (cond dp H []) e cs = some x → VRels ρ w cs vs → CRel w B e x vs:=by
       intro cs x vs h5 h6
       cases dp with
       | true => exact zax hH hF hV (fun γ b o n sz _ hg => hR γ b o n sz (.inl rfl) hg) h5 h6
       | false => exact CRel.mono hF (fun _ _ => rfl) (zB h5 h6)
      have hrows:=zeB hf e.sz _ _ _ _ h hvs
      have hpos:0 < e.sz:=by omega
      have hn:ds.length / e.sz = n:=by rw [hlen]; exact Nat.mul_div_cancel _ hpos
      rw [hn] at hrows
      refine ⟨some ⟨b,o,none⟩,c,by rw [hrows.1],by rw [hrows.1]; exact hc,fun _ => ⟨⟨b,o,none⟩,rfl,hR β b o _ _ (.inr (by simp [SV.refsL,SV.refs])) hr,fun i y hy => ?_⟩⟩
      have hi:i < n:=by rw [← hrows.1]; exact (List.getElem?_eq_some_iff.1 hy).1
      refine ⟨_,hrows.2 i y hy,fun j u hu => ?_⟩
      have hbnd:(i + 1) * e.sz ≤ n * e.sz:=Nat.mul_le_mul_right _ hi
      rw [Nat.add_mul,Nat.one_mul] at hbnd
      rw [List.getElem?_take] at hu
      split at hu
      ·rename_i hj
       rw [List.getElem?_drop,List.getElem?_take,if_pos (by omega),List.getElem?_drop,Array.getElem?_toList] at hu
       rw [zd,zn hC]
       exact hu
      ·simp at hu
    ·simp at h
   ·rename_i d e' xss ex hb
    split at h
    ·rename_i he
     subst he
     split at h
     ·rename_i hdp
      subst hdp
      have hlt:β < H.length:=(List.getElem?_eq_some_iff.1 hb).1
      rcases hr:ρ β with _ | _ | _ | ⟨b,o,n,sz⟩ <;> rw [hr] at hu <;> simp only at hu
      ·have:=hH.dead β hlt hr; rw [hb] at this; simp at this
      ·obtain ⟨a,rfl⟩:=hu
       rcases hH.none_ β hlt hr with ⟨K',t',h1⟩ | ⟨t',z',h1⟩ | ⟨d2,e2,h1⟩
       ·rw [hb] at h1; simp at h1
       ·rw [hb] at h1; simp at h1
       ·rw [hb] at h1
        injection h1 with h1
        injection h1 with h0 h2 h3 h4
        subst h2
        obtain rfl:=eq_of_heq h3
        subst h4
        simp at h; subst h
        exact ⟨a,0,rfl,Nat.le_refl _,fun h => absurd h (by simp)⟩
      ·obtain ⟨c,hc,rfl,hroom⟩:=hu
       obtain ⟨y,h1,h2⟩:=hH.at_ β hlt _ _ _ _ hr
       rw [hb] at h1; simp at h1; subst h1
       simp only [BRel] at h2
       obtain ⟨rfl,rfl,C,tC,us,tk,hC,hsz,hul,hus,hown,hnd,hvl,hex⟩:=h2
       have hpiece:∀ (i:Nat) (z:e'.T),x[i]? = some z → ∃ es,CRel w B e' z es ∧ ∀ (j:Nat) (v:Value),es[j]? = some v → us[i * e'.sz + j]? = some v:=by
        split at h
        ·simp only [Option.some.injEq] at h
         subst h
         intro i z hz
         obtain ⟨es,t,h3,h4,h5⟩:=(SeqL.toX.2 hown).get (fun _ _ _ h => h.length) i z hz
         exact ⟨es,h3.crel hF fun b' hb' => hV rfl b' b (hvl b' (h4 b' hb')),h5⟩
        ·rename_i i0 ds
         split at h
         ·rename_i y hy
          simp only [Option.some.injEq] at h
          subst h
          obtain ⟨hi0,hdl⟩:=hex _ rfl
          intro j z hz
          have hj:j < xss.length:=by have:=(List.getElem?_eq_some_iff.1 hz).1; simpa using this
          obtain ⟨c0,h3,h4⟩:=hown.get (sz:=e'.sz) (fun c hc => by rw [← (hc _ rfl).length]; exact hdl) (fun _ _ _ h => h.length) j _ (List.getElem?_eq_getElem hj)
          rcases h4 with ⟨h4,h5⟩ | ⟨h4,t,h5,h6⟩
          ·simp only [Option.map_some,Option.some.injEq] at h4
           subst h4
           rw [List.getElem?_set_self hj] at hz
           cases hz
           exact ⟨c0,zax hH hF hV (fun γ b o n sz _ hg => hR γ b o n sz (.inl rfl) hg) hy (h5 _ rfl),h3⟩
          ·rw [List.getElem?_set_ne (fun e => h4 (by simp [e])),List.getElem?_eq_getElem hj] at hz
           cases hz
           exact ⟨c0,h5.crel hF fun b' hb' => hV rfl b' b (hvl b' (h6 b' hb')),h3⟩
         ·simp at h
       have hl:x.length = xss.length:=by
        split at h
        ·simp only [Option.some.injEq] at h; rw [← h]
        ·split at h
         ·simp only [Option.some.injEq] at h; rw [← h]; simp
         ·simp at h
       refine ⟨some ⟨b,o,none⟩,c,by rw [hl],by rw [hl]; exact hc,fun _ => ⟨⟨b,o,none⟩,rfl,hR β b o _ _ (.inr (by simp [SV.refsL,SV.refs])) hr,fun i y hy => ?_⟩⟩
       obtain ⟨es,h3,h5⟩:=hpiece i y hy
       refine ⟨es,h3,fun j v hv => ?_⟩
       rw [zd,zn hC]
       exact hus _ _ (h5 j v hv)
     ·simp at h
    ·simp at h
   ·simp at h
  ·rename_i β off len
   obtain ⟨u,rfl,hu⟩:=hv.single'
   simp only [VRel] at hu
   split at h
   ·rename_i e' xs t hb
    split at h
    ·rename_i he
     subst he
     simp at h; subst h
     have hlt:β < H.length:=(List.getElem?_eq_some_iff.1 hb).1
     rcases hr:ρ β with _ | _ | _ | ⟨b,o,n,sz⟩ <;> rw [hr] at hu <;> simp only at hu
     ·have:=hH.dead β hlt hr; rw [hb] at this; simp at this
     ·obtain ⟨rfl,a,rfl⟩:=hu
      exact ⟨a,0,by simp,by simp,fun h => absurd h (by simp)⟩
     ·obtain ⟨hn,a,c,rfl,hc,ha⟩:=hu
      obtain ⟨x,h1,h2⟩:=hH.at_ β hlt _ _ _ _ hr
      rw [hb] at h1; simp at h1; subst h1
      simp only [BRel] at h2
      obtain ⟨rfl,rfl,C,tC,hC,hsz,hrow⟩:=h2
      have hl:((xs.drop off).take len).length = len:=by simp; omega
      refine ⟨a,c,by rw [hl],by rw [hl]; exact hc,fun h0 => ?_⟩
      rcases ha with ⟨h3,_⟩ | ⟨rfl,_⟩
      ·rw [hl] at h0; omega
      ·refine ⟨⟨b,o + off * e'.sz,none⟩,rfl,hR β b o _ _ (.inr (by simp [SV.refsL,SV.refs])) hr,fun i y hy => ?_⟩
       rw [List.getElem?_take] at hy
       split at hy
       ·rw [List.getElem?_drop] at hy
        obtain ⟨es,h3,h4⟩:=hrow _ y hy
        refine ⟨es,CRel.mono hF (fun _ _ => rfl) h3,fun j u hu => ?_⟩
        rw [zd,zn hC]
        have:=h4 j u hu
        rw [← this]; congr 1; rw [Nat.add_mul]; omega
       ·simp at hy
    ·simp at h
   ·rename_i ds t z hb
    split at h
    ·rename_i hz
     obtain ⟨hdp,hze,hz0,hlen0⟩:=hz
     subst hdp
     have hlt:β < H.length:=(List.getElem?_eq_some_iff.1 hb).1
     rcases hr:ρ β with _ | _ | _ | ⟨b,o,n,sz⟩ <;> rw [hr] at hu <;> simp only at hu
     ·have:=hH.dead β hlt hr; rw [hb] at this; simp at this
     ·exact absurd hu.1 hlen0
     ·obtain ⟨hn,a,c,rfl,hc,ha⟩:=hu
      obtain ⟨y,h1,h2⟩:=hH.at_ β hlt _ _ _ _ hr
      rw [hb] at h1; simp at h1; subst h1
      simp only [BRel] at h2
      obtain ⟨rfl,hlen,C,tC,hC,hsz,hcell⟩:=h2
      subst hze
      have hmul:(off + len) * e.sz ≤ n * e.sz:=Nat.mul_le_mul_right _ hn
      rw [Nat.add_mul] at hmul
      have hvs:VRels ρ w ((ds.drop (off * e.sz)).take (len * e.sz)) ((C.toList.drop (o + off * e.sz)).take (len * e.sz)):=by
       refine VRels.of (by simp; omega) fun i s u h1 h2 => ?_
       rw [List.getElem?_take] at h1 h2
       split at h1
       ·rename_i hi
        rw [if_pos hi,List.getElem?_drop,Array.getElem?_toList] at h2
        rw [List.getElem?_drop] at h1
        obtain ⟨u',h3,h4⟩:=hcell _ s h1
        rw [← Nat.add_assoc,h2] at h3
        cases h3; exact h4
       ·simp at h1
      have hf:∀ cs x vs,decH true (cond true H []) e cs = some x → VRels ρ w cs vs → CRel w B e x vs:=fun cs x vs h5 h6 => zax hH hF hV (fun γ b o n sz _ hg => hR γ b o n sz (.inl rfl) hg) h5 h6
      have hrows:=zeB hf e.sz _ _ _ _ h hvs
      refine ⟨a,c,by rw [hrows.1],by rw [hrows.1]; exact hc,fun _ => ?_⟩
      rcases ha with ⟨h3,_⟩ | ⟨rfl,_⟩
      ·exact absurd h3 hlen0
      ·refine ⟨⟨b,o + off * e.sz,none⟩,rfl,hR β b o _ _ (.inl rfl) hr,fun i y hy => ?_⟩
       have hi:i < len:=by rw [← hrows.1]; exact (List.getElem?_eq_some_iff.1 hy).1
       refine ⟨_,hrows.2 i y hy,fun j u hu => ?_⟩
       have hbnd:(i + 1) * e.sz ≤ len * e.sz:=Nat.mul_le_mul_right _ hi
       rw [Nat.add_mul,Nat.one_mul] at hbnd
       rw [List.getElem?_take] at hu
       split at hu
       ·rename_i hj
        rw [List.getElem?_drop,List.getElem?_take,if_pos (by omega),List.getElem?_drop,Array.getElem?_toList] at hu
        rw [zd,zn hC]
        exact hu
       ·simp at hu
    ·simp at h
   ·simp at h
  ·simp at h
end Go.Proofs.YtljojacnjjgceaaGreat.Den
namespace Go.Proofs.YtljojacnjjgceaaGreat.Den
open Go Go.RowKit
def kdOf (P:Program):Nat → TypeId → Option Kd
 | 0,_ => none
 | n + 1,t => match P.underlying t with
  | some (.int k) => some (.int k)
  | some .bool => some .bool
  | some (.slice e) => (kdOf P n e).map .list
  | some (.struct fs) => fs.toList.foldr (fun f r => match kdOf P n f.type,r with
   | some a,some b => some (.pair a b)
   | _,_ => none) (some .unit)
  | _ => none
mutual
def svOf:Nat → Value → Option SV
 | 0,_ => none
 | d + 1,v => match v with
  | .int k n => some (.int k n)
  | .bool b => some (.bool b)
  | .pointer none => some .nilp
  | .slice none 0 0 => some .nils
  | .map none => some .nilm
  | .nilFunc => some .nilf
  | .nilIface => some .nili
  | .agg cs => match svsOf d cs.toList with
   | some l => some (.agg l)
   | none => none
  | _ => none
def svsOf:Nat → List Value → Option (List SV)
 | 0,_ => none
 | d + 1,vs => match vs with
  | [] => some []
  | v :: r => match svOf d v,svsOf d r with
   | some x,some y => some (x :: y)
   | _,_ => none
end
def opL:Operand → Option S
 | .tmp t => some (.t t)
 | .const v => (svOf 1000 v).map .c
 | .func f => some (.c (.fn (.func f) [] []))
 | .global _ => none
def opsL:List Operand → Option (List S)
 | [] => some []
 | x :: r => match opL x,opsL r with
  | some a,some b => some (a :: b)
  | _,_ => none
def tinfo (P:Program) (t:TypeId):Option (Nat × List SV × Nat) :=
 match P.info? t with
 | some i => match i.zero with
  | some z => match svsOf 1000 z.cells.toList with
   | some zs => if zs.length = i.size then some (i.size,zs,i.bytes) else none
   | none => none
  | none => none
 | none => none
def isAggL (P:Program) (t:TypeId):Option Bool :=
 match P.underlying t with
 | some (.struct _) | some (.array _ _) => some true
 | some _ => some false
 | none => none
def partsL (P:Program) (place:Nat → Option (Nat × Nat)):List (Nat × Operand) → Option (List (Nat × Nat × S))
 | [] => some []
 | (i,x) :: r => match place i,opL x,partsL P place r with
  | some (o,n),some a,some b => some ((o,n,a) :: b)
  | _,_,_ => none
def placeL (P:Program) (fs:Array Field) (i:Nat):Option (Nat × Nat) :=
 match fs[i]? with
 | some f => match P.info? f.type with
  | some j => some (f.offset,j.size)
  | none => none
 | none => none
def isZero:Kd → List SV → Bool
 | .int k,cs => match cs with
  | [.int k' 0] => k == k'
  | _ => false
 | .bool,cs => match cs with
  | [.bool false] => true
  | _ => false
 | .unit,cs => match cs with
  | [] => true
  | _ => false
 | .pair a b,cs => isZero a (cs.take a.sz) && isZero b (cs.drop a.sz)
 | .list _,cs => match cs with
  | [.nils] => true
  | _ => false
def eqPlain (P:Program) (t:TypeId):Option Nat :=
 match P.underlying t with
 | some (.struct fs) =>
  if P.stoodInHeld t = false ∧ P.eqGuardType P.depth t = false ∧ (fs.toList.all fun f => f.name != "_" && (match P.underlying f.type with | some (.int _) => true | _ => false)) = true ∧
   (fs.toList.zipIdx.all fun (f,j) => f.offset == j) = true then some fs.size else none
 | _ => none
def mapZero (P:Program) (t:TypeId):Option SV :=
 match P.underlying t with
 | some (.map _ v) => match P.info? v with
  | some i => match i.zero with
   | some z => svOf 1000 z
   | none => none
  | none => none
 | _ => none
def mapPlain (P:Program) (t:TypeId):Bool :=
 match P.underlying t with
 | some (.map k v) => (match eqPlain P k with
   | some n => Nat.beq n 2
   | none => false) && ((match P.info? v with
   | some i => i.zero.isSome
   | none => false) && (match P.underlying k with
   | some (.struct fs) => (fs.toList.all fun f => (match P.info? f.type with | some i => Nat.beq i.size 1 | none => false))
   | _ => false))
 | _ => false
def S.isC:S → Bool
 | .c _ => true
 | _ => false
def bslS (K:Option Kd) (frz:Bool) (sz len:Nat) (zs:List SV) (t:TypeId) (ps:List (Nat × S)):I:=match frz with
 | true => match K with
  | some k => cond (ps.all fun p => p.2.isC) (.bse k sz len zs ps) (.bsl (some k) true sz len zs t ps)
  | none => .bsl none true sz len zs t ps
 | false => .bsl K false sz len zs t ps
def ldS (frz:Bool) (n:Nat) (ag:Bool) (a:S):I:=match frz with
 | true => match a with
  | .t s => .ldc n ag s
  | a => .ld n ag a
 | false => .ld n ag a
def iaS (frz:Bool) (n:Nat) (a i:S):I:=match frz with
 | true => match a with
  | .t s => .iac n s i
  | a => .ia n a i
 | false => .ia n a i
def lightOp (P:Program) (frz:Bool) (o:Oper):Option I :=
 match o.op with
 | .move x | .assign x => (opL x).map .mv
 | .pick c a b => match opL c,opL a,opL b with
  | some c,some a,some b => some (.pick c a b)
  | _,_,_ => none
 | .alloc e => match P.underlying e with
  | some (.array n el) => if 16 ≤ n ∨ kdOf P 9 el = some .bool then (match kdOf P 9 el,tinfo P e with
    | some K,some (sz,zs,_) => if sz = n ∧ (K = .int .i64 ∨ K = .bool) ∧ (zs.all (isZero K <| [·])) = true then some (.allocA K n e) else none
    | _,_ => none) else (match tinfo P e with
    | some (_,zs,_) => some (.alloc zs e)
    | none => none)
  | some _ => match tinfo P e with
   | some (_,zs,_) => some (.alloc zs e)
   | none => none
  | none => none
 | .box e x => (opL x).map (.box e)
 | .build t parts => match P.underlying t with
  | some (.struct fs) => match tinfo P t,partsL P (placeL P fs) parts.toList with
   | some (_,zs,_),some ps => if (fs.toList.all fun f => (P.info? f.type).isSome) = true then some (.build zs ps) else none
   | _,_ => none
  | some (.array _ el) => match tinfo P t,P.info? el with
   | some (_,zs,_),some j => (partsL P (fun i => some (i * j.size,j.size)) parts.toList).map (.build zs)
   | _,_ => none
  | _ => none
 | .buildSlice t len parts => match P.underlying t with
  | some (.slice e) => match tinfo P e,opsL (parts.toList.map (·.2)) with
   | some (sz,zs,_),some xs => if len * sz ≤ 16777216 ∧ sz ≠ 0 ∧ len < 65536 then some (bslS (kdOf P 9 e) frz sz len zs e ((parts.toList.map (·.1)).zip xs)) else none
   | _,_ => none
  | _ => none
 | .load t a => match P.info? t,isAggL P t,opL a with
  | some i,some ag,some a => if ag = false → i.size = 1 then some (ldS frz i.size ag a) else none
  | _,_,_ => none
 | .store t a v => match P.info? t,opL a,opL v with
  | some i,some a,some v => some (.st i.size a v)
  | _,_,_ => none
 | .nilCheck x => (opL x).map .nilck
 | .binOp op t x y _ => match P.underlying t,opL x,opL y with
  | some (.int _),some x,some y => some (.bin op x y)
  | some .bool,some x,some y => match op with
   | .eql => some (.beq false x y)
   | .neq => some (.beq true x y)
   | _ => none
  | some (.slice _),some x,some y => match y with
   | .c .nils => match op with
    | .eql => some (.nilt false x)
    | .neq => some (.nilt true x)
    | _ => none
   | _ => none
  | some (.struct _),some x,some y => match op,eqPlain P t with
   | .eql,some n => some (.eqs false n x y)
   | .neq,some n => some (.eqs true n x y)
   | _,_ => none
  | _,_,_ => none
 | .unOp op _ x => match op,opL x with
  | .not,some x => some (.not x)
  | .neg,some x => some (.neg x)
  | _,_ => none
 | .convert src dst x => match P.underlying src,P.underlying dst,opL x with
  | some (.int _),some (.int k),some x => some (.conv k x)
  | _,_,_ => none
 | .fieldAddr s x f => match P.underlying s,opL x with
  | some (.struct fs),some x => match fs[f]? with
   | some fd => match P.info? fd.type with
    | some i => if i.size ≠ 0 then some (.fa fd.offset x) else none
    | none => none
   | none => none
  | _,_ => none
 | .field s x f => match P.underlying s,opL x with
  | some (.struct fs),some x => match fs[f]? with
   | some fd => match P.info? fd.type,isAggL P fd.type with
    | some j,some ag => if ag = false → j.size = 1 then some (.fld fd.offset j.size ag x) else none
    | _,_ => none
   | none => none
  | _,_ => none
 | .indexAddr t x i => match P.underlying t,opL x,opL i with
  | some (.slice e),some x,some i => match P.info? e with
   | some j => some (iaS frz j.size x i)
   | none => none
  | some (.array n e),some x,some i => match P.info? e with
   | some j => some (.iar n j.size x i)
   | none => none
  | _,_,_ => none
 | .index t x i => match P.underlying t,opL i with
  | some (.array n e),some i => match P.info? e,isAggL P e,opL x with
   | some j,some ag,some x => if ag = false → j.size = 1 then some (.ixa n j.size ag x i) else none
   | _,_,_ => none
  | some .string,some i => match x with
   | .const (.string s) => some (.ixs (s.data.toList.map UInt8.toNat) i)
   | _ => none
  | _,_ => none
 | .slice t x lo hi mx => match P.underlying t,opL x with
  | some (.slice e),some x => match P.info? e with
   | none => none
   | some j => match lo,hi,mx with
   | none,none,none => some (.sl j.size x none none none)
   | some lo,none,none => (opL lo).map fun lo => .sl j.size x (some lo) none none
   | none,some hi,none => (opL hi).map fun hi => .sl j.size x none (some hi) none
   | some lo,some hi,none => match opL lo,opL hi with
    | some lo,some hi => some (.sl j.size x (some lo) (some hi) none)
    | _,_ => none
   | none,some hi,some mx => match opL hi,opL mx with
    | some hi,some mx => some (.sl j.size x none (some hi) (some mx))
    | _,_ => none
   | _,_,_ => none
  | _,_ => none
 | .extract t j => (opL t).map (.ext j)
 | .makeSlice t l c => match P.underlying t,opL l,opL c with
  | some (.slice e),some l',some c' => match tinfo P e with
   | some (sz,zs,by_) => if by_ ≤ 32768 ∧ sz ≠ 0 then
     (match cond frz none (kdOf P 9 e) with
     | some K => if K.sz = sz ∧ isZero K zs = true then some (.mk (some K) zs e l' (some c')) else none
     | none => some (.mk none zs e l' (some c'))) else none
   | none => none
  | _,_,_ => none
 | .makeInterface t x => match P.underlying t with
  | some (.interface _) => none
  | some _ => (opL x).map (.mkif t)
  | none => none
 | .typeAssert x _ t ok => match P.underlying t,opL x with
  | some (.interface _),_ => none
  | some _,some x => match P.info? t with
   | some i => match i.zero with
    | some z => (svOf 1000 z).map fun z => .tas t ok z x
    | none => none
   | none => none
  | _,_ => none
 | .makeMap t none => match mapPlain P t with
  | true => some .mkmap
  | false => none
 | .mapUpdate t x k v => match mapPlain P t,opL x,opL k,opL v with
  | true,some a,some b,some c => some (.mapset a b c)
  | _,_,_,_ => none
 | .lookup t x k true => match mapPlain P t,opL x,opL k with
  | true,some a,some b => some (.maplk a b)
  | _,_,_ => none
 | .lookup t x k false => match mapPlain P t,mapZero P t,opL x,opL k with
  | true,some z,some a,some b => some (.mapz z a b)
  | _,_,_,_ => none
 | .makeFunc fn first cap => match opsL first.toList,opsL cap.toList with
  | some a,some b => some (.mkfn fn a b)
  | _,_ => none
 | .call c => match opsL c.args.toList with
  | none => none
  | some as => match c.callee with
   | .builtin .len => match c.argTypes.toList,as with
    | [t],[x] => match P.underlying t with
     | some (.slice _) => some (.len x)
     | _ => none
    | _,_ => none
   | .builtin .append => match c.argTypes.toList,as with
    | [t,t'],[s,x] => match P.underlying t,t == t' with
     | some (.slice e),true => match tinfo P e with
      | some (sz,_,by_) => if by_ ≤ 32768 then some (cond frz (.app0 (kdOf P 9 e) sz e s x) (.app (kdOf P 9 e) sz e s x)) else none
      | none => none
     | some (.slice e),false => match P.underlying t',kdOf P 9 e,tinfo P e with
      | some (.int _),some K,some (sz,zs,by_) => if by_ ≤ 32768 ∧ K.sz = sz ∧ isZero K zs = true ∧ sz ≠ 0 then some (.appz K e s x) else none
      | _,_,_ => none
     | _,_ => none
    | _,_ => none
   | .builtin .cap => match c.argTypes.toList,as with
    | [t],[x] => match P.underlying t with
     | some (.slice _) => some (.cap0 x)
     | _ => none
    | _,_ => none
   | .builtin .min => match as with
    | [x,y] => some (.mn x y)
    | _ => none
   | .builtin .max => match as with
    | [x,y] => some (.mx x y)
    | _ => none
   | .value (.func f) => match P.funcs[f]? with
    | some fn => if fn.name ≠ "runtime.NumGoroutine" ∧ fn.body.isSome = true then some (cond frz (.callz f as) (.call f as)) else none
    | none => none
   | .value (.tmp t) => some (.callv (.t t) as)
   | .invoke (.tmp t) m => some (.inv (.t t) m as)
   | _ => none
 | _ => none
def lightX (P:Program) (d:Nat) (o:Oper):Option I :=
 match o.op with
 | .box t x => match kdOf P 12 t,opL x with
  | some K,some x => some (.boxe K x)
  | _,_ => none
 | .load t a => match P.info? t,isAggL P t,opL a with
  | some i,some ag,some a => if ag = false → i.size = 1 then some (.ldx i.size ag a) else none
  | _,_,_ => none
 | .buildSlice t len parts => match P.underlying t with
  | some (.slice e) => match tinfo P e,opsL (parts.toList.map (·.2)) with
   | some (sz,zs,_),some xs => if len * sz ≤ 16777216 ∧ sz ≠ 0 ∧ len < 65536 then some (.bsl none false sz len zs e ((parts.toList.map (·.1)).zip xs)) else none
   | _,_ => none
  | _ => none
 | .call c => match opsL c.args.toList with
  | none => none
  | some as => match c.callee with
   | .builtin .append => match c.argTypes.toList,as with
    | [t,t'],[s,x] => match P.underlying t,t == t' with
     | some (.slice e),true => match kdOf P 9 e,tinfo P e with
      | some K,some (sz,_,by_) => if by_ ≤ 32768 then some (.appt d K sz e s x) else none
      | _,_ => none
     | _,_ => none
    | _,_ => none
   | _ => none
 | _ => none
def modeOf (frz:List Nat) (d:Nat):Nat:=cond (frz.contains d) 1 (cond (frz.contains (d + 1000000)) 2 (cond (frz.contains (d + 2000000)) 3 (cond (frz.contains (d + 3000000)) 4 (cond (frz.contains (d + 4000000)) 5 0))))
def lightM (P:Program) (m:Nat) (o:Oper):Option I:=match m with
 | 0 => lightOp P false o
 | 1 => lightOp P true o
 | m + 2 => lightX P m o
def guardL (ops:Array Oper):Option (Nat × Bool) → Option (Option (Nat × Bool))
 | none => some none
 | some (j,want) => match (ops[j]?).bind (·.dst) with
  | some d => some (some (d,want))
  | none => none
def dstOK (N:Nat):Option Nat → Bool
 | some d => decide (d < N)
 | none => true
def lightOps (P:Program) (frz:List Nat) (N:Nat) (ops:Array Oper):List Oper → Option (List GI)
 | [] => some []
 | o :: r => match lightM P (match o.dst with | some d => modeOf frz d | none => 0) o,guardL ops o.guard,lightOps P frz N ops r with
  | some i,some g,some gs => if dstOK N o.dst = true then some ({ d:=o.dst,g,i } :: gs) else none
  | _,_,_ => none
def cutOf (id:Nat):List (Nat × Norm) → Option Norm
 | [] => none
 | (j,nm) :: r => cond (Nat.beq j id) (some nm) (cutOf id r)
def lightC (P:Program) (frz:List Nat) (N:Nat) (ann:List Norm) (cuts:List (Nat × Norm)):Nat → Code → Option (C × Nat)
 | i,.skip => some (.skip,i)
 | i,.region id ops draw => match lightOps P frz N ops ops.toList,cutOf (id + 2000000) cuts with
  | some gs,none => match cutOf id cuts with
   | none => match cutOf (id + 1000000) cuts with
    | none => some (.reg draw gs,i)
    | some nm => some (.seq (.cut nm) (.reg draw gs),i)
   | some nm => some (.seq (.reg draw gs) (.cut nm),i)
  | _,_ => some (.bad,i)
 | i,.seq a b => match lightC P frz N ann cuts i a with
  | some (x,j) => match lightC P frz N ann cuts j b with
   | some (y,k) => some (.seq x y,k)
   | none => none
  | none => none
 | i,.cond s a b => match opL s,lightC P frz N ann cuts i a with
  | some s,some (x,j) => match lightC P frz N ann cuts j b with
   | some (y,k) => some (.cnd s x y,k)
   | none => none
  | _,_ => none
 | i,.block id a => match lightC P frz N ann cuts i a with
  | some (x,j) => some (.blk id x,j)
  | none => none
 | i,.loop a => match ann[i]?,lightC P frz N ann cuts (i + 1) a with
  | some nm,some (x,j) => some (.loop nm x,j)
  | _,_ => none
 | i,.scope a => match lightC P frz N ann cuts i a with
  | some (x,j) => some (.seq .skip x,j)
  | none => none
 | i,.label _ => some (.skip,i)
 | i,.exit id => some (.exit id,i)
 | i,.ret => some (.ret,i)
 | i,_ => some (.bad,i)
end Go.Proofs.YtljojacnjjgceaaGreat.Den
namespace Go.Proofs.YtljojacnjjgceaaGreat.Den
open Go Go.RowKit
def Map.put (ρ:Map) (β:Nat) (m:Img):Map:=⟨fun γ => if γ = β then m else ρ γ,ρ.res0,ρ.vl⟩
theorem Map.put_same (ρ:Map) (β:Nat) (m:Img):(ρ.put β m) β = m:=by simp [Map.put]
theorem Map.put_other (ρ:Map) {β γ:Nat} (m:Img) (h:γ ≠ β):(ρ.put β m) γ = ρ γ:=by simp [Map.put,h]
def Img.born:Img → Bool
 | .unborn => false
 | _ => true
def Map.kill (ρ:Map) (rs:List Nat):Map:=⟨fun γ => if γ ∈ rs ∧ (ρ γ).born = true then .dead else ρ γ,ρ.res0,ρ.vl⟩
def Blk.empty (x:Blk):Prop:=(∃ K t,x = .arr K [] t) ∨ (∃ t z,x = .cells [] t z) ∨ ∃ d e,x = .tree d e [] none
theorem CRel.plain {w w':World} {B B':Nat → Prop}:∀ {K:Kd} {x:K.T} {us:List Value},K.noList = true → CRel w B K x us → CRel w' B' K x us
 | .int _,_,_,_,h => by simpa only [CRel] using h
 | .bool,_,_,_,h => by simpa only [CRel] using h
 | .unit,_,_,_,h => by simpa only [CRel] using h
 | .pair a b,x,us,hn,h => by
  simp only [Kd.noList,Bool.and_eq_true] at hn
  simp only [CRel] at h ⊢
  obtain ⟨c1,c2,e,h1,h2⟩:=h
  exact ⟨c1,c2,e,CRel.plain hn.1 h1,CRel.plain hn.2 h2⟩
 | .list _,_,_,hn,_ => by simp [Kd.noList] at hn
theorem RowRel.plain {w w':World} {B B':Nat → Prop} {K:Kd} {xs:List K.T} {C:Array Value} {o:Nat} (hn:K.noList = true) (h:RowRel w B K xs C o):RowRel w' B' K xs C o:=fun i x hx => by
 obtain ⟨es,h1,h2⟩:=h i x hx
 exact ⟨es,h1.plain hn,h2⟩
theorem OwnAt.keep {w w':World} {B B':Nat → Prop} {e:Kd} {xs:List e.T} {u:Value} {tk:List Nat} (hn:e.noList = true) (hk:∀ b ∈ tk,w'.heap[b]? = w.heap[b]?) (h:OwnAt w B e xs u tk):OwnAt w' B' e xs u tk:=by
 rcases h with h | ⟨b,o,c,C,tC,rfl,h1,h2,h3,h4,h5⟩
 ·exact .inl h
 ·exact .inr ⟨b,o,c,C,tC,rfl,h1,h2,by rw [hk b (by simp)]; exact h3,h4,h5.plain hn⟩
theorem OwnL.keep {w w':World} {B B':Nat → Prop} {e:Kd} (hn:e.noList = true):∀ {xss:List (List e.T)} {us:List Value} {tk:List Nat},(∀ b ∈ tk,w'.heap[b]? = w.heap[b]?) → OwnL w B e xss us tk → OwnL w' B' e xss us tk
 | [],_,_,_,h => h
 | x :: xs,us,tk,hk,h => by
  simp only [OwnL] at h ⊢
  obtain ⟨u,us',t1,t2,rfl,rfl,h1,h2⟩:=h
  exact ⟨u,us',t1,t2,rfl,rfl,h1.keep hn fun b hb => hk b (List.mem_append.2 (.inl hb)),OwnL.keep hn (fun b hb => hk b (List.mem_append.2 (.inr hb))) h2⟩
theorem BRel.keepF {ρ ρ':Map} {w w':World} (h:StepF ρ w ρ' w') {b o n sz:Nat} (hb:w'.heap[b]? = w.heap[b]?) (hv:∀ b',ρ.vl b' = some b → w'.heap[b']? = w.heap[b']? ∧ ρ'.vl b' = some b):∀ {x:Blk},BRel ρ w b o n sz x → BRel ρ' w' b o n sz x
 | .dead,hx => hx
 | .cells cs t z,hx => by
  simp only [BRel] at hx ⊢
  obtain ⟨h0,h1,C,tC,h2,h3,h4⟩:=hx
  refine ⟨h0,h1,C,tC,hb.trans h2,h3,fun j s hs => ?_⟩
  obtain ⟨u,h5,h6⟩:=h4 j s hs
  exact ⟨u,h5,h6.stepF h⟩
 | .arr K xs t,hx => by
  simp only [BRel] at hx ⊢
  obtain ⟨h0,h1,C,tC,h2,h3,h4⟩:=hx
  refine ⟨h0,h1,C,tC,hb.trans h2,h3,fun i x hx => ?_⟩
  obtain ⟨es,h5,h6⟩:=h4 i x hx
  exact ⟨es,h5.stepF h,h6⟩
 | .tree d e xs ex,hx => by
  simp only [BRel] at hx ⊢
  obtain ⟨h0,h1,C,tC,us,tk,h2,h3,h4,h5,h6,h7,h8,h9⟩:=hx
  exact ⟨h0,h1,C,tC,us,tk,hb.trans h2,h3,h4,h5,SeqX.mono (fun c hc p hp => (hc p hp).stepF h) (fun x _ c t ht h6 => h6.keep (fun K x cs hc => hc.stepF h) fun b' hb' => (hv b' (h8 b' (ht b' hb'))).1) h6,h7,fun b' hb' => (hv b' (h8 b' hb')).2,h9⟩
 | .mapi es,hx => by
  simp only [BRel] at hx ⊢
  obtain ⟨h0,h1,A,c,h2,h3⟩:=hx
  exact ⟨h0,h1,A,c,hb.trans h2,h3⟩
 | .mapo e f ex,hx => by
  simp only [BRel] at hx ⊢
  obtain ⟨h0,h1,A,c,es,tk,h2,h3,h4,h5,h6,h7,h8⟩:=hx
  refine ⟨h0,h1,A,c,es,tk,hb.trans h2,h3,h4,fun p q hp => ⟨(h5 p q hp).1,fun v hv a => ((h5 p q hp).2 v hv a).stepF h⟩,?_,h7,fun b' hb' => (hv b' (h8 b' hb')).2⟩
  exact h6.mono (fun u hu x hx => (hu x hx).stepF h) fun a b u t ht hp => hp.keep (fun K x cs hc => hc.stepF h) fun b' hb' => (hv b' (h8 b' (ht b' hb'))).1
theorem BRel.keep {ρ ρ':Map} {w w':World} (h:Step ρ w ρ' w') {b o n sz:Nat} (hb:w'.heap[b]? = w.heap[b]?) (hv:∀ b',ρ.vl b' = some b → w'.heap[b']? = w.heap[b']? ∧ ρ'.vl b' = some b) {x:Blk} (hx:BRel ρ w b o n sz x):BRel ρ' w' b o n sz x :=
 hx.keepF h.toF hb hv
theorem HRel.vlt {ρ:Map} {H:Heap} {w:World} (h:HRel ρ H w) {b t:Nat} (hv:ρ.vl b = some t):b < w.heap.size:=h.resl b (.inr (by rw [hv]; simp))
theorem Step.allocO {ρ:Map} {w:World} (β:Nat) (O:Obj) (n sz:Nat) (hu:ρ β = .unborn) :
  Step ρ w (ρ.put β (.at w.heap.size 0 n sz)) (w.alloc O) where
 os:=rfl
 tape:=rfl
 output:=rfl
 size:=by rw [World.size_alloc]; omega
 kept b hb _ _:=by
  simp only [World.alloc]
  rw [Array.getElem?_push,if_neg (by omega)]
 shape b C' t' fr hb:=by
  refine ⟨C',?_,rfl⟩
  have hlt:b < w.heap.size:=(Array.getElem?_eq_some_iff.1 hb).1
  simp only [World.alloc]
  rw [Array.getElem?_push,if_neg (by omega)]; exact hb
 img γ b o n' sz' hg:=by
  by_cases e:γ = β
  ·subst e; rw [Map.put_same] at hg; injection hg with h1; exact .inr (.inl (by omega))
  ·rw [Map.put_other _ _ e] at hg; exact .inl ⟨γ,o,n',sz',hg⟩
 ref γ hg:=by
  have e:γ ≠ β:=by rintro rfl; exact hg hu
  exact .inl (Map.put_other _ _ e)
 res:=rfl
 vl _ _ h:=ours_vl h
theorem Step.alloc {ρ:Map} {w:World} (β:Nat) (C:Array Value) (t:TypeId) (n sz:Nat) (hu:ρ β = .unborn) :
  Step ρ w (ρ.put β (.at w.heap.size 0 n sz)) (w.alloc (.cells C t (0,0))):=Step.allocO β _ n sz hu
theorem Step.ghost {ρ:Map} {w:World} (β:Nat) (m:Img) (hm:∀ b o n sz,m = .at b o n sz → ∃ γ o' n' sz',ρ γ = .at b o' n' sz') (hu:ρ β = .unborn):Step ρ w (ρ.put β m) w where
 os:=rfl
 tape:=rfl
 output:=rfl
 size:=Nat.le_refl _
 kept _ _ _ _:=rfl
 shape _ C _ _ h:=⟨C,h,rfl⟩
 img γ b o n sz hg:=by
  by_cases e:γ = β
  ·subst e; rw [Map.put_same] at hg; exact .inl (hm _ _ _ _ hg)
  ·rw [Map.put_other _ _ e] at hg; exact .inl ⟨γ,o,n,sz,hg⟩
 ref γ hg:=.inl (Map.put_other _ _ (by rintro rfl; exact hg hu))
 res:=rfl
 vl _ _ h:=ours_vl h
theorem Step.kill {ρ:Map} {w:World} (rs:List Nat):Step ρ w (ρ.kill rs) w where
 os:=rfl
 tape:=rfl
 output:=rfl
 size:=Nat.le_refl _
 kept _ _ _ _:=rfl
 shape _ C _ _ h:=⟨C,h,rfl⟩
 img γ b o n sz hg:=by
  simp only [Map.kill] at hg
  split at hg
  ·simp at hg
  ·exact .inl ⟨γ,o,n,sz,hg⟩
 ref γ hg:=by
  simp only [Map.kill]
  split
  ·exact .inr rfl
  ·exact .inl rfl
 res:=rfl
 vl _ _ h:=ours_vl h
theorem Step.drew {ρ:Map} {w:World}:Step ρ w ρ w.drew where
 os:=rfl
 tape:=rfl
 output:=rfl
 size:=Nat.le_refl _
 kept _ _ _ _:=rfl
 shape _ C _ _ h:=⟨C,h,rfl⟩
 img γ b o n sz hg:=.inl ⟨γ,o,n,sz,hg⟩
 ref γ hg:=.inl rfl
 res:=rfl
 vl _ _ h:=ours_vl h
theorem Step.setRow {ρ:Map} {w:World} {β b o n sz:Nat} {C C':Array Value} {t:TypeId} (hr:ρ β = .at b o n sz) (hb:w.heap[b]? = some (.cells C t (0,0))) (hs:C'.size = C.size):Step ρ w ρ (w.setRow b C') where
 os:=rfl
 tape:=rfl
 output:=rfl
 size:=by simp [World.setRow]
 kept b' _ hf _:=by
  have:b ≠ b':=by rintro rfl; exact hf _ _ _ _ hr
  simp only [World.setRow]
  rw [Array.getElem?_modify,if_neg this]
 shape b' C2 t2 fr h2:=by
  by_cases e:b = b'
  ·subst e
   rw [hb] at h2; simp at h2
   obtain ⟨rfl,rfl,rfl⟩:=h2
   exact ⟨C',by simp [World.setRow,Array.getElem?_modify,hb],hs⟩
  ·exact ⟨C2,by simp only [World.setRow]; rw [Array.getElem?_modify,if_neg e]; exact h2,rfl⟩
 img γ b o n sz hg:=.inl ⟨γ,o,n,sz,hg⟩
 ref γ hg:=.inl rfl
 res:=rfl
 vl _ _ h:=ours_vl h
theorem HRel.drew {ρ:Map} {H:Heap} {w:World} (h:HRel ρ H w):HRel ρ H w.drew where
 dead:=h.dead
 none_:=h.none_
 at_ β hl b o n sz hr:=by
  obtain ⟨x,h1,h2⟩:=h.at_ β hl b o n sz hr
  exact ⟨x,h1,h2.keep Step.drew rfl fun b' hb' => ⟨rfl,hb'⟩⟩
 inj:=h.inj
 lt:=h.lt
 resl:=h.resl
 resf:=h.resf
 vr:=h.vr
theorem zeC {w:World} {x:Obj} {b:Nat} (hb:b < w.heap.size):(w.alloc x).heap[b]? = w.heap[b]?:=by
 simp only [World.alloc]; rw [Array.getElem?_push,if_neg (by omega)]
theorem zeD {w:World} {x:Obj} {b:Nat} (hb:b < w.heap.size):(w.drew.alloc x).heap[b]? = w.heap[b]?:=(zeC (w:=w.drew) hb).trans rfl
theorem HRel.alloc {ρ:Map} {H:Heap} {w:World} (h:HRel ρ H w) {O:Obj} {n sz:Nat} {x:Blk} (hu:ρ H.length = .unborn)
  (hx:BRel (ρ.put H.length (.at w.heap.size 0 n sz)) (w.alloc O) w.heap.size 0 n sz x) :
  HRel (ρ.put H.length (.at w.heap.size 0 n sz)) (H ++ [x]) (w.alloc O) where
 dead β hl hr:=by
  by_cases e:β = H.length
  ·subst e; rw [Map.put_same] at hr; cases hr
  ·rw [Map.put_other _ _ e] at hr
   have hl':β < H.length:=by simp at hl; omega
   rw [List.getElem?_append_left hl']; exact h.dead β hl' hr
 none_ β hl hr:=by
  by_cases e:β = H.length
  ·subst e; rw [Map.put_same] at hr; cases hr
  ·rw [Map.put_other _ _ e] at hr
   have hl':β < H.length:=by simp at hl; omega
   rw [List.getElem?_append_left hl']; exact h.none_ β hl' hr
 at_ β hl b o n' sz' hr:=by
  by_cases e:β = H.length
  ·subst e; rw [Map.put_same] at hr; injection hr with h1 h2 h3 h4
   subst h1; subst h2; subst h3; subst h4
   exact ⟨x,by simp,hx⟩
  ·rw [Map.put_other _ _ e] at hr
   have hl':β < H.length:=by simp at hl; omega
   obtain ⟨y,h1,h2⟩:=h.at_ β hl' b o n' sz' hr
   refine ⟨y,by rw [List.getElem?_append_left hl']; exact h1,h2.keep (Step.allocO _ _ _ _ hu) ?_ fun b' hb' => ⟨?_,hb'⟩⟩
   ·have:=h.lt _ _ _ _ _ hr
    simp only [World.alloc]
    rw [Array.getElem?_push,if_neg (by omega)]
   ·have:=h.vlt hb'
    simp only [World.alloc]
    rw [Array.getElem?_push,if_neg (by omega)]
 inj β γ b o n1 sz1 o' n2 sz2 h1 h2:=by
  by_cases e:β = H.length <;> by_cases e2:γ = H.length
  ·omega
  ·subst e; rw [Map.put_same] at h1; rw [Map.put_other _ _ e2] at h2
   injection h1 with h1; have:=h.lt _ _ _ _ _ h2; omega
  ·subst e2; rw [Map.put_same] at h2; rw [Map.put_other _ _ e] at h1
   injection h2 with h2; have:=h.lt _ _ _ _ _ h1; omega
  ·rw [Map.put_other _ _ e] at h1; rw [Map.put_other _ _ e2] at h2
   exact h.inj _ _ _ _ _ _ _ _ _ h1 h2
 lt β b o n' sz' hr:=by
  by_cases e:β = H.length
  ·subst e; rw [Map.put_same] at hr; injection hr with h1; rw [World.size_alloc]; omega
  ·rw [Map.put_other _ _ e] at hr
   have:=h.lt _ _ _ _ _ hr
   rw [World.size_alloc]; omega
 resl b hb:=by have:=h.resl b hb; rw [World.size_alloc]; omega
 resf β b o n' sz' hr hb:=by
  by_cases e:β = H.length
  ·subst e; rw [Map.put_same] at hr; injection hr with h1; have:=h.resl b hb; omega
  ·rw [Map.put_other _ _ e] at hr; exact h.resf _ _ _ _ _ hr hb
 vr:=h.vr
theorem zj:∀ (rs:List Nat) (H:Heap) (β:Nat),(kill rs H)[β]? = if β ∈ rs ∧ β < H.length then some .dead else H[β]?
 | [],H,β => by simp [kill]
 | r :: rs,H,β => by
  rw [kill,zj rs (H.set r .dead) β]
  simp only [List.length_set,List.mem_cons]
  by_cases h1:β ∈ rs ∧ β < H.length
  ·rw [if_pos h1,if_pos ⟨.inr h1.1,h1.2⟩]
  ·rw [if_neg h1,List.getElem?_set]
   by_cases h2:r = β
   ·subst h2
    by_cases h3:r < H.length
    ·rw [if_pos rfl,if_pos h3,if_pos ⟨.inl rfl,h3⟩]
    ·rw [if_pos rfl,if_neg h3,if_neg (by omega),List.getElem?_eq_none (by omega)]
   ·rw [if_neg h2,if_neg]
    rintro ⟨h3 | h3,h4⟩
    ·exact h2 h3.symm
    ·exact h1 ⟨h3,h4⟩
theorem zc:∀ (rs:List Nat) (H:Heap),(kill rs H).length = H.length
 | [],_ => rfl
 | r :: rs,H => by rw [kill,zc]; simp
theorem HRel.kill {ρ:Map} {H:Heap} {w:World} (h:HRel ρ H w) (rs:List Nat):HRel (ρ.kill rs) (kill rs H) w where
 dead β hl hr:=by
  rw [zc] at hl
  rw [zj]
  simp only [Map.kill] at hr
  split at hr
  ·rename_i h1; rw [if_pos ⟨h1.1,hl⟩]
  ·split
   ·rfl
   ·exact h.dead β hl hr
 none_ β hl hr:=by
  rw [zc] at hl
  simp only [Map.kill] at hr
  split at hr
  ·cases hr
  ·rename_i h1
   rw [zj,if_neg (fun h2 => h1 ⟨h2.1,by rw [hr]; rfl⟩)]
   exact h.none_ β hl hr
 at_ β hl b o n sz hr:=by
  rw [zc] at hl
  simp only [Map.kill] at hr
  split at hr
  ·cases hr
  ·rename_i h1
   rw [zj,if_neg (fun h2 => h1 ⟨h2.1,by rw [hr]; rfl⟩)]
   obtain ⟨x,h3,h4⟩:=h.at_ β hl b o n sz hr
   exact ⟨x,h3,h4.keep (Step.kill rs) rfl fun b' hb' => ⟨rfl,hb'⟩⟩
 inj β γ b o n sz o' n' sz' h1 h2:=by
  simp only [Map.kill] at h1 h2
  split at h1
  ·cases h1
  ·split at h2
   ·cases h2
   ·exact h.inj _ _ _ _ _ _ _ _ _ h1 h2
 lt β b o n sz hr:=by
  simp only [Map.kill] at hr
  split at hr
  ·cases hr
  ·exact h.lt _ _ _ _ _ hr
 resl:=h.resl
 resf β b o n sz hr:=by
  simp only [Map.kill] at hr
  split at hr
  ·cases hr
  ·exact h.resf _ _ _ _ _ hr
 vr:=h.vr
theorem HRel.setRow {ρ:Map} {H:Heap} {w:World} (h:HRel ρ H w) {β b o n sz:Nat} {C C':Array Value} {t:TypeId} {x:Blk} (hl:β < H.length) (hr:ρ β = .at b o n sz)
  (hb:w.heap[b]? = some (.cells C t (0,0))) (hs:C'.size = C.size) (hx:BRel ρ (w.setRow b C') b o n sz x):HRel ρ (H.set β x) (w.setRow b C') where
 dead γ hl' hr':=by
  have e:β ≠ γ:=by rintro rfl; rw [hr] at hr'; cases hr'
  simp at hl'
  rw [List.getElem?_set_ne e]; exact h.dead γ hl' hr'
 none_ γ hl' hr':=by
  have e:β ≠ γ:=by rintro rfl; rw [hr] at hr'; cases hr'
  simp at hl'
  rw [List.getElem?_set_ne e]; exact h.none_ γ hl' hr'
 at_ γ hl' b' o' n' sz' hr':=by
  simp at hl'
  by_cases e:β = γ
  ·subst e
   rw [hr] at hr'; injection hr' with h1 h2 h3 h4
   subst h1; subst h2; subst h3; subst h4
   exact ⟨x,by simp [hl],hx⟩
  ·obtain ⟨y,h1,h2⟩:=h.at_ γ hl' _ _ _ _ hr'
   refine ⟨y,by rw [List.getElem?_set_ne e]; exact h1,h2.keep (Step.setRow hr hb hs) ?_ fun b2 hb2 => ⟨?_,hb2⟩⟩
   ·have:b ≠ b':=by rintro rfl; exact e (h.inj _ _ _ _ _ _ _ _ _ hr hr')
    simp only [World.setRow]
    rw [Array.getElem?_modify,if_neg this]
   ·have:b ≠ b2:=by rintro rfl; exact h.resf _ _ _ _ _ hr (.inr (by rw [hb2]; simp))
    simp only [World.setRow]
    rw [Array.getElem?_modify,if_neg this]
 inj:=h.inj
 lt γ b' o' n' sz' hr':=by have:=h.lt _ _ _ _ _ hr'; simpa [World.setRow] using this
 resl b' hb':=by have:=h.resl b' hb'; simpa [World.setRow] using this
 resf:=h.resf
 vr:=h.vr
abbrev setO (w:World) (b:Nat) (O:Obj):World:={ w with heap:=w.heap.setIfInBounds b O }
theorem setO_ne {w:World} {b b':Nat} {O:Obj} (h:b ≠ b'):(setO w b O).heap[b']? = w.heap[b']?:=by simp [setO,Array.getElem?_setIfInBounds,h]
theorem setO_eq {w:World} {b:Nat} {O O':Obj} (h:w.heap[b]? = some O'):(setO w b O).heap[b]? = some O:=by
 have:=(Array.getElem?_eq_some_iff.1 h).1
 simp [setO,Array.getElem?_setIfInBounds,this]
theorem Step.setMap {ρ:Map} {w:World} {β b o n sz:Nat} {A:Array MapEntry} {c:Nat} {O:Obj} (hr:ρ β = .at b o n sz) (hb:w.heap[b]? = some (.map A c)):Step ρ w ρ (setO w b O) where
 os:=rfl
 tape:=rfl
 output:=rfl
 size:=by simp [setO]
 kept b' _ hf _:=setO_ne (by rintro rfl; exact hf _ _ _ _ hr)
 shape b' C2 t2 fr h2:=by
  have e:b ≠ b':=by rintro rfl; rw [hb] at h2; cases h2
  exact ⟨C2,by rw [setO_ne e]; exact h2,rfl⟩
 img γ b o n sz hg:=.inl ⟨γ,o,n,sz,hg⟩
 ref γ hg:=.inl rfl
 res:=rfl
 vl _ _ h:=ours_vl h
theorem HRel.setMap {ρ:Map} {H:Heap} {w:World} (h:HRel ρ H w) {β b o n sz:Nat} {A:Array MapEntry} {c:Nat} {O:Obj} {x:Blk} (hl:β < H.length) (hr:ρ β = .at b o n sz)
  (hb:w.heap[b]? = some (.map A c)) (hx:BRel ρ (setO w b O) b o n sz x):HRel ρ (H.set β x) (setO w b O) where
 dead γ hl' hr':=by
  have e:β ≠ γ:=by rintro rfl; rw [hr] at hr'; cases hr'
  simp at hl'
  rw [List.getElem?_set_ne e]; exact h.dead γ hl' hr'
 none_ γ hl' hr':=by
  have e:β ≠ γ:=by rintro rfl; rw [hr] at hr'; cases hr'
  simp at hl'
  rw [List.getElem?_set_ne e]; exact h.none_ γ hl' hr'
 at_ γ hl' b' o' n' sz' hr':=by
  simp at hl'
  by_cases e:β = γ
  ·subst e
   rw [hr] at hr'; injection hr' with h1 h2 h3 h4
   subst h1; subst h2; subst h3; subst h4
   exact ⟨x,by simp [hl],hx⟩
  ·obtain ⟨y,h1,h2⟩:=h.at_ γ hl' _ _ _ _ hr'
   refine ⟨y,by rw [List.getElem?_set_ne e]; exact h1,h2.keep (Step.setMap hr hb) ?_ fun b2 hb2 => ⟨?_,hb2⟩⟩
   ·exact setO_ne (by rintro rfl; exact e (h.inj _ _ _ _ _ _ _ _ _ hr hr'))
   ·exact setO_ne (by rintro rfl; exact h.resf _ _ _ _ _ hr (.inr (by rw [hb2]; simp)))
 inj:=h.inj
 lt γ b' o' n' sz' hr':=by have:=h.lt _ _ _ _ _ hr'; simpa [setO] using this
 resl b' hb':=by have:=h.resl b' hb'; simpa [setO] using this
 resf:=h.resf
 vr:=h.vr
theorem zak {ρ:Map} {rs:List Nat} {β:Nat} (h:ρ β = .unborn):(ρ.kill rs) β = .unborn:=by
 simp only [Map.kill]; rw [if_neg (by simp [h,Img.born])]; exact h
end Go.Proofs.YtljojacnjjgceaaGreat.Den
namespace Go.Proofs.YtljojacnjjgceaaGreat.Den
open Go Go.RowKit
def TRel (ρ:Map) (w:World) (τ:Env) (a:Act) (N:Nat):Prop :=
 a.tmps.size = N ∧ a.defers = [] ∧ ∀ n,VRel ρ w (Tm.get τ n) (a.tmps.getD n undef)
structure Good (m:Bool) (ρ:Map) (H:Heap) (w:World) (v:SV) (H':Heap) (u:Value) (w':World) (ρ':Map):Prop where
 step:Step ρ w ρ' w'
 hrel:HRel ρ' H' w'
 vrel:VRel ρ' w' v u
 len:H.length ≤ H'.length
 unb:∀ β,ρ β = .unborn → H'.length ≤ β → ρ' β = .unborn
 mono:m = true → (∃ Δ,H' = H ++ Δ) ∧ (∀ β,(β < H.length ∨ H'.length ≤ β) → ρ' β = ρ β) ∧ (∀ b,b < w.heap.size → w'.heap[b]? = w.heap[b]?) ∧ ∀ b t,ρ.vl b = some t → ρ'.vl b = some t
theorem Good.same {m:Bool} {ρ:Map} {H:Heap} {w:World} {v:SV} {u:Value} (hH:HRel ρ H w) (hv:VRel ρ w v u):Good m ρ H w v H u w ρ :=
 ⟨Step.refl _ _,hH,hv,Nat.le_refl _,fun _ h _ => h,fun _ => ⟨⟨[],by simp⟩,fun _ _ => rfl,fun _ _ => rfl,fun _ _ h => h⟩⟩
def OpOK (P:Program) (o:Oper) (a:Act) (m:Bool) (ρ:Map) (H:Heap) (w:World) (v:SV) (H':Heap):Prop :=
 ∀ (K:Act → World → Prop) (Q:Exit → Act → World → Prop),(∀ u w' ρ',Good m ρ H w v H' u w' ρ' → K (a.put o.dst u) w') → o.wp P a w K Q
section
variable {P:Program} {o:Oper} {a:Act} {m:Bool} {ρ:Map} {H H':Heap} {w w':World} {v:SV} {u:Value}
theorem OpOK.value (hr:(execOp a.eval o).run P w = .ok (.value u) w') {ρ':Map} (hg:Good m ρ H w v H' u w' ρ'):OpOK P o a m ρ H w v H':=by
 intro K Q hK
 unfold Oper.wp
 rw [hr]
 exact hK u w' ρ' hg
theorem OpOK.skip (hr:(execOp a.eval o).run P w = .ok .skip w') {ρ':Map} (hg:Good m ρ H w v H' undef w' ρ'):OpOK P o a m ρ H w v H':=by
 intro K Q hK
 unfold Oper.wp
 rw [hr]
 exact hK undef w' ρ' hg
theorem OpOK.same (hH:HRel ρ H w) (hr:(execOp a.eval o).run P w = .ok (.value u) w) (hv:VRel ρ w v u):OpOK P o a m ρ H w v H :=
 OpOK.value hr (Good.same hH hv)
end
mutual
theorem svOf_rel {ρ:Map} {w:World}:∀ {d:Nat} {v:Value} {s:SV},svOf d v = some s → VRel ρ w s v
 | 0,_,_,h => by simp [svOf] at h
 | d + 1,v,s,h => by
  unfold svOf at h
  split at h <;> (try (simp at h; subst h)) <;> (try simp [VRel]; done)
  ·split at h
   ·rename_i l hl
    simp at h; subst h
    simp only [VRel]
    exact ⟨_,rfl,svsOf_rel hl⟩
   ·simp at h
  ·simp at h
theorem svsOf_rel {ρ:Map} {w:World}:∀ {d:Nat} {vs:List Value} {l:List SV},svsOf d vs = some l → VRels ρ w l vs
 | 0,_,_,h => by simp [svsOf] at h
 | d + 1,vs,l,h => by
  unfold svsOf at h
  split at h
  ·simp at h; subst h; simp [VRels]
  ·split at h
   ·rename_i x y h1 h2
    simp at h; subst h
    simp only [VRels]
    exact ⟨_,_,rfl,svOf_rel h1,svsOf_rel h2⟩
   ·simp at h
end
theorem opL_rel {ρ:Map} {w:World} {τ:Env} {a:Act} {N:Nat} (ht:TRel ρ w τ a N) {x:Operand} {s:S} (h:opL x = some s):VRel ρ w (s.ev τ) (a.eval x):=by
 cases x with
 | tmp t => simp [opL] at h; subst h; exact ht.2.2 t
 | const v =>
  simp [opL,Option.map_eq_some_iff] at h
  obtain ⟨s',h1,rfl⟩:=h
  exact svOf_rel h1
 | global g => simp [opL] at h
 | func f => simp [opL] at h; subst h; simp [S.ev,VRel,Act.eval,VRels]
theorem zme {ρ:Map} {w:World} {τ:Env} {a:Act} {N:Nat} (ht:TRel ρ w τ a N):∀ {xs:List Operand} {ss:List S},opsL xs = some ss → VRels ρ w (ss.map (S.ev τ)) (xs.map a.eval)
 | [],_,h => by simp [opsL] at h; subst h; simp [VRels]
 | x :: r,_,h => by
  simp only [opsL] at h
  split at h
  ·rename_i p q h1 h2
   simp at h; subst h
   simp only [List.map_cons,VRels]
   exact ⟨_,_,rfl,opL_rel ht h1,zme ht h2⟩
  ·simp at h
section
variable {R:Type}
theorem za {b:Bool} {x:Option R} {r:R} (h:tst b x = some r):b = true ∧ x = some r:=by
 cases b
 ·simp [tst] at h
 ·exact ⟨rfl,h⟩
theorem zg {b:Bool} {x y:Option R} {r:R} (h:cond b x y = some r):(b = true ∧ x = some r) ∨ (b = false ∧ y = some r):=by
 cases b
 ·exact .inr ⟨rfl,h⟩
 ·exact .inl ⟨rfl,h⟩
theorem zay {cs:List SV} {off n:Nat} {ag:Bool} {k:SV → Option R} {r:R} (h:getC cs off n ag k = some r) :
  ∃ v,k v = some r ∧ (ag = false → cs[off]? = some v) ∧ (ag = true → off + n ≤ cs.length ∧ v = .agg ((cs.drop off).take n)):=by
 unfold getC at h
 cases ag with
 | false =>
  simp only at h
  split at h
  ·rename_i s hs; exact ⟨s,h,fun _ => hs,by simp⟩
  ·simp at h
 | true =>
  simp only at h
  split at h
  ·rename_i hle; exact ⟨_,h,by simp,fun _ => ⟨hle,rfl⟩⟩
  ·simp at h
end
theorem zeE {P:Program} {t:TypeId} {ag:Bool} (h:isAggL P t = some ag) (w:World):(isAgg t).run P w = .ok ag w:=by
 unfold isAggL at h
 unfold isAgg
 cases hu:P.underlying t with
 | none => simp [hu] at h
 | some d =>
  rw [hu] at h
  simp only [Sem.run_bind,run_underlying hu,Result.andThen_ok]
  cases d <;> simp at h <;> subst h <;> rfl
theorem zm {P:Program} {t:TypeId} {i:TypeInfo} (h:P.info? t = some i) (w:World):(sizeOf t).run P w = .ok i.size w:=by
 simp [sizeOf,typeInfo,h]
theorem zal {P:Program} {t:TypeId} {sz by_:Nat} {zs:List SV} (h:tinfo P t = some (sz,zs,by_)) :
  ∃ i z,P.info? t = some i ∧ i.zero = some z ∧ i.size = sz ∧ i.bytes = by_ ∧ svsOf 1000 z.cells.toList = some zs ∧ zs.length = sz:=by
 unfold tinfo at h
 split at h
 ·rename_i i hi
  split at h
  ·rename_i z hz
   split at h
   ·rename_i zs' hs
    split at h
    ·rename_i hl
     simp at h
     obtain ⟨rfl,rfl,rfl⟩:=h
     exact ⟨i,z,hi,hz,rfl,rfl,hs,hl⟩
    ·simp at h
   ·simp at h
  ·simp at h
 ·simp at h
theorem zGl {P:Program} {t:TypeId} {w:World} {ad:Addr} {u:Value} (ha:isAggL P t = some false) (hc:w.cell? ad = some u):(loadVar t ad).run P w = .ok u w:=by
 simp only [loadVar,Sem.run_bind,zeE ha,Result.andThen_ok,Bool.false_eq_true,if_false,run_load,hc]
theorem zvs {P:Program} {t:TypeId} {i:TypeInfo} {w:World} {ad:Addr} {vs:List Value} (ha:isAggL P t = some true) (hi:P.info? t = some i) (hl:vs.length = i.size)
  (hc:∀ j u,vs[j]? = some u → w.cell? (ad.add j) = some u):(loadVar t ad).run P w = .ok (.agg vs.toArray) w:=by
 simp only [loadVar,Sem.run_bind,zeE ha,Result.andThen_ok,if_true,zm hi]
 rw [← hl,run_loadCells_list w ad vs hc]
 rfl
theorem ld_core {P:Program} {t:TypeId} {i:TypeInfo} {ag:Bool} {ρ:Map} {w:World} {cs:List SV} {vs:List Value} {ad:Addr} {off:Nat} {v:SV} (hi:P.info? t = some i) (ha:isAggL P t = some ag)
  (hcs:VRels ρ w cs vs) (hm:CellsAt w ad vs) (h1:ag = false → cs[off]? = some v) (h2:ag = true → off + i.size ≤ cs.length ∧ v = .agg ((cs.drop off).take i.size)) :
  ∃ u,(loadVar t (ad.add off)).run P w = .ok u w ∧ VRel ρ w v u:=by
 cases ag with
 | false =>
  obtain ⟨u,hu,hr⟩:=hcs.get off v (h1 rfl)
  exact ⟨u,zGl ha (hm off u hu),hr⟩
 | true =>
  obtain ⟨hle,rfl⟩:=h2 rfl
  have hs:=(hcs.split (n:=off)).2.split (n:=i.size)
  refine ⟨_,zvs (vs:=(vs.drop off).take i.size) ha hi ?_ ?_,?_⟩
  ·have:=hcs.length; simp; omega
  ·intro j u hu
   rw [List.getElem?_take] at hu
   split at hu
   ·rw [List.getElem?_drop] at hu
    rw [add_add]; exact hm _ _ hu
   ·simp at hu
  ·simp only [VRel]
   exact ⟨_,rfl,by simpa using hs.1⟩
theorem zL {ρ:Map} {H:Heap} {w:World} (hH:HRel ρ H w) {β b o n sz:Nat} {cs:List SV} {t:TypeId} {z:Nat} (hb:H[β]? = some (.cells cs t z)) (hr:ρ β = .at b o n sz) :
  ∃ C tC,w.heap[b]? = some (.cells C tC (0,0)) ∧ z = sz ∧ cs.length = n * sz ∧ o + n * sz ≤ C.size ∧ VRels ρ w cs ((C.toList.drop o).take cs.length) ∧ CellsAt w ⟨b,o,none⟩ ((C.toList.drop o).take cs.length):=by
 have hl:β < H.length:=(List.getElem?_eq_some_iff.1 hb).1
 obtain ⟨x,h1,h2⟩:=hH.at_ β hl _ _ _ _ hr
 rw [hb] at h1; simp at h1; subst h1
 simp only [BRel] at h2
 obtain ⟨rfl,hlen,C,tC,hC,hsz,hcell⟩:=h2
 refine ⟨C,tC,hC,rfl,hlen,hsz,VRels.of (by simp; omega) fun i s u h3 h4 => ?_,fun j u hu => ?_⟩
 ·obtain ⟨u',h5,h6⟩:=hcell i s h3
  have hi:i < cs.length:=(List.getElem?_eq_some_iff.1 h3).1
  rw [List.getElem?_take,if_pos hi,List.getElem?_drop,Array.getElem?_toList,h5] at h4
  cases h4; exact h6
 ·rw [List.getElem?_take] at hu
  split at hu
  ·rw [List.getElem?_drop,Array.getElem?_toList] at hu
   rw [zd,zn hC]; exact hu
  ·simp at hu
theorem row_of {ρ:Map} {H:Heap} {w:World} (hH:HRel ρ H w) {β b o n sz:Nat} {K:Kd} {xs:List K.T} {t:TypeId} (hb:H[β]? = some (.arr K xs t)) (hr:ρ β = .at b o n sz) :
  K.sz = sz ∧ xs.length = n ∧ ∃ C tC,w.heap[b]? = some (.cells C tC (0,0)) ∧ o + n * sz ≤ C.size ∧ ∀ (i:Nat),i < xs.length → ∃ es,CRel w (Free ρ w) K (xs.getD i K.dflt) es ∧ CellsAt w ⟨b,o + i * sz,none⟩ es:=by
 have hl:β < H.length:=(List.getElem?_eq_some_iff.1 hb).1
 obtain ⟨x,h1,h2⟩:=hH.at_ β hl _ _ _ _ hr
 rw [hb] at h1; simp at h1; subst h1
 simp only [BRel] at h2
 obtain ⟨hn,hsz,C,tC,hC,hle,hrow⟩:=h2
 refine ⟨hsz,hn,C,tC,hC,hle,fun i hi => ?_⟩
 obtain ⟨es,h3,h4⟩:=hrow i (xs.getD i K.dflt) (by simp [List.getD,List.getElem?_eq_getElem hi])
 refine ⟨es,h3,fun j u hu => ?_⟩
 rw [zd,zn hC,← hsz]
 exact h4 j u hu
theorem tree_of {ρ:Map} {H:Heap} {w:World} (hH:HRel ρ H w) {β b o n sz:Nat} {d:Nat} {K:Kd} {xs:List K.T} {ex:Option (Nat × List SV)} (hb:H[β]? = some (.tree d K xs ex)) (hr:ρ β = .at b o n sz) :
  K.sz = sz ∧ xs.length = n ∧ ∃ C tC,w.heap[b]? = some (.cells C tC (0,0)) ∧ o + n * sz ≤ C.size ∧ (∀ p,ex = some p → p.1 < xs.length ∧ p.2.length = K.sz) ∧ ∀ (i:Nat),i < xs.length → ∃ es,CellsAt w ⟨b,o + i * sz,none⟩ es ∧ es.length = K.sz ∧
   ((∃ p,ex = some p ∧ p.1 = i ∧ VRels ρ w p.2 es) ∨ ((∀ p,ex = some p → p.1 ≠ i) ∧ ∃ t,TreeC w (Free ρ w) K d (xs.getD i K.dflt) es t ∧ ∀ b' ∈ t,ρ.vl b' = some b)):=by
 have hl:β < H.length:=(List.getElem?_eq_some_iff.1 hb).1
 obtain ⟨x,h1,h2⟩:=hH.at_ β hl _ _ _ _ hr
 rw [hb] at h1; simp at h1; subst h1
 simp only [BRel] at h2
 obtain ⟨hn,hsz,C,tC,us,tk,hC,hle,hul,hus,hseq,hnd,hvl,hex⟩:=h2
 refine ⟨hsz,hn,C,tC,hC,hle,fun p hp => by rw [hn,hsz]; exact hex p hp,fun i hi => ?_⟩
 have hx:xs[i]? = some (xs.getD i K.dflt):=by simp [List.getD,List.getElem?_eq_getElem hi]
 subst hsz
 cases ex with
 | none =>
  obtain ⟨es,t,h3,h4,h5⟩:=(SeqL.toX.2 hseq).get (fun _ _ _ h => h.length) i _ hx
  exact ⟨es,fun j u hu => by rw [zd,zn hC,Nat.add_assoc]; exact hus _ _ (h5 j u hu),h3.length,.inr ⟨by simp,t,h3,fun b' hb' => hvl b' (h4 b' hb')⟩⟩
 | some p =>
  have hpl:∀ c,ExRel ρ w (some p) c → c.length = K.sz:=fun c hc => by rw [← (hc p rfl).length]; exact (hex p rfl).2
  obtain ⟨es,h3,h4⟩:=hseq.get hpl (fun _ _ _ h => h.length) i _ hx
  have hlen:es.length = K.sz:=by
   rcases h4 with ⟨_,h4⟩ | ⟨_,t,h4,_⟩
   ·exact hpl _ h4
   ·exact h4.length
  refine ⟨es,fun j u hu => by rw [zd,zn hC,Nat.add_assoc]; exact hus _ _ (h3 j u hu),hlen,?_⟩
  rcases h4 with ⟨h4,h5⟩ | ⟨h4,t,h5,h6⟩
  ·exact .inl ⟨p,rfl,by simpa using h4,h5 p rfl⟩
  ·exact .inr ⟨fun q hq e => h4 (by cases hq; simp [e]),t,h5,fun b' hb' => hvl b' (h6 b' hb')⟩
def SV.plain:SV → SV
 | .es _ _ => .junk
 | v => v
theorem TreeC.plain {ρ:Map} {w w':World} {B:Nat → Prop}:∀ {K:Kd} {d:Nat} {x:K.T} {us:List Value} {tk:List Nat},TreeC w B K d x us tk → VRels ρ w' ((enc K x).map SV.plain) us
 | .int k,_,_,_,_,h => by rw [h.1]; simp [enc,SV.plain,VRels,VRel]
 | .bool,_,_,_,_,h => by rw [h.1]; simp [enc,SV.plain,VRels,VRel]
 | .unit,_,_,_,_,h => by rw [h.1]; simp [enc,VRels]
 | .pair a b,d,x,us,tk,h => by
  simp only [TreeC] at h
  obtain ⟨c1,c2,t1,t2,rfl,rfl,h3,h4⟩:=h
  simp only [enc,List.map_append]
  exact h3.plain.append h4.plain
 | .list e,d,xs,us,tk,h => by
  have hl:=h.length
  simp only [Kd.sz] at hl
  match us,hl with
  | [u],_ => simp [enc,SV.plain,VRels,VRel]
theorem zGm {R:Type} {K:Kd} {x:K.T} {off n:Nat} {ag:Bool} {k:SV → Option R} {r:R} (h:getP (enc K x) off n ag k = some r) :
  ∃ v,k v = some r ∧ (ag = false → ((enc K x).map SV.plain)[off]? = some v) ∧ (ag = true → off + n ≤ ((enc K x).map SV.plain).length ∧ v = .agg ((((enc K x).map SV.plain).drop off).take n)):=by
 obtain ⟨v,h1,h2,h3⟩:=zay h
 obtain ⟨he,hk⟩:v.isEs = false ∧ k v = some r:=by
  rcases zg h1 with ⟨_,h1⟩ | ⟨h0,h1⟩
  ·cases h1
  ·exact ⟨h0,h1⟩
 refine ⟨v,hk,fun ha => ?_,fun ha => ?_⟩
 ·rw [List.getElem?_map,h2 ha]
  cases v <;> simp_all [SV.isEs,SV.plain]
 ·obtain ⟨h4,rfl⟩:=h3 ha
  refine ⟨by simpa using h4,?_⟩
  simp only [SV.isEs] at he
  rw [← List.map_drop,← List.map_take]
  congr 1
  refine ((List.map_congr_left (g:=id) fun s hs => ?_).trans (List.map_id _)).symm
  have:=List.any_eq_false.1 he s hs
  cases s <;> simp_all [SV.plain]
theorem live_of {ρ:Map} {H:Heap} {w:World} (hH:HRel ρ H w) {β:Nat} {x:Blk} (hb:H[β]? = some x) (hx:x ≠ .dead):ρ β ≠ .dead:=by
 intro hr
 have hl:β < H.length:=(List.getElem?_eq_some_iff.1 hb).1
 have:=hH.dead β hl hr
 rw [hb] at this; exact hx (by simpa using this)
theorem ptr_rel {ρ:Map} {H:Heap} {w:World} (hH:HRel ρ H w) {β off:Nat} {u:Value} {x:Blk} (hb:H[β]? = some x) (hx:x ≠ .dead) (h:VRel ρ w (.ptr β off) u) :
  ∃ b o n sz,ρ β = .at b o n sz ∧ u = .pointer (some ⟨b,o + off,none⟩):=by
 simp only [VRel] at h
 rcases hr:ρ β with _ | _ | _ | ⟨b,o,n,sz⟩ <;> rw [hr] at h <;> simp only at h
 ·exact absurd hr (live_of hH hb hx)
 ·exact ⟨b,o,n,sz,rfl,h⟩
theorem zim {ρ:Map} {H:Heap} {w:World} (hH:HRel ρ H w) {β i j:Nat} {u:Value} {x:Blk} (hb:H[β]? = some x) (hx:x ≠ .dead) (h:VRel ρ w (.aptr β i j) u) :
  ∃ b o n sz,ρ β = .at b o n sz ∧ u = .pointer (some ⟨b,o + i * sz + j,none⟩):=by
 simp only [VRel] at h
 rcases hr:ρ β with _ | _ | _ | ⟨b,o,n,sz⟩ <;> rw [hr] at h <;> simp only at h
 ·exact absurd hr (live_of hH hb hx)
 ·exact ⟨b,o,n,sz,rfl,h⟩
theorem zvt {P:Program} {t:TypeId} {ad:Addr} {w:World}:(Instr.loadAt t (.pointer (some ad))).run P w = (loadVar t ad).run P w:=by
 simp [Instr.loadAt,Instr.sureAddr]
theorem ld_gen {R:Type} {P:Program} {ρ:Map} {H:Heap} {w:World} {t:TypeId} {s:SV} {val:Value} {i:TypeInfo} {ag:Bool} {k:SV → Option R} {r:R} (hi:P.info? t = some i) (ha:isAggL P t = some ag) (hH:HRel ρ H w) (hx:VRel ρ w s val)
  (he:ldI H i.size ag s k = some r):∃ v,k v = some r ∧ ∃ ad,val = .pointer (some ad) ∧ ∃ u,(loadVar t ad).run P w = .ok u w ∧ VRel ρ w v u:=by
 unfold ldI at he
 split at he
 ·rename_i β off
  split at he
  ·rename_i cs t' z hb
   obtain ⟨v',hk,h1,h2⟩:=zay he
   obtain ⟨b,o',n,sz,hr,hu⟩:=ptr_rel hH hb (by simp) hx
   obtain ⟨C,tC,hC,_,_,_,hcs,hm⟩:=zL hH hb hr
   refine ⟨v',hk,_,hu,?_⟩
   rw [← zd]
   exact ld_core hi ha hcs hm h1 h2
  ·rename_i K xs t' hb
   split at he
   ·obtain ⟨hl,hk⟩:=za he
    obtain ⟨b,o',n,sz,hr,hu⟩:=ptr_rel hH hb (by simp) hx
    have hlt:β < H.length:=(List.getElem?_eq_some_iff.1 hb).1
    obtain ⟨y,h1,h2⟩:=hH.at_ β hlt _ _ _ _ hr
    rw [hb] at h1; simp at h1; subst h1
    simp only [BRel] at h2
    obtain ⟨rfl,rfl,C,tC,hC,hle,hrow⟩:=h2
    have hl':xs.length * K.sz = i.size:=by simpa using hl
    refine ⟨_,hk,_,hu,.agg ((C.toList.drop o').take i.size).toArray,?_,?_⟩
    ·refine zvs ha hi (by simp; omega) fun j u hj => ?_
     rw [List.getElem?_take] at hj
     split at hj
     ·rw [List.getElem?_drop,Array.getElem?_toList] at hj
      rw [zd,zn hC]; exact hj
     ·simp at hj
    ·simp only [VRel]
     refine ⟨_,rfl,by simp; omega,fun k x hx => ?_⟩
     obtain ⟨es,h3,h4⟩:=hrow k x hx
     refine ⟨es,h3,fun j u hj => ?_⟩
     have hk:k < xs.length:=(List.getElem?_eq_some_iff.1 hx).1
     have hj':j < K.sz:=by rw [← h3.length]; exact (List.getElem?_eq_some_iff.1 hj).1
     have:(k + 1) * K.sz ≤ xs.length * K.sz:=Nat.mul_le_mul_right _ hk
     rw [Nat.add_mul,Nat.one_mul] at this
     rw [List.getElem?_toArray,List.getElem?_take,if_pos (by omega),List.getElem?_drop,Array.getElem?_toList,← Nat.add_assoc]
     exact h4 j u hj
   ·simp at he
  ·simp at he
 ·rename_i β k' j
  split at he
  ·rename_i K xs t' hb
   obtain ⟨hk,he⟩:=za he
   obtain ⟨v',hk',h1,h2⟩:=zay he
   obtain ⟨b,o',n,sz,hr,hu⟩:=zim hH hb (by simp) hx
   obtain ⟨_,_,C,tC,hC,_,hrow⟩:=row_of hH hb hr
   obtain ⟨es,h3,h4⟩:=hrow k' (by simpa using hk)
   refine ⟨v',hk',_,hu,?_⟩
   rw [← zd]
   exact ld_core hi ha (enc_rel h3) h4 h1 h2
  ·rename_i d K xs ex hb
   obtain ⟨b,o',n,sz,hr,hu⟩:=zim hH hb (by simp) hx
   obtain ⟨_,_,C,tC,hC,_,hexl,hpc⟩:=tree_of hH hb hr
   have plain:(getP (enc K (xs.getD k' K.dflt)) j i.size ag fun v => tst (decide (k' < xs.length)) (k v)) = some r → (∀ p,ex = some p → p.1 ≠ k') → ∃ v,k v = some r ∧ ∃ ad,val = .pointer (some ad) ∧ ∃ u,(loadVar t ad).run P w = .ok u w ∧ VRel ρ w v u:=fun he hno => by
    obtain ⟨v',hk',h1,h2⟩:=zGm he
    obtain ⟨hk,hk'⟩:=za hk'
    obtain ⟨es,h4,_,h5⟩:=hpc k' (by simpa using hk)
    rcases h5 with ⟨p,h5,h6,_⟩ | ⟨_,t',h5,_⟩
    ·exact absurd h6 (hno p h5)
    ·refine ⟨v',hk',_,hu,?_⟩
     rw [← zd]
     exact ld_core hi ha h5.plain h4 h1 h2
   split at he
   ·exact plain he (by simp)
   ·rename_i i' cs
    obtain ⟨h0,he2⟩:=za he
    have h0:=of_decide_eq_true h0
    subst h0
    obtain ⟨v',hk',h1,h2⟩:=zay he2
    obtain ⟨es,h4,_,h5⟩:=hpc k' (hexl _ rfl).1
    rcases h5 with ⟨p,h5,_,h6⟩ | ⟨h5,_⟩
    ·cases h5
     refine ⟨v',hk',_,hu,?_⟩
     rw [← zd]
     exact ld_core hi ha h6 h4 h1 h2
    ·exact absurd rfl (h5 _ rfl)
  ·simp at he
 ·rename_i K y j
  obtain ⟨v',hk',h1,h2⟩:=zay he
  simp only [VRel] at hx
  obtain ⟨ad,es,hu,h3,h5,h4⟩:=hx
  exact ⟨v',hk',_,hu,ld_core hi ha (enc_rel h3) h4 h1 h2⟩
 ·simp at he
theorem zpD {P:Program} {o:Oper} {a:Act} {m:Bool} {ρ:Map} {H H':Heap} {w:World} {τ:Env} {N:Nat} {v:SV} {t:TypeId} {x:Operand} {s:S} {i:TypeInfo} {ag:Bool}
  (hop:o.op = .load t x) (hi:P.info? t = some i) (ha:isAggL P t = some ag) (hs:opL x = some s) (ht:TRel ρ w τ a N) (hH:HRel ρ H w)
  (he:ldI H i.size ag (s.ev τ) (fun v => some (v,H)) = some (v,H')):OpOK P o a m ρ H w v H':=by
 obtain ⟨v',hk,ad,h1,u,h2,h3⟩:=ld_gen hi ha hH (opL_rel ht hs) he
 simp only [Option.some.injEq,Prod.mk.injEq] at hk
 obtain ⟨rfl,rfl⟩:=hk
 refine OpOK.same hH (u:=u) ?_ h3
 simp [execOp,hop,h1,zvt,h2]
section
variable {P:Program} {o:Oper} {a:Act} {m:Bool} {ρ:Map} {H H':Heap} {w:World} {τ:Env} {N:Nat} {T:Tab} {v:SV}
theorem zin {s:TypeId} {fs:Array Field} {f:Nat} {fd:Field} {j:TypeInfo} (hs:P.underlying s = some (.struct fs)) (hf:fs[f]? = some fd) (hj:P.info? fd.type = some j) (h0:j.size ≠ 0) (ad:Addr) :
  (Instr.fieldAt s (.pointer (some ad)) f).run P w = .ok (.pointer (some (ad.add fd.offset))) w:=by
 simp [Instr.fieldAt,run_underlying hs,hf,Instr.sureAddr,fieldPlace,zm hj,h0]
theorem snd_fa {s:TypeId} {fs:Array Field} {f:Nat} {fd:Field} {j:TypeInfo} {x:Operand} {sx:S} (hop:o.op = .fieldAddr s x f) (hs:P.underlying s = some (.struct fs)) (hf:fs[f]? = some fd)
  (hj:P.info? fd.type = some j) (h0:j.size ≠ 0) (hx:opL x = some sx) (ht:TRel ρ w τ a N) (hH:HRel ρ H w) (he:runI T (.fa fd.offset sx) τ H (fun v H => some (v,H)) = some (v,H')):OpOK P o a m ρ H w v H':=by
 have hv:=opL_rel ht hx
 have key:H' = H ∧ ∃ u,(Instr.fieldAt s (a.eval x) f).run P w = .ok u w ∧ VRel ρ w v u:=by
  simp only [runI] at he
  split at he
  ·rename_i b off e
   rw [e] at hv
   simp at he; obtain ⟨rfl,rfl⟩:=he
   simp only [VRel] at hv ⊢
   rcases hr:ρ b with _ | _ | _ | ⟨b',o',n,sz⟩ <;> rw [hr] at hv <;> simp only at hv
   ·obtain ⟨ad,hv⟩:=hv
    rw [hv]
    exact ⟨trivial,_,zin hs hf hj h0 _,_,rfl⟩
   ·rw [hv]
    exact ⟨trivial,_,zin hs hf hj h0 _,by simp only [zd,Nat.add_assoc]⟩
  ·rename_i b i jj e
   rw [e] at hv
   simp at he; obtain ⟨rfl,rfl⟩:=he
   simp only [VRel] at hv ⊢
   rcases hr:ρ b with _ | _ | _ | ⟨b',o',n,sz⟩ <;> rw [hr] at hv <;> simp only at hv
   ·obtain ⟨ad,hv⟩:=hv
    rw [hv]
    exact ⟨trivial,_,zin hs hf hj h0 _,_,rfl⟩
   ·rw [hv]
    exact ⟨trivial,_,zin hs hf hj h0 _,by simp only [zd,Nat.add_assoc]⟩
  ·rename_i K y jj e
   rw [e] at hv
   simp at he; obtain ⟨rfl,rfl⟩:=he
   simp only [VRel] at hv ⊢
   obtain ⟨ad,es,hu,h3,h4,h5⟩:=hv
   rw [hu]
   exact ⟨trivial,_,zin hs hf hj h0 _,ad,es,by rw [add_add],h3,h4,h5⟩
  ·simp at he
 obtain ⟨rfl,u,hr,hv⟩:=key
 exact OpOK.same hH (u:=u) (by simp [execOp,hop,hr]) hv
theorem snd_mv {x:Operand} {sx:S} (hop:o.op = .move x ∨ o.op = .assign x) (hx:opL x = some sx) (ht:TRel ρ w τ a N) (hH:HRel ρ H w)
  (he:runI T (.mv sx) τ H (fun v H => some (v,H)) = some (v,H')):OpOK P o a m ρ H w v H':=by
 simp only [runI,Option.some.injEq,Prod.mk.injEq] at he
 obtain ⟨rfl,rfl⟩:=he
 refine OpOK.same hH (u:=a.eval x) ?_ (opL_rel ht hx)
 rcases hop with h | h <;> simp [execOp,h]
theorem zGn {c x y:Operand} {sc sx sy:S} (hop:o.op = .pick c x y) (hc:opL c = some sc) (hx:opL x = some sx) (hy:opL y = some sy) (ht:TRel ρ w τ a N) (hH:HRel ρ H w)
  (he:runI T (.pick sc sx sy) τ H (fun v H => some (v,H)) = some (v,H')):OpOK P o a m ρ H w v H':=by
 have vc:=opL_rel ht hc
 have vx:=opL_rel ht hx
 have vy:=opL_rel ht hy
 simp only [runI] at he
 split at he
 ·rename_i b e
  rw [e] at vc
  simp only [VRel] at vc
  have key:H' = H ∧ VRel ρ w v (if b = true then a.eval x else a.eval y):=by
   split at he
   ·rename_i p q e1 e2
    simp at he; obtain ⟨rfl,rfl⟩:=he
    rw [e1] at vx; rw [e2] at vy
    cases b
    ·exact ⟨rfl,vy⟩
    ·exact ⟨rfl,vx⟩
   ·rcases zg he with ⟨rfl,he⟩ | ⟨rfl,he⟩
    ·simp at he; obtain ⟨rfl,rfl⟩:=he; exact ⟨rfl,vx⟩
    ·simp at he; obtain ⟨rfl,rfl⟩:=he; exact ⟨rfl,vy⟩
  obtain ⟨rfl,hv⟩:=key
  refine OpOK.same hH ?_ hv
  simp [execOp,hop,vc,asBool]
 ·simp at he
theorem zGo {x:Operand} {sx:S} (hop:o.op = .nilCheck x) (hx:opL x = some sx) (ht:TRel ρ w τ a N) (hH:HRel ρ H w)
  (he:runI T (.nilck sx) τ H (fun v H => some (v,H)) = some (v,H')):OpOK P o a m ρ H w v H':=by
 have vx:=opL_rel ht hx
 have key:H' = H ∧ VRel ρ w v (a.eval x) ∧ ((∃ ad,a.eval x = .pointer (some ad)) ∨ ∃ f p q,a.eval x = .func (.func f) p q):=by
  simp only [runI] at he
  split at he
  ·rename_i b off e
   simp at he; obtain ⟨rfl,rfl⟩:=he
   rw [e] at vx
   refine ⟨rfl,vx,.inl ?_⟩
   simp only [VRel] at vx
   rcases hr:ρ b with _ | _ | _ | ⟨b',o',n,sz⟩ <;> rw [hr] at vx <;> simp only at vx
   ·exact vx
   ·exact ⟨_,vx⟩
  ·rename_i b i j e
   simp at he; obtain ⟨rfl,rfl⟩:=he
   rw [e] at vx
   refine ⟨rfl,vx,.inl ?_⟩
   simp only [VRel] at vx
   rcases hr:ρ b with _ | _ | _ | ⟨b',o',n,sz⟩ <;> rw [hr] at vx <;> simp only at vx
   ·exact vx
   ·exact ⟨_,vx⟩
  ·rename_i K y j e
   simp at he; obtain ⟨rfl,rfl⟩:=he
   rw [e] at vx
   refine ⟨rfl,vx,.inl ?_⟩
   simp only [VRel] at vx
   obtain ⟨ad,_,h,_⟩:=vx
   exact ⟨_,h⟩
  ·rename_i f p q e
   simp at he; obtain ⟨rfl,rfl⟩:=he
   rw [e] at vx
   refine ⟨rfl,vx,.inr ?_⟩
   simp only [VRel] at vx
   obtain ⟨vf,vc,h,_⟩:=vx
   exact ⟨_,_,_,h⟩
  ·simp at he
 obtain ⟨rfl,hv,h⟩:=key
 refine OpOK.same hH ?_ hv
 rcases h with ⟨ad,h⟩ | ⟨f,p,q,h⟩ <;> simp [execOp,hop,h]
theorem zvu {t:TypeId} {i:TypeInfo} {ag:Bool} {cs:List SV} {vs:Array Value} {off:Nat} (hi:P.info? t = some i) (ha:isAggL P t = some ag) (h1':ag = false → i.size = 1)
  (hcs:VRels ρ w cs vs.toList) (h1:ag = false → cs[off]? = some v) (h2:ag = true → off + i.size ≤ cs.length ∧ v = .agg ((cs.drop off).take i.size)) :
  ∃ u,(part t vs off).run P w = .ok u w ∧ VRel ρ w v u:=by
 unfold part
 simp only [Sem.run_bind,zeE ha,Result.andThen_ok]
 cases ag with
 | false =>
  obtain ⟨u,hu,hr⟩:=hcs.get off v (h1 rfl)
  rw [Array.getElem?_toList] at hu
  exact ⟨u,by simp [hu],hr⟩
 | true =>
  obtain ⟨hle,rfl⟩:=h2 rfl
  have hs:=(hcs.split (n:=off)).2.split (n:=i.size)
  have hlen:=hcs.length
  simp only [Array.length_toList] at hlen
  refine ⟨.agg (vs.extract off (off + i.size)),by simp [zm hi],?_⟩
  simp only [VRel]
  refine ⟨_,rfl,?_⟩
  have:(vs.extract off (off + i.size)).toList = (vs.toList.drop off).take i.size:=by
   rw [Array.toList_extract,List.extract_eq_take_drop]
   congr 1; omega
  rw [this]; exact hs.1
theorem snd_fld {s:TypeId} {fs:Array Field} {f:Nat} {fd:Field} {j:TypeInfo} {ag:Bool} {x:Operand} {sx:S} (hop:o.op = .field s x f) (hs:P.underlying s = some (.struct fs)) (hf:fs[f]? = some fd)
  (hj:P.info? fd.type = some j) (ha:isAggL P fd.type = some ag) (h0:ag = false → j.size = 1) (hx:opL x = some sx) (ht:TRel ρ w τ a N) (hH:HRel ρ H w)
  (he:runI T (.fld fd.offset j.size ag sx) τ H (fun v H => some (v,H)) = some (v,H')):OpOK P o a m ρ H w v H':=by
 have hv:=opL_rel ht hx
 simp only [runI] at he
 split at he
 ·rename_i cs e
  rw [e] at hv
  simp only [VRel] at hv
  obtain ⟨vs,hu,hcs⟩:=hv
  obtain ⟨v',hk,h1,h2⟩:=zay he
  simp at hk; obtain ⟨rfl,rfl⟩:=hk
  obtain ⟨u,hr,hv⟩:=zvu hj ha h0 hcs h1 h2
  refine OpOK.same hH (u:=u) ?_ hv
  simp [execOp,hop,hu,Instr.field,run_underlying hs,hf,asAgg,hr]
 ·simp at he
theorem snd_ext {x:Operand} {sx:S} {j:Nat} (hop:o.op = .extract x j) (hx:opL x = some sx) (ht:TRel ρ w τ a N) (hH:HRel ρ H w)
  (he:runI T (.ext j sx) τ H (fun v H => some (v,H)) = some (v,H')):OpOK P o a m ρ H w v H':=by
 have hv:=opL_rel ht hx
 simp only [runI] at he
 split at he
 ·rename_i cs e
  rw [e] at hv
  simp only [VRel] at hv
  obtain ⟨vs,hu,hcs⟩:=hv
  split at he
  ·rename_i v' hc
   simp at he; obtain ⟨rfl,rfl⟩:=he
   obtain ⟨u,h1,h2⟩:=hcs.get _ _ hc
   rw [Array.getElem?_toList] at h1
   refine OpOK.same hH (u:=u) ?_ h2
   simp [execOp,hop,hu,Instr.extract,h1]
  ·simp at he
 ·simp at he
theorem zio {t e:TypeId} {j:TypeInfo} {k:IntKind} {n:Int} {ad:Addr} {len c:Nat} (hu:P.underlying t = some (.slice e)) (hj:P.info? e = some j) (h0:0 ≤ n) (h1:n < (len:Int)) :
  (Instr.indexAt t (.slice (some ad) len c) (.int k n)).run P w = .ok (.pointer (some (ad.add (n.toNat * j.size)))) w:=by
 simp [Instr.indexAt,asIntOf,run_underlying hu,h0,h1,zm hj]
theorem zvv {t e:TypeId} {j:TypeInfo} {k:IntKind} {n:Int} {ad:Addr} {len:Nat} (hu:P.underlying t = some (.array len e)) (hj:P.info? e = some j) (h0:0 ≤ n) (h1:n < (len:Int)) :
  (Instr.indexAt t (.pointer (some ad)) (.int k n)).run P w = .ok (.pointer (some (ad.add (n.toNat * j.size)))) w:=by
 simp [Instr.indexAt,asIntOf,run_underlying hu,Instr.sureAddr,h0,h1,zm hj]
theorem own_rel {β:Nat} {u:Value} {x:Blk} (hH:HRel ρ H w) (hb:H[β]? = some x) (hx:x ≠ .dead) (h:VRel ρ w (.own β) u) :
  (ρ β = .none_ ∧ ∃ a,u = .slice a 0 0) ∨ ∃ b o n sz c,ρ β = .at b o n sz ∧ n ≤ c ∧ u = .slice (some ⟨b,o,none⟩) n c ∧ Room w b (o + c * sz):=by
 simp only [VRel] at h
 rcases hr:ρ β with _ | _ | _ | ⟨b,o,n,sz⟩ <;> rw [hr] at h <;> simp only at h
 ·exact absurd hr (live_of hH hb hx)
 ·exact .inl ⟨rfl,h⟩
 ·obtain ⟨c,h1,h2,h3⟩:=h
  exact .inr ⟨b,o,n,sz,c,rfl,h1,h2,h3⟩
theorem ziq {β:Nat} {K:Kd} {xs:List K.T} {t:TypeId} (hH:HRel ρ H w) (hb:H[β]? = some (.arr K xs t)) (hr:ρ β = .none_):xs = []:=by
 have hl:β < H.length:=(List.getElem?_eq_some_iff.1 hb).1
 rcases hH.none_ β hl hr with ⟨K',t',h1⟩ | ⟨t',z',h1⟩ | ⟨e,h1⟩
 ·rw [hb] at h1
  injection h1 with h1
  injection h1 with h2 h3 h4
  subst h2
  exact eq_of_heq h3
 ·rw [hb] at h1; simp at h1
 ·rw [hb] at h1; simp at h1
theorem zpE {β:Nat} {d:Nat} {K:Kd} {xs:List K.T} {ex:Option (Nat × List SV)} (hH:HRel ρ H w) (hb:H[β]? = some (.tree d K xs ex)) (hr:ρ β = .none_):xs = []:=by
 rcases hH.none_ β (List.getElem?_eq_some_iff.1 hb).1 hr with ⟨K',t',h1⟩ | ⟨t',z',h1⟩ | ⟨d',e',h1⟩ <;> rw [hb] at h1 <;> cases h1
 rfl
theorem zcx {β:Nat} {cs:List SV} {t:TypeId} {z:Nat} (hH:HRel ρ H w) (hb:H[β]? = some (.cells cs t z)) (hr:ρ β = .none_):cs = []:=by
 have hl:β < H.length:=(List.getElem?_eq_some_iff.1 hb).1
 rcases hH.none_ β hl hr with ⟨K',t',h1⟩ | ⟨t',z',h1⟩ | ⟨e,h1⟩
 ·rw [hb] at h1; simp at h1
 ·rw [hb] at h1; simp at h1; exact h1.1
 ·rw [hb] at h1; simp at h1
theorem snd_ia {t e:TypeId} {j:TypeInfo} {x ix:Operand} {sx si:S} (hop:o.op = .indexAddr t x ix) (hu:P.underlying t = some (.slice e)) (hj:P.info? e = some j) (hx:opL x = some sx) (hi:opL ix = some si)
  (ht:TRel ρ w τ a N) (hH:HRel ρ H w) (he:runI T (.ia j.size sx si) τ H (fun v H => some (v,H)) = some (v,H')):OpOK P o a m ρ H w v H':=by
 have vx:=opL_rel ht hx
 have vi:=opL_rel ht hi
 have key:H' = H ∧ ∃ u,(Instr.indexAt t (a.eval x) (a.eval ix)).run P w = .ok u w ∧ VRel ρ w v u:=by
  simp only [runI,iaI] at he
  split at he
  ·rename_i k n ei
   rw [ei] at vi
   simp only [VRel] at vi
   rw [vi]
   split at he
   ·rename_i K xs ex
    rw [ex] at vx
    split at he
    ·rename_i hK
     obtain ⟨h0,he⟩:=za he
     obtain ⟨h1,he⟩:=za he
     simp at he h0 h1; obtain ⟨rfl,rfl⟩:=he
     simp only [VRel,CRel] at vx
     obtain ⟨a',c,e1,hc,hx'⟩:=vx
     simp at e1
     have hpos:0 < xs.length:=by omega
     obtain ⟨ad,rfl,hB,hel⟩:=hx' hpos
     have hn:n.toNat < xs.length:=by omega
     obtain ⟨es,h3,h4⟩:=hel n.toNat (xs.getD n.toNat K.dflt) (by simp [List.getD,List.getElem?_eq_getElem hn])
     rw [e1,zio hu hj h0 h1]
     refine ⟨rfl,_,rfl,?_⟩
     simp only [VRel]
     exact ⟨ad.add (n.toNat * j.size),es,by rw [add_add,Nat.add_zero],h3,by rw [zij]; exact hB,fun q u hq => by rw [add_add,← hK]; exact h4 q u hq⟩
    ·simp at he
   ·rename_i β ex
    rw [ex] at vx
    split at he
    ·rename_i K xs t' hb
     split at he
     ·rename_i hK
      obtain ⟨h0,he⟩:=za he
      obtain ⟨h1,he⟩:=za he
      simp at he h0 h1; obtain ⟨rfl,rfl⟩:=he
      rcases own_rel hH hb (by simp) vx with ⟨hr,_⟩ | ⟨b,o',n',sz,c,hr,hc,hv,hroom⟩
      ·have:=ziq hH hb hr; subst this; simp at h1; omega
      ·obtain ⟨hsz,hn,_⟩:=row_of hH hb hr
       rw [hv,zio hu hj h0 (by rw [← hn]; exact h1)]
       refine ⟨rfl,_,rfl,?_⟩
       simp only [VRel,hr]
       rw [zd,← hsz,hK]; rfl
     ·simp at he
    ·rename_i d K xs ex hb
     split at he
     ·rename_i hK
      obtain ⟨h0,he⟩:=za he
      obtain ⟨h1,he⟩:=za he
      simp at he h0 h1; obtain ⟨rfl,rfl⟩:=he
      rcases own_rel hH hb (by simp) vx with ⟨hr,_⟩ | ⟨b,o',n',sz,c,hr,hc,hv,hroom⟩
      ·have:=zpE hH hb hr; subst this; simp at h1; omega
      ·obtain ⟨hsz,hn,_⟩:=tree_of hH hb hr
       rw [hv,zio hu hj h0 (by rw [← hn]; exact h1)]
       refine ⟨rfl,_,rfl,?_⟩
       simp only [VRel,hr]
       rw [zd,← hsz,hK]; rfl
     ·simp at he
    ·rename_i cs t' z hb
     split at he
     ·rename_i hz
      obtain ⟨hz1,hz⟩:=hz
      obtain ⟨h0,he⟩:=za he
      obtain ⟨h1,he⟩:=za he
      simp at he h0; obtain ⟨rfl,rfl⟩:=he
      have h1:=of_decide_eq_true h1
      rcases own_rel hH hb (by simp) vx with ⟨hr,_⟩ | ⟨b,o',n',sz,c,hr,hc,hv,hroom⟩
      ·have:=zcx hH hb hr; subst this; simp at h1; omega
      ·obtain ⟨C,tC,_,hsz,hn,_⟩:=zL hH hb hr
       have hn':cs.length / j.size = n':=by rw [hn,← hsz,hz1]; exact Nat.mul_div_cancel _ (by omega)
       rw [hn'] at h1
       rw [hv,zio hu hj h0 h1]
       refine ⟨rfl,_,rfl,?_⟩
       simp only [VRel,hr]
       rw [zd]
     ·simp at he
    ·simp at he
   ·rename_i β off len ex
    rw [ex] at vx
    split at he
    ·rename_i K xs t' hb
     split at he
     ·rename_i hK
      obtain ⟨h0,he⟩:=za he
      obtain ⟨h1,he⟩:=za he
      simp at he h0 h1; obtain ⟨rfl,rfl⟩:=he
      simp only [VRel] at vx
      rcases hr:ρ β with _ | _ | _ | ⟨b,o',n',sz⟩ <;> rw [hr] at vx <;> simp only at vx
      ·exact absurd hr (live_of hH hb (by simp))
      ·obtain ⟨rfl,_⟩:=vx; simp at h1; omega
      ·obtain ⟨hle,a',c,hv,hc,h5⟩:=vx
       obtain ⟨hsz,hn,_⟩:=row_of hH hb hr
       rcases h5 with ⟨rfl,_⟩ | ⟨rfl,_⟩
       ·simp at h1; omega
       ·rw [hv,zio hu hj h0 h1]
        refine ⟨rfl,_,rfl,?_⟩
        simp only [VRel,hr]
        rw [zd,← hsz,hK,Nat.add_mul,Nat.add_assoc]; rfl
     ·simp at he
    ·simp at he
   ·simp at he
  ·simp at he
 obtain ⟨rfl,u,hr,hv⟩:=key
 exact OpOK.same hH (u:=u) (by simp [execOp,hop,hr]) hv
theorem snd_iar {t e:TypeId} {j:TypeInfo} {len:Nat} {x ix:Operand} {sx si:S} (hop:o.op = .indexAddr t x ix) (hu:P.underlying t = some (.array len e)) (hj:P.info? e = some j) (hx:opL x = some sx) (hi:opL ix = some si)
  (ht:TRel ρ w τ a N) (hH:HRel ρ H w) (he:runI T (.iar len j.size sx si) τ H (fun v H => some (v,H)) = some (v,H')):OpOK P o a m ρ H w v H':=by
 have vx:=opL_rel ht hx
 have vi:=opL_rel ht hi
 have key:H' = H ∧ ∃ u,(Instr.indexAt t (a.eval x) (a.eval ix)).run P w = .ok u w ∧ VRel ρ w v u:=by
  simp only [runI,iarI] at he
  split at he
  ·rename_i k n ei
   rw [ei] at vi
   simp only [VRel] at vi
   rw [vi]
   split at he
   ·rename_i β off ex
    rw [ex] at vx
    split at he
    ·rename_i K xs t' hb
     split at he
     ·split at he
      ·rename_i hK
       obtain ⟨h0,he⟩:=za he
       obtain ⟨h1,he⟩:=za he
       simp at he h0 h1; obtain ⟨rfl,rfl⟩:=he
       obtain ⟨b,o',n',sz,hr,hv⟩:=ptr_rel hH hb (by simp) vx
       obtain ⟨hsz,hn,_⟩:=row_of hH hb hr
       rw [hv,zvv hu hj h0 h1]
       refine ⟨rfl,_,rfl,?_⟩
       simp only [VRel,hr]
       rw [zd,← hsz,hK]; rfl
      ·simp at he
     ·simp at he
    ·rename_i cs t' z hb
     obtain ⟨h0,he⟩:=za he
     obtain ⟨h1,he⟩:=za he
     simp at he h0 h1; obtain ⟨rfl,rfl⟩:=he
     obtain ⟨b,o',n',sz,hr,hv⟩:=ptr_rel hH hb (by simp) vx
     rw [hv,zvv hu hj h0 h1]
     refine ⟨rfl,_,rfl,?_⟩
     simp only [VRel,hr]
     rw [zd,Nat.add_assoc]
    ·simp at he
   ·simp at he
  ·simp at he
 obtain ⟨rfl,u,hr,hv⟩:=key
 exact OpOK.same hH (u:=u) (by simp [execOp,hop,hr]) hv
theorem snd_ixa {t e:TypeId} {j:TypeInfo} {len:Nat} {ag:Bool} {x ix:Operand} {sx si:S} (hop:o.op = .index t x ix) (hu:P.underlying t = some (.array len e)) (hj:P.info? e = some j) (ha:isAggL P e = some ag)
  (hs1:ag = false → j.size = 1) (hx:opL x = some sx) (hi:opL ix = some si)
  (ht:TRel ρ w τ a N) (hH:HRel ρ H w) (he:runI T (.ixa len j.size ag sx si) τ H (fun v H => some (v,H)) = some (v,H')):OpOK P o a m ρ H w v H':=by
 have vx:=opL_rel ht hx
 have vi:=opL_rel ht hi
 have key:H' = H ∧ ∃ u,(Instr.index t (a.eval x) (a.eval ix)).run P w = .ok u w ∧ VRel ρ w v u:=by
  simp only [runI,ixaI] at he
  split at he
  ·rename_i k n ei
   rw [ei] at vi
   simp only [VRel] at vi
   rw [vi]
   split at he
   ·rename_i K xs ex
    rw [ex] at vx
    split at he
    ·rename_i hK
     obtain ⟨h0,he⟩:=za he
     obtain ⟨h1,he⟩:=za he
     obtain ⟨h2,he⟩:=za he
     simp at h0 h1 h2
     obtain ⟨v',hk,h3,h4⟩:=zay he
     simp at hk; obtain ⟨rfl,rfl⟩:=hk
     simp only [VRel] at vx
     obtain ⟨vs,hv,hsz,hel⟩:=vx
     have hn:n.toNat < xs.length:=by omega
     obtain ⟨es,h5,h6⟩:=hel n.toNat (xs.getD n.toNat K.dflt) (by simp [List.getD,List.getElem?_eq_getElem hn])
     have hes:=enc_rel h5
     have hidx:Instr.index t (.agg vs) (.int k n) = Instr.index t (.agg vs) (.int k n):=rfl
     rw [hv]
     simp only [Instr.index,asIntOf,Sem.run_bind,Sem.run_pure,Result.andThen_ok,run_underlying hu,zm hj]
     rw [if_pos ⟨h0,h1⟩]
     simp only [Sem.run_bind,zm hj,Result.andThen_ok]
     refine ⟨by first | rfl | trivial,?_⟩
     unfold part
     simp only [Sem.run_bind,zeE ha,Result.andThen_ok]
     cases ag with
     | false =>
      obtain ⟨u,h7,h8⟩:=hes.get 0 v' (h3 rfl)
      have:=h6 0 u h7
      rw [Nat.add_zero,hK] at this
      exact ⟨u,by simp [this],h8⟩
     | true =>
      obtain ⟨h9,rfl⟩:=h4 rfl
      have hel':(enc K (xs.getD n.toNat K.dflt)).length = j.size:=by rw [zpB,hK]
      refine ⟨.agg (vs.extract (n.toNat * j.size) (n.toNat * j.size + j.size)),by simp [zm hj],?_⟩
      simp only [VRel]
      refine ⟨_,rfl,?_⟩
      have hle:(n.toNat + 1) * j.size ≤ xs.length * j.size:=Nat.mul_le_mul_right _ hn
      rw [Nat.add_mul,Nat.one_mul] at hle
      have hex:(vs.extract (n.toNat * j.size) (n.toNat * j.size + j.size)).toList = es:=by
       apply List.ext_getElem?
       intro q
       rw [Array.toList_extract,List.extract_eq_take_drop,List.getElem?_take]
       have hlen:=h5.length
       by_cases hq:q < j.size
       ·rw [if_pos (by omega),List.getElem?_drop,Array.getElem?_toList]
        have hqe:q < es.length:=by omega
        have:=h6 q es[q] (List.getElem?_eq_getElem hqe)
        rw [hK] at this
        rw [this,List.getElem?_eq_getElem hqe]
       ·rw [if_neg (by omega),List.getElem?_eq_none (by omega)]
      rw [hex,List.drop_zero,List.take_of_length_le (by omega)]
      exact hes
    ·simp at he
   ·rename_i cs ex
    rw [ex] at vx
    obtain ⟨h0,he⟩:=za he
    obtain ⟨h1,he⟩:=za he
    simp at h0 h1
    obtain ⟨v',hk,h3,h4⟩:=zay he
    simp at hk; obtain ⟨rfl,rfl⟩:=hk
    simp only [VRel] at vx
    obtain ⟨vs,hv,hcs⟩:=vx
    rw [hv]
    simp only [Instr.index,asIntOf,Sem.run_bind,Sem.run_pure,Result.andThen_ok,run_underlying hu]
    rw [if_pos ⟨h0,h1⟩]
    simp only [Sem.run_bind,zm hj,Result.andThen_ok]
    exact ⟨by first | rfl | trivial,zvu hj ha hs1 hcs h3 h4⟩
   ·simp at he
  ·simp at he
 obtain ⟨rfl,u,hr,hv⟩:=key
 exact OpOK.same hH (u:=u) (by simp [execOp,hop,hr]) hv
end
end Go.Proofs.YtljojacnjjgceaaGreat.Den
namespace Go.Proofs.YtljojacnjjgceaaGreat.Den
open Go Go.RowKit
section
variable {w w':World} {ρ ρ':Map} {H H':Heap} {B:Nat → Prop}
theorem TreeC.of0:∀ {K:Kd} {x:K.T} {cs:List Value},CRel w B K x cs → TreeC w B K 0 x cs []
 | .int _,_,_,h => ⟨h,rfl⟩
 | .bool,_,_,h => ⟨h,rfl⟩
 | .unit,_,_,h => ⟨h,rfl⟩
 | .pair a b,x,cs,h => by
  simp only [CRel] at h
  obtain ⟨c1,c2,rfl,h1,h2⟩:=h
  exact ⟨c1,c2,[],[],rfl,rfl,TreeC.of0 h1,TreeC.of0 h2⟩
 | .list e,_,_,h => ⟨h,rfl⟩
theorem TreeC.ofNL:∀ {K:Kd} {d:Nat} {x:K.T} {cs:List Value},K.noList = true → CRel w B K x cs → TreeC w B K d x cs []
 | .int _,_,_,_,_,h => ⟨h,rfl⟩
 | .bool,_,_,_,_,h => ⟨h,rfl⟩
 | .unit,_,_,_,_,h => ⟨h,rfl⟩
 | .pair a b,d,x,cs,hn,h => by
  simp only [Kd.noList,Bool.and_eq_true] at hn
  simp only [CRel] at h
  obtain ⟨c1,c2,rfl,h1,h2⟩:=h
  exact ⟨c1,c2,[],[],rfl,rfl,TreeC.ofNL hn.1 h1,TreeC.ofNL hn.2 h2⟩
 | .list e,_,_,_,hn,_ => by simp [Kd.noList] at hn
theorem TreeC.to0:∀ {K:Kd} {x:K.T} {cs:List Value} {tk:List Nat},TreeC w B K 0 x cs tk → CRel w B K x cs ∧ tk = []
 | .int _,_,_,_,h => h
 | .bool,_,_,_,h => h
 | .unit,_,_,_,h => h
 | .pair a b,x,cs,tk,h => by
  simp only [TreeC] at h
  obtain ⟨c1,c2,t1,t2,rfl,rfl,h3,h4⟩:=h
  obtain ⟨h5,rfl⟩:=h3.to0
  obtain ⟨h6,rfl⟩:=h4.to0
  exact ⟨⟨c1,c2,rfl,h5,h6⟩,rfl⟩
 | .list e,_,_,_,h => h
theorem TreeC.monoB {B':Nat → Prop} (hB:∀ b,B b → B' b) {K:Kd} {d:Nat} {x:K.T} {cs:List Value} {tk:List Nat} (h:TreeC w B K d x cs tk):TreeC w B' K d x cs tk :=
 h.keep (fun _ _ _ hc => CRel.mono hB (fun _ _ => rfl) hc) fun _ _ => rfl
theorem SeqL.len {α:Type} {P:α → List Value → List Nat → Prop} {sz:Nat} (hP:∀ x c t,P x c t → c.length = sz):∀ {xs:List α} {us:List Value} {tk:List Nat},SeqL P xs us tk → us.length = xs.length * sz
 | [],_,_,h => by simp only [SeqL] at h; simp [h.1]
 | x :: xs,us,tk,h => by
  simp only [SeqL] at h
  obtain ⟨c,us',t1,t2,rfl,rfl,h3,h4⟩:=h
  simp only [List.length_append,List.length_cons,hP _ _ _ h3,SeqL.len hP h4,Nat.add_mul]; omega
theorem SeqL.append {α:Type} {P:α → List Value → List Nat → Prop}:∀ {xs ys:List α} {us vs:List Value} {s t:List Nat},SeqL P xs us s → SeqL P ys vs t → SeqL P (xs ++ ys) (us ++ vs) (s ++ t)
 | [],ys,us,vs,s,t,h,h2 => by simp only [SeqL] at h; obtain ⟨rfl,rfl⟩:=h; exact h2
 | x :: xs,ys,us,vs,s,t,h,h2 => by
  simp only [SeqL] at h
  obtain ⟨c,us',t1,t2,rfl,rfl,h3,h4⟩:=h
  simp only [List.cons_append,SeqL]
  exact ⟨c,us' ++ vs,t1,t2 ++ t,by simp,by simp,h3,SeqL.append h4 h2⟩
theorem SeqL.of_rows {e:Kd}:∀ {xs:List e.T} {C:Array Value} {o:Nat},RowRel w B e xs C o → o + xs.length * e.sz ≤ C.size → SeqL (TreeC w B e 0) xs ((C.toList.drop o).take (xs.length * e.sz)) []
 | [],C,o,_,_ => by simp [SeqL]
 | x :: xs,C,o,h,hle => by
  simp only [List.length_cons,Nat.add_mul,Nat.one_mul] at hle ⊢
  obtain ⟨es,h1,h2⟩:=h 0 x rfl
  have hl:=h1.length
  have hes:(C.toList.drop o).take e.sz = es:=by
   refine List.ext_getElem? fun j => ?_
   rw [List.getElem?_take]
   split
   ·rename_i hj
    rw [List.getElem?_drop,Array.getElem?_toList]
    have h3:es[j]? = some (es[j]'(by omega)):=List.getElem?_eq_getElem (by omega)
    rw [h3,← h2 j _ h3]; congr 1; omega
   ·rw [List.getElem?_eq_none (by omega)]
  have ih:=SeqL.of_rows (xs:=xs) (C:=C) (o:=o + e.sz) (fun i y hy => by
   obtain ⟨es',h3,h4⟩:=h (i + 1) y (by simpa using hy)
   refine ⟨es',h3,fun j u hu => ?_⟩
   rw [← h4 j u hu]; congr 1; rw [Nat.add_mul,Nat.one_mul]; omega) (by omega)
  simp only [SeqL]
  refine ⟨es,_,[],[],?_,rfl,TreeC.of0 h1,ih⟩
  rw [show xs.length * e.sz + e.sz = e.sz + xs.length * e.sz by omega,List.take_add,hes,List.drop_drop]
theorem SeqL.rows {e:Kd} {xs:List e.T} {us:List Value} {tk:List Nat} {C:Array Value} {o:Nat} (h:SeqL (TreeC w B e 0) xs us tk) (hc:∀ (i:Nat) (v:Value),us[i]? = some v → C[o + i]? = some v):RowRel w B e xs C o:=fun i x hx => by
 obtain ⟨es,t,h1,_,h3⟩:=h.get (fun _ _ _ h => h.length) i x hx
 exact ⟨es,h1.to0.1,fun j u hu => by rw [Nat.add_assoc]; exact hc _ _ (h3 j u hu)⟩
def TreeF (w:World) (B:Nat → Prop):(K:Kd) → Nat → K.T → List Value → List (Nat × List Nat) → Prop
 | .int k,_,n,cs,ps => cs = [.int k n] ∧ ps = []
 | .bool,_,b,cs,ps => cs = [.bool b] ∧ ps = []
 | .unit,_,_,cs,ps => cs = [] ∧ ps = []
 | .pair a b,d,x,cs,ps => ∃ c1 c2 p1 p2,cs = c1 ++ c2 ∧ ps = p1 ++ p2 ∧ TreeF w B a d x.1 c1 p1 ∧ TreeF w B b d x.2 c2 p2
 | .list e,d,xs,cs,ps => match d with
  | 0 => CRel w B (.list e) xs cs ∧ ps = []
  | d + 1 => (∃ a,cs = [.slice a 0 0] ∧ xs = [] ∧ ps = []) ∨
   ∃ b o c C tC us t',ps = [(b,t')] ∧ cs = [.slice (some ⟨b,o,none⟩) xs.length c] ∧ xs.length ≤ c ∧ w.heap[b]? = some (.cells C tC (0,0)) ∧ o + c * e.sz ≤ C.size ∧ us.length = xs.length * e.sz ∧
    (∀ (i:Nat) (v:Value),us[i]? = some v → C[o + i]? = some v) ∧ SeqL (TreeC w B e d) xs us t'
def flatF (ps:List (Nat × List Nat)):List Nat:=ps.flatMap fun p => p.1 :: p.2
theorem zk {a b:List (Nat × List Nat)}:flatF (a ++ b) = flatF a ++ flatF b:=by simp [flatF]
theorem zC {ps:List (Nat × List Nat)} {b:Nat}:b ∈ flatF ps ↔ ∃ p ∈ ps,b = p.1 ∨ b ∈ p.2:=by simp [flatF]
theorem TreeF.toC:∀ {K:Kd} {d:Nat} {x:K.T} {cs:List Value} {ps:List (Nat × List Nat)},TreeF w B K d x cs ps → TreeC w B K d x cs (flatF ps)
 | .int k,_,_,_,_,h => by rw [h.2]; exact ⟨h.1,rfl⟩
 | .bool,_,_,_,_,h => by rw [h.2]; exact ⟨h.1,rfl⟩
 | .unit,_,_,_,_,h => by rw [h.2]; exact ⟨h.1,rfl⟩
 | .pair a b,d,x,cs,ps,h => by
  simp only [TreeF] at h
  obtain ⟨c1,c2,p1,p2,rfl,rfl,h3,h4⟩:=h
  exact ⟨c1,c2,_,_,rfl,zk,h3.toC,h4.toC⟩
 | .list e,0,xs,cs,ps,h => by
  simp only [TreeF] at h
  rw [h.2]; exact ⟨h.1,rfl⟩
 | .list e,d + 1,xs,cs,ps,h => by
  simp only [TreeF] at h
  rcases h with ⟨a,rfl,rfl,rfl⟩ | ⟨b,o,c,C,tC,us,t',rfl,rfl,h2⟩
  ·exact .inl ⟨a,rfl,rfl,rfl⟩
  ·exact .inr ⟨b,o,c,C,tC,us,t',by simp [flatF],rfl,h2⟩
theorem TreeC.toF:∀ {K:Kd} {d:Nat} {x:K.T} {cs:List Value} {tk:List Nat},TreeC w B K d x cs tk → ∃ ps,TreeF w B K d x cs ps ∧ flatF ps = tk
 | .int k,_,_,_,_,h => ⟨[],⟨h.1,rfl⟩,h.2.symm⟩
 | .bool,_,_,_,_,h => ⟨[],⟨h.1,rfl⟩,h.2.symm⟩
 | .unit,_,_,_,_,h => ⟨[],⟨h.1,rfl⟩,h.2.symm⟩
 | .pair a b,d,x,cs,tk,h => by
  simp only [TreeC] at h
  obtain ⟨c1,c2,t1,t2,rfl,rfl,h3,h4⟩:=h
  obtain ⟨p1,h5,rfl⟩:=h3.toF
  obtain ⟨p2,h6,rfl⟩:=h4.toF
  exact ⟨p1 ++ p2,⟨c1,c2,p1,p2,rfl,rfl,h5,h6⟩,zk⟩
 | .list e,0,xs,cs,tk,h => by
  simp only [TreeC] at h
  exact ⟨[],⟨h.1,rfl⟩,h.2.symm⟩
 | .list e,d + 1,xs,cs,tk,h => by
  simp only [TreeC] at h
  rcases h with ⟨a,rfl,rfl,rfl⟩ | ⟨b,o,c,C,tC,us,t',rfl,rfl,h2⟩
  ·exact ⟨[],.inl ⟨a,rfl,rfl,rfl⟩,rfl⟩
  ·exact ⟨[(b,t')],.inr ⟨b,o,c,C,tC,us,t',rfl,rfl,h2⟩,by simp [flatF]⟩
theorem TreeF.length {K:Kd} {d:Nat} {x:K.T} {cs:List Value} {ps:List (Nat × List Nat)} (h:TreeF w B K d x cs ps):cs.length = K.sz:=h.toC.length
def Agree (ρ:Map) (k:Nat) (ms:List Img):Prop:=∀ (i:Nat) (m:Img),ms[i]? = some m → ρ (k + i) = m
theorem Agree.split {ρ:Map} {k:Nat} {ms ms':List Img} (h:Agree ρ k (ms ++ ms')):Agree ρ k ms ∧ Agree ρ (k + ms.length) ms':=by
 refine ⟨fun i m hm => h i m (by rw [List.getElem?_append_left (List.getElem?_eq_some_iff.1 hm).1]; exact hm),fun i m hm => ?_⟩
 have:=h (ms.length + i) m (by rw [List.getElem?_append_right (by omega)]; simpa using hm)
 rw [← this]; congr 1; omega
def imgB:List Img → List Nat
 | [] => []
 | .at b _ _ _ :: ms => b :: imgB ms
 | _ :: ms => imgB ms
theorem zcy:∀ {a b:List Img},imgB (a ++ b) = imgB a ++ imgB b
 | [],b => rfl
 | .at _ _ _ _ :: a,b => by simp [imgB,zcy]
 | .unborn :: a,b => by simp [imgB,zcy]
 | .dead :: a,b => by simp [imgB,zcy]
 | .none_ :: a,b => by simp [imgB,zcy]
theorem zh:∀ {ms:List Img} {i b o n sz:Nat},ms[i]? = some (.at b o n sz) → b ∈ imgB ms
 | [],i,b,o,n,sz,h => by simp at h
 | m :: ms,0,b,o,n,sz,h => by simp at h; subst h; simp [imgB]
 | m :: ms,i + 1,b,o,n,sz,h => by
  have:=zh (ms:=ms) (i:=i) (by simpa using h)
  cases m <;> simp [imgB,this]
theorem zir:∀ {ms:List Img} {i j b o n sz o' n' sz':Nat},(imgB ms).Nodup → ms[i]? = some (.at b o n sz) → ms[j]? = some (.at b o' n' sz') → i = j
 | [],i,j,b,o,n,sz,o',n',sz',_,h,_ => by simp at h
 | m :: ms,i,j,b,o,n,sz,o',n',sz',hnd,h1,h2 => by
  have hms:(imgB ms).Nodup:=by cases m <;> simp [imgB] at hnd <;> first | exact hnd | exact hnd.2
  cases i with
  | zero =>
   cases j with
   | zero => rfl
   | succ j =>
    simp at h1 h2
    subst h1
    simp only [imgB,List.nodup_cons] at hnd
    exact absurd (zh h2) hnd.1
  | succ i =>
   cases j with
   | zero =>
    simp at h1 h2
    subst h2
    simp only [imgB,List.nodup_cons] at hnd
    exact absurd (zh h1) hnd.1
   | succ j =>
    simp at h1 h2
    rw [zir hms h1 h2]
def ChildAt (ρ:Map) (w:World) (x:Blk) (m:Img):Prop:=(m = .none_ ∧ x.empty) ∨ ∃ b o n sz,m = .at b o n sz ∧ BRel ρ w b o n sz x
theorem zmf {d:Nat} {e:Kd}:(childB d e []).empty:=by
 cases d with
 | zero => exact .inl ⟨e,0,rfl⟩
 | succ d => exact .inr (.inr ⟨_,e,rfl⟩)
theorem zis {e:Kd} {d:Nat} {xs:List e.T} {b o:Nat} {C:Array Value} {tC:TypeId} {us:List Value} {t':List Nat} (hC:w.heap[b]? = some (.cells C tC (0,0))) (hsz:o + xs.length * e.sz ≤ C.size) (hul:us.length = xs.length * e.sz)
  (hus:∀ (i:Nat) (v:Value),us[i]? = some v → C[o + i]? = some v) (h:SeqL (TreeC w (Free ρ w) e d) xs us t') (hnd:t'.Nodup) (hv:∀ b' ∈ t',ρ.vl b' = some b):BRel ρ w b o xs.length e.sz (childB d e xs):=by
 cases d with
 | zero =>
  simp only [childB,BRel]
  exact ⟨trivial,trivial,C,tC,hC,hsz,h.rows hus⟩
 | succ d =>
  simp only [childB,BRel]
  exact ⟨trivial,trivial,C,tC,us,t',hC,hsz,hul,hus,SeqL.toX.1 h,hnd,hv,by simp⟩
theorem TreeF.ent:∀ {K:Kd} {d:Nat} {x:K.T} {us:List Value} {ps:List (Nat × List Nat)},TreeF w B K d x us ps → (flatF ps).Nodup → ∀ k,∃ ms:List Img,ms.length = (expl K d x k).2.length ∧ imgB ms = ps.map Prod.fst ∧
  ∀ ρ:Map,(∀ b,B b → Free ρ w b) → Agree ρ k ms → (∀ p ∈ ps,∀ b ∈ p.2,ρ.vl b = some p.1) → VRels ρ w (expl K d x k).1 us ∧ ∀ (i:Nat) (x':Blk) (m:Img),(expl K d x k).2[i]? = some x' → ms[i]? = some m → ChildAt ρ w x' m
 | .int _,d,x,us,ps,h,_,k => ⟨[],rfl,by rw [h.2]; rfl,fun ρ _ _ _ => ⟨by rw [h.1]; simp only [expl]; exact ⟨_,_,rfl,by simp only [VRel],by simp only [VRels]⟩,fun i x' m h => by simp [expl] at h⟩⟩
 | .bool,d,x,us,ps,h,_,k => ⟨[],rfl,by rw [h.2]; rfl,fun ρ _ _ _ => ⟨by rw [h.1]; simp only [expl]; exact ⟨_,_,rfl,by simp only [VRel],by simp only [VRels]⟩,fun i x' m h => by simp [expl] at h⟩⟩
 | .unit,d,x,us,ps,h,_,k => ⟨[],rfl,by rw [h.2]; rfl,fun ρ _ _ _ => ⟨by rw [h.1]; simp [expl,VRels],fun i x' m h => by simp [expl] at h⟩⟩
 | .pair a b,d,x,us,ps,h,hnd,k => by
  simp only [TreeF] at h
  obtain ⟨c1,c2,p1,p2,rfl,rfl,h3,h4⟩:=h
  rw [zk] at hnd
  obtain ⟨n1,n2,_⟩:=List.nodup_append.1 hnd
  obtain ⟨m1,g1,g2,g3⟩:=h3.ent n1 k
  obtain ⟨m2,k1,k2,k3⟩:=h4.ent n2 (k + (expl a d x.1 k).2.length)
  refine ⟨m1 ++ m2,by simp [expl,g1,k1],by rw [zcy,g2,k2,List.map_append],fun ρ hB ha hv => ?_⟩
  have ha2:=ha.split
  rw [g1] at ha2
  obtain ⟨g4,g5⟩:=g3 ρ hB ha2.1 fun p hp => hv p (List.mem_append.2 (.inl hp))
  obtain ⟨k4,k5⟩:=k3 ρ hB ha2.2 fun p hp => hv p (List.mem_append.2 (.inr hp))
  refine ⟨by simp only [expl]; exact g4.append k4,fun i x' m hx hm => ?_⟩
  simp only [expl] at hx
  rcases Nat.lt_or_ge i (expl a d x.1 k).2.length with hi | hi
  ·rw [List.getElem?_append_left hi] at hx
   rw [List.getElem?_append_left (by rw [g1]; exact hi)] at hm
   exact g5 i x' m hx hm
  ·rw [List.getElem?_append_right hi] at hx
   rw [List.getElem?_append_right (by rw [g1]; exact hi),g1] at hm
   exact k5 _ x' m hx hm
 | .list e,0,xs,us,ps,h,hnd,k => by
  simp only [TreeF] at h
  obtain ⟨h1,rfl⟩:=h
  refine ⟨[],rfl,rfl,fun ρ hB _ _ => ⟨?_,fun i x' m h => by simp [expl] at h⟩⟩
  exact enc_rel (K:=.list e) (CRel.mono hB (fun _ _ => rfl) h1)
 | .list e,d + 1,xs,us,ps,h,hnd,k => by
  simp only [TreeF] at h
  rcases h with ⟨a,rfl,rfl,rfl⟩ | ⟨b,o,c,C,tC,vs,t',rfl,rfl,h2,h3,h4,h5,h6,h7⟩
  ·refine ⟨[.none_],rfl,rfl,fun ρ _ ha _ => ⟨?_,fun i x' m hx hm => ?_⟩⟩
   ·have:=ha 0 _ rfl
    simp only [Nat.add_zero] at this
    simp only [expl,VRels,VRel,this]
    exact ⟨_,[],rfl,⟨a,rfl⟩,rfl⟩
   ·cases i with
    | zero =>
     simp [expl] at hx hm
     subst hx; subst hm
     exact .inl ⟨rfl,zmf⟩
    | succ i => simp [expl] at hx
  ·have hle:xs.length * e.sz ≤ c * e.sz:=Nat.mul_le_mul_right _ h2
   refine ⟨[.at b o xs.length e.sz],rfl,rfl,fun ρ hB ha hv => ⟨?_,fun i x' m hx hm => ?_⟩⟩
   ·have:=ha 0 _ rfl
    simp only [Nat.add_zero] at this
    simp only [expl,VRels,VRel,this]
    exact ⟨_,[],rfl,⟨c,h2,rfl,C,tC,h3,h4⟩,rfl⟩
   ·cases i with
    | zero =>
     simp [expl] at hx hm
     subst hx; subst hm
     simp [flatF] at hnd
     exact .inr ⟨_,_,_,_,rfl,zis h3 (by omega) h5 h6 (h7.mono fun _ _ _ _ _ h => h.monoB hB) hnd.2 fun b' hb' => hv (b,t') (by simp) b' hb'⟩
    | succ i => simp [expl] at hx
theorem zcz:∀ {ps:List (Nat × List Nat)},List.Sublist (ps.map Prod.fst) (flatF ps)
 | [] => .slnil
 | p :: ps => .cons_cons _ ((zcz (ps:=ps)).trans (List.sublist_append_right p.2 _))
def vlS (ps:List (Nat × List Nat)) (b:Nat):Option Nat:=(ps.find? fun p => p.2.contains b).map Prod.fst
theorem zGp {ps:List (Nat × List Nat)} {b:Nat} (h:∀ p ∈ ps,b ∉ p.2):vlS ps b = none:=by
 unfold vlS
 rw [List.find?_eq_none.2 (fun p hp => by simpa using h p hp)]; rfl
theorem zeF:∀ {ps:List (Nat × List Nat)} {p:Nat × List Nat} {b:Nat},(flatF ps).Nodup → p ∈ ps → b ∈ p.2 → vlS ps b = some p.1
 | [],p,b,_,h,_ => by cases h
 | q :: ps,p,b,hnd,hp,hb => by
  unfold vlS
  have hnd':(flatF ([q] ++ ps)).Nodup:=hnd
  rw [zk] at hnd'
  obtain ⟨_,n2,n3⟩:=List.nodup_append.1 hnd'
  rw [List.find?_cons]
  rcases List.mem_cons.1 hp with rfl | hp
  ·have:p.2.contains b = true:=by simpa using hb
   rw [this]; rfl
  ·have:q.2.contains b = false:=by
    cases hc:q.2.contains b
    ·rfl
    ·exfalso
     exact n3 b (zC.2 ⟨q,by simp,.inr (by simpa using hc)⟩) b (zC.2 ⟨p,hp,.inr hb⟩) rfl
   rw [this]
   exact zeF n2 hp hb
theorem vlS_mem {ps:List (Nat × List Nat)} {b t:Nat} (h:vlS ps b = some t):∃ p ∈ ps,b ∈ p.2 ∧ p.1 = t:=by
 unfold vlS at h
 obtain ⟨p,h1,h2⟩:=Option.map_eq_some_iff.1 h
 exact ⟨p,List.mem_of_find?_eq_some h1,by simpa using List.find?_some h1,h2⟩
theorem zit:∀ {ps:List (Nat × List Nat)} {b:Nat},(flatF ps).Nodup → b ∈ ps.map Prod.fst → vlS ps b = none
 | [],b,_,h => by cases h
 | q :: ps,b,hnd,h => by
  have hnd':(flatF ([q] ++ ps)).Nodup:=hnd
  rw [zk] at hnd'
  obtain ⟨n1,n2,n3⟩:=List.nodup_append.1 hnd'
  have hq:(q.1 :: q.2).Nodup:=by simpa [flatF] using n1
  refine zGp fun p hp hb => ?_
  simp only [List.map_cons,List.mem_cons] at h
  rcases List.mem_cons.1 hp with rfl | hp
  ·rcases h with rfl | h
   ·exact (List.nodup_cons.1 hq).1 hb
   ·obtain ⟨r,hr,rfl⟩:=List.mem_map.1 h
    exact n3 r.1 (zC.2 ⟨p,by simp,.inr hb⟩) r.1 (zC.2 ⟨r,hr,.inl rfl⟩) rfl
  ·rcases h with rfl | h
   ·exact n3 q.1 (zC.2 ⟨q,by simp,.inl rfl⟩) q.1 (zC.2 ⟨p,hp,.inr hb⟩) rfl
   ·have:=zit n2 h
    rw [zeF n2 hp hb] at this; cases this
theorem zpF (hH:HRel ρ H w) (hu:∀ γ,H.length ≤ γ → ρ γ = .unborn) {β b o n sz d i:Nat} {K:Kd} {xs:List K.T} (hb:H[β]? = some (.tree d K xs none)) (hr:ρ β = .at b o n sz) (hi:i < xs.length) :
  ∃ ρ',HRel ρ' (H.set β (.tree d K xs (some (i,(expl K d (xs.getD i K.dflt) H.length).1))) ++ (expl K d (xs.getD i K.dflt) H.length).2) w ∧ Step ρ w ρ' w ∧ (∀ γ,γ < H.length → ρ' γ = ρ γ) ∧
   ∀ γ,H.length + (expl K d (xs.getD i K.dflt) H.length).2.length ≤ γ → ρ' γ = .unborn:=by
 have hlt:β < H.length:=(List.getElem?_eq_some_iff.1 hb).1
 obtain ⟨y,h1,h2⟩:=hH.at_ β hlt _ _ _ _ hr
 rw [hb] at h1; simp only [Option.some.injEq] at h1; subst h1
 simp only [BRel] at h2
 obtain ⟨hn,hsz,C,tC,us,tk,hC,hle,hul,hus,hseq,hnd,hvl,-⟩:=h2
 have hx:xs[i]? = some (xs.getD i K.dflt):=by simp [List.getD,List.getElem?_eq_getElem hi]
 generalize xs.getD i K.dflt = x at hx
 obtain ⟨c,t1,t2,hc,hperm,hopen⟩:=hseq.open hx
 have hnd':=hperm.nodup_iff.1 hnd
 obtain ⟨nd1,nd2,nd3⟩:=List.nodup_append.1 hnd'
 have hm1:∀ b' ∈ t1,ρ.vl b' = some b:=fun b' h => hvl b' (hperm.mem_iff.2 (List.mem_append.2 (.inl h)))
 have hm2:∀ b' ∈ t2,ρ.vl b' = some b:=fun b' h => hvl b' (hperm.mem_iff.2 (List.mem_append.2 (.inr h)))
 obtain ⟨ps,hF,rfl⟩:=hc.toF
 obtain ⟨ms,hml,hmb,hent⟩:=hF.ent nd1 H.length
 let ρ':Map:=⟨fun γ => if γ < H.length then ρ γ else match ms[γ - H.length]? with | some m => m | none => ρ γ,ρ.res0,fun b' => if b' ∈ flatF ps then vlS ps b' else ρ.vl b'⟩
 have hold:∀ γ,γ < H.length → ρ' γ = ρ γ:=fun γ h => if_pos h
 have hroot:∀ b',b' ∈ imgB ms → b' ∈ flatF ps:=fun b' h => by
  rw [hmb] at h
  obtain ⟨p,hp,rfl⟩:=List.mem_map.1 h
  exact zC.2 ⟨p,hp,.inl rfl⟩
 have hcase:∀ {γ b' o' n' sz'},ρ' γ = .at b' o' n' sz' → (γ < H.length ∧ ρ γ = .at b' o' n' sz') ∨ (H.length ≤ γ ∧ ms[γ - H.length]? = some (.at b' o' n' sz')):=by
  intro γ b' o' n' sz' h
  by_cases hg:γ < H.length
  ·rw [hold γ hg] at h; exact .inl ⟨hg,h⟩
  ·simp only [ρ'] at h
   rw [if_neg hg] at h
   split at h
   ·rename_i m hm; subst h; exact .inr ⟨by omega,hm⟩
   ·rw [hu γ (by omega)] at h; cases h
 have hvl':∀ b' t,ρ'.vl b' = some t → ρ.vl b' ≠ none:=by
  intro b' t h
  simp only [ρ'] at h
  split at h
  ·rename_i hb'; rw [hm1 b' hb']; simp
  ·rw [h]; simp
 have hst:Step ρ w ρ' w:={
  os:=rfl,tape:=rfl,output:=rfl,size:=Nat.le_refl _,kept:=fun _ _ _ _ => rfl,shape:=fun _ C _ _ h => ⟨C,h,rfl⟩
  img:=fun γ b' o' n' sz' h => by
   rcases hcase h with ⟨_,h⟩ | ⟨_,h⟩
   ·exact .inl ⟨_,_,_,_,h⟩
   ·exact .inr (.inr (by rw [hm1 _ (hroot _ (zh h))]; simp))
  ref:=fun γ h => .inl (hold γ (by
   rcases Nat.lt_or_ge γ H.length with h2 | h2
   ·exact h2
   ·exact absurd (hu γ h2) h))
  res:=rfl
  vl:=fun b' t h => .inr (.inr (hvl' b' t h)) }
 have hag:Agree ρ' H.length ms:=fun j m hm => by
  simp only [ρ']
  rw [if_neg (by omega),show H.length + j - H.length = j by omega,hm]
 have hvs:∀ p ∈ ps,∀ b' ∈ p.2,ρ'.vl b' = some p.1:=fun p hp b' hb' => by
  simp only [ρ']
  rw [if_pos (zC.2 ⟨p,hp,.inr hb'⟩)]
  exact zeF nd1 hp hb'
 obtain ⟨hv1,hv2⟩:=hent ρ' (fun b' h => h.step hst) hag hvs
 refine ⟨ρ',?_,hst,hold,fun γ hγ => ?_⟩
 ·have hlen:(H.set β (Blk.tree d K xs (some (i,(expl K d x H.length).1)))).length = H.length:=by simp
  have hnew:∀ {γ},H.length ≤ γ → γ < H.length + (expl K d x H.length).2.length → ∃ x' m,(H.set β (Blk.tree d K xs (some (i,(expl K d x H.length).1))) ++ (expl K d x H.length).2)[γ]? = some x' ∧ ρ' γ = m ∧ ChildAt ρ' w x' m:=by
   intro γ g1 g2
   have e1:(expl K d x H.length).2[γ - H.length]? = some ((expl K d x H.length).2[γ - H.length]'(by omega)):=List.getElem?_eq_getElem (by omega)
   have e2:ms[γ - H.length]? = some (ms[γ - H.length]'(by omega)):=List.getElem?_eq_getElem (by omega)
   refine ⟨_,_,?_,?_,hv2 _ _ _ e1 e2⟩
   ·rw [List.getElem?_append_right (by rw [hlen]; exact g1),hlen]; exact e1
   ·simp only [ρ']; rw [if_neg (by omega),e2]
  constructor
  ·intro γ hl hd
   rw [List.length_append,hlen] at hl
   rcases Nat.lt_or_ge γ H.length with hg | hg
   ·rw [hold γ hg] at hd
    have:β ≠ γ:=by rintro rfl; rw [hr] at hd; cases hd
    rw [List.getElem?_append_left (by rw [hlen]; exact hg),List.getElem?_set_ne this]
    exact hH.dead γ hg hd
   ·obtain ⟨x',m,_,h4,h5⟩:=hnew hg hl
    rw [hd] at h4; subst h4
    rcases h5 with ⟨h5,_⟩ | ⟨_,_,_,_,h5,_⟩ <;> cases h5
  ·intro γ hl hd
   rw [List.length_append,hlen] at hl
   rcases Nat.lt_or_ge γ H.length with hg | hg
   ·rw [hold γ hg] at hd
    have:β ≠ γ:=by rintro rfl; rw [hr] at hd; cases hd
    rw [List.getElem?_append_left (by rw [hlen]; exact hg),List.getElem?_set_ne this]
    exact hH.none_ γ hg hd
   ·obtain ⟨x',m,h3,h4,h5⟩:=hnew hg hl
    rw [hd] at h4; subst h4
    rcases h5 with ⟨_,h5⟩ | ⟨_,_,_,_,h5,_⟩
    ·rw [h3]
     rcases h5 with ⟨K',t',rfl⟩ | ⟨t',z',rfl⟩ | ⟨d',e',rfl⟩
     ·exact .inl ⟨_,_,rfl⟩
     ·exact .inr (.inl ⟨_,_,rfl⟩)
     ·exact .inr (.inr ⟨_,_,rfl⟩)
    ·cases h5
  ·intro γ hl b' o' n' sz' hd
   rw [List.length_append,hlen] at hl
   rcases Nat.lt_or_ge γ H.length with hg | hg
   ·rw [hold γ hg] at hd
    rw [List.getElem?_append_left (by rw [hlen]; exact hg)]
    by_cases e:β = γ
    ·subst e
     rw [hr] at hd; injection hd with e1 e2 e3 e4
     subst e1; subst e2; subst e3; subst e4
     refine ⟨_,by simp [hlt]; rfl,?_⟩
     simp only [BRel]
     refine ⟨hn,hsz,C,tC,us,t2,hC,hle,hul,hus,?_,nd2,fun b' hb' => ?_,fun p hp => ?_⟩
     ·have:=hopen (ExRel ρ' w (some (i,(expl K d x H.length).1))) (fun p hp => by cases hp; exact hv1)
      exact this.mono (fun _ h => h) fun z _ c t ht h => h.monoB fun b' hb' => hb'.step hst
     ·simp only [ρ']
      rw [if_neg (fun h => nd3 b' h b' hb' rfl)]
      exact hm2 b' hb'
     ·cases hp
      exact ⟨by omega,by rw [hv1.length,hc.length,hsz]⟩
    ·rw [List.getElem?_set_ne e]
     obtain ⟨z,h3,h4⟩:=hH.at_ γ hg _ _ _ _ hd
     refine ⟨z,h3,h4.keep hst rfl fun b2 hb2 => ⟨rfl,?_⟩⟩
     simp only [ρ']
     rw [if_neg (fun h => ?_)]
     ·exact hb2
     ·have:=hm1 b2 h
      rw [hb2] at this
      simp only [Option.some.injEq] at this
      subst this
      exact e (hH.inj _ _ _ _ _ _ _ _ _ hr hd)
   ·obtain ⟨x',m,h3,h4,h5⟩:=hnew hg hl
    rw [hd] at h4; subst h4
    rcases h5 with ⟨h5,_⟩ | ⟨_,_,_,_,h5,h6⟩
    ·cases h5
    ·cases h5
     exact ⟨x',h3,h6⟩
  ·intro γ δ b' o1 n1 s1 o2 n2 s2 h3 h4
   rcases hcase h3 with ⟨g1,g2⟩ | ⟨g1,g2⟩ <;> rcases hcase h4 with ⟨k1,k2⟩ | ⟨k1,k2⟩
   ·exact hH.inj _ _ _ _ _ _ _ _ _ g2 k2
   ·exact absurd (.inr (by rw [hm1 _ (hroot _ (zh k2))]; simp)) (hH.resf _ _ _ _ _ g2)
   ·exact absurd (.inr (by rw [hm1 _ (hroot _ (zh g2))]; simp)) (hH.resf _ _ _ _ _ k2)
   ·have:=zir (by rw [hmb]; exact zcz.nodup nd1) g2 k2
    omega
  ·intro γ b' o' n' sz' h3
   rcases hcase h3 with ⟨_,g2⟩ | ⟨_,g2⟩
   ·exact hH.lt _ _ _ _ _ g2
   ·exact hH.vlt (hm1 _ (hroot _ (zh g2)))
  ·intro b' hb'
   rcases hb' with hb' | hb'
   ·exact hH.resl b' (.inl hb')
   ·cases hv:ρ'.vl b' with
    | none => exact absurd hv hb'
    | some t => exact hH.resl b' (.inr (hvl' b' t hv))
  ·intro γ b' o' n' sz' h3 h4
   rcases hcase h3 with ⟨_,g2⟩ | ⟨_,g2⟩
   ·rcases h4 with h4 | h4
    ·exact hH.resf _ _ _ _ _ g2 (.inl h4)
    ·cases hv:ρ'.vl b' with
     | none => exact h4 hv
     | some t => exact hH.resf _ _ _ _ _ g2 (.inr (hvl' b' t hv))
   ·have hmem:=zh g2
    rcases h4 with h4 | h4
    ·exact hH.vr _ _ (hm1 _ (hroot _ hmem)) h4
    ·apply h4
     simp only [ρ']
     rw [if_pos (hroot _ hmem)]
     exact zit nd1 (by rw [← hmb]; exact hmem)
  ·intro b' t h3 h4
   cases hv:ρ.vl b' with
   | none => exact hvl' b' t h3 hv
   | some t' => exact hH.vr _ _ hv h4
 ·simp only [ρ']
  rw [if_neg (by omega),List.getElem?_eq_none (by omega)]
  exact hu γ (by omega)
theorem zGq {ρ:Map} {w:World} {γ:Nat} (h:VRel ρ w (.own γ) (.slice none 0 0)) (a:Option Addr):VRel ρ w (.own γ) (.slice a 0 0):=by
 simp only [VRel] at h ⊢
 rcases hr:ρ γ with _ | _ | _ | ⟨b,o,n,sz⟩ <;> rw [hr] at h <;> simp only at h ⊢
 ·exact ⟨_,_,_,rfl⟩
 ·exact ⟨_,rfl⟩
 ·obtain ⟨c,_,h,_⟩:=h
  simp at h
theorem zGr (hH:HRel ρ H w) (hu:∀ γ,H.length ≤ γ → ρ γ = .unborn) {β b o n sz:Nat} {e:Kd} {f:Int → Int → List e.T} (p q:Int) (hb:H[β]? = some (.mapo e f none)) (hr:ρ β = .at b o n sz) :
  ∃ ρ',HRel ρ' (H.set β (.mapo e f (some (p,q,.own H.length))) ++ (expl (.list e) 1 (f p q) H.length).2) w ∧ Step ρ w ρ' w ∧ (∀ γ,γ < H.length → ρ' γ = ρ γ) ∧
   ∀ γ,H.length + (expl (.list e) 1 (f p q) H.length).2.length ≤ γ → ρ' γ = .unborn:=by
 have hlt:β < H.length:=(List.getElem?_eq_some_iff.1 hb).1
 obtain ⟨y,h1,h2⟩:=hH.at_ β hlt _ _ _ _ hr
 rw [hb] at h1; simp only [Option.some.injEq] at h1; subst h1
 simp only [BRel] at h2
 obtain ⟨hn,hsz,A,cc,es,tk,hC,hrel,hnk,hmz,hent0,hnd,hvl⟩:=h2
 have key:∃ (u:Value) (t1 t2:List Nat),TreeC w (Free ρ w) (.list e) 1 (f p q) [u] t1 ∧ tk.Perm (t1 ++ t2) ∧ (∀ R:Value → Prop,R u → EntO (fun p q u t => TreeC w (Free ρ w) (.list e) 1 (f p q) [u] t) (some (p,q)) R A.toList t2) ∧ ((∀ x ∈ A.toList,x.key ≠ keyV p q) → u = .slice none 0 0):=by
  by_cases hex:∃ x ∈ A.toList,x.key = keyV p q
  ·obtain ⟨x,t1,t2,g1,g2,g3,g4,g5⟩:=EntO.open hnk hex hent0
   exact ⟨x.val,t1,t2,g3,g4,g5,fun h => absurd g2 (h x g1)⟩
  ·have habs:∀ x ∈ A.toList,x.key ≠ keyV p q:=fun x hx hk => hex ⟨x,hx,hk⟩
   have hf:=(hmz p q habs).1 (by simp)
   refine ⟨.slice none 0 0,[],tk,by rw [hf]; simp only [TreeC]; exact .inl ⟨none,by simp⟩,.refl _,fun R hR => ?_,fun _ => rfl⟩
   exact EntO.away (op:=none) (p:=p) (q:=q) (fun a b hne => ⟨fun h => (by cases h),fun h => absurd (Option.some.inj h).symm hne⟩) (fun _ _ _ _ _ h => h) (fun h => (by cases h)) (.inr fun _ _ _ h => (by cases h)) habs hent0
 obtain ⟨u,t1,t2,hc,hperm,hopen,hzero⟩:=key
 have hnd':=hperm.nodup_iff.1 hnd
 obtain ⟨nd1,nd2,nd3⟩:=List.nodup_append.1 hnd'
 have hm1:∀ b' ∈ t1,ρ.vl b' = some b:=fun b' h => hvl b' (hperm.mem_iff.2 (List.mem_append.2 (.inl h)))
 have hm2:∀ b' ∈ t2,ρ.vl b' = some b:=fun b' h => hvl b' (hperm.mem_iff.2 (List.mem_append.2 (.inr h)))
 obtain ⟨ps,hF,rfl⟩:=hc.toF
 obtain ⟨ms,hml,hmb,hent⟩:=hF.ent nd1 H.length
 let ρ':Map:=⟨fun γ => if γ < H.length then ρ γ else match ms[γ - H.length]? with | some m => m | none => ρ γ,ρ.res0,fun b' => if b' ∈ flatF ps then vlS ps b' else ρ.vl b'⟩
 have hold:∀ γ,γ < H.length → ρ' γ = ρ γ:=fun γ h => if_pos h
 have hroot:∀ b',b' ∈ imgB ms → b' ∈ flatF ps:=fun b' h => by
  rw [hmb] at h
  obtain ⟨p,hp,rfl⟩:=List.mem_map.1 h
  exact zC.2 ⟨p,hp,.inl rfl⟩
 have hcase:∀ {γ b' o' n' sz'},ρ' γ = .at b' o' n' sz' → (γ < H.length ∧ ρ γ = .at b' o' n' sz') ∨ (H.length ≤ γ ∧ ms[γ - H.length]? = some (.at b' o' n' sz')):=by
  intro γ b' o' n' sz' h
  by_cases hg:γ < H.length
  ·rw [hold γ hg] at h; exact .inl ⟨hg,h⟩
  ·simp only [ρ'] at h
   rw [if_neg hg] at h
   split at h
   ·rename_i m hm; subst h; exact .inr ⟨by omega,hm⟩
   ·rw [hu γ (by omega)] at h; cases h
 have hvl':∀ b' t,ρ'.vl b' = some t → ρ.vl b' ≠ none:=by
  intro b' t h
  simp only [ρ'] at h
  split at h
  ·rename_i hb'; rw [hm1 b' hb']; simp
  ·rw [h]; simp
 have hst:Step ρ w ρ' w:={
  os:=rfl,tape:=rfl,output:=rfl,size:=Nat.le_refl _,kept:=fun _ _ _ _ => rfl,shape:=fun _ C _ _ h => ⟨C,h,rfl⟩
  img:=fun γ b' o' n' sz' h => by
   rcases hcase h with ⟨_,h⟩ | ⟨_,h⟩
   ·exact .inl ⟨_,_,_,_,h⟩
   ·exact .inr (.inr (by rw [hm1 _ (hroot _ (zh h))]; simp))
  ref:=fun γ h => .inl (hold γ (by
   rcases Nat.lt_or_ge γ H.length with h2 | h2
   ·exact h2
   ·exact absurd (hu γ h2) h))
  res:=rfl
  vl:=fun b' t h => .inr (.inr (hvl' b' t h)) }
 have hag:Agree ρ' H.length ms:=fun j m hm => by
  simp only [ρ']
  rw [if_neg (by omega),show H.length + j - H.length = j by omega,hm]
 have hvs:∀ p ∈ ps,∀ b' ∈ p.2,ρ'.vl b' = some p.1:=fun p hp b' hb' => by
  simp only [ρ']
  rw [if_pos (zC.2 ⟨p,hp,.inr hb'⟩)]
  exact zeF nd1 hp hb'
 obtain ⟨hv1,hv2⟩:=hent ρ' (fun b' h => h.step hst) hag hvs
 refine ⟨ρ',?_,hst,hold,fun γ hγ => ?_⟩
 ·have hlen:(H.set β (Blk.mapo e f (some (p,q,.own H.length)))).length = H.length:=by simp
  have hnew:∀ {γ},H.length ≤ γ → γ < H.length + (expl (.list e) 1 (f p q) H.length).2.length → ∃ x' m,(H.set β (Blk.mapo e f (some (p,q,.own H.length))) ++ (expl (.list e) 1 (f p q) H.length).2)[γ]? = some x' ∧ ρ' γ = m ∧ ChildAt ρ' w x' m:=by
   intro γ g1 g2
   have e1:(expl (.list e) 1 (f p q) H.length).2[γ - H.length]? = some ((expl (.list e) 1 (f p q) H.length).2[γ - H.length]'(by omega)):=List.getElem?_eq_getElem (by omega)
   have e2:ms[γ - H.length]? = some (ms[γ - H.length]'(by omega)):=List.getElem?_eq_getElem (by omega)
   refine ⟨_,_,?_,?_,hv2 _ _ _ e1 e2⟩
   ·rw [List.getElem?_append_right (by rw [hlen]; exact g1),hlen]; exact e1
   ·simp only [ρ']; rw [if_neg (by omega),e2]
  constructor
  ·intro γ hl hd
   rw [List.length_append,hlen] at hl
   rcases Nat.lt_or_ge γ H.length with hg | hg
   ·rw [hold γ hg] at hd
    have:β ≠ γ:=by rintro rfl; rw [hr] at hd; cases hd
    rw [List.getElem?_append_left (by rw [hlen]; exact hg),List.getElem?_set_ne this]
    exact hH.dead γ hg hd
   ·obtain ⟨x',m,_,h4,h5⟩:=hnew hg hl
    rw [hd] at h4; subst h4
    rcases h5 with ⟨h5,_⟩ | ⟨_,_,_,_,h5,_⟩ <;> cases h5
  ·intro γ hl hd
   rw [List.length_append,hlen] at hl
   rcases Nat.lt_or_ge γ H.length with hg | hg
   ·rw [hold γ hg] at hd
    have:β ≠ γ:=by rintro rfl; rw [hr] at hd; cases hd
    rw [List.getElem?_append_left (by rw [hlen]; exact hg),List.getElem?_set_ne this]
    exact hH.none_ γ hg hd
   ·obtain ⟨x',m,h3,h4,h5⟩:=hnew hg hl
    rw [hd] at h4; subst h4
    rcases h5 with ⟨_,h5⟩ | ⟨_,_,_,_,h5,_⟩
    ·rw [h3]
     rcases h5 with ⟨K',t',rfl⟩ | ⟨t',z',rfl⟩ | ⟨d',e',rfl⟩
     ·exact .inl ⟨_,_,rfl⟩
     ·exact .inr (.inl ⟨_,_,rfl⟩)
     ·exact .inr (.inr ⟨_,_,rfl⟩)
    ·cases h5
  ·intro γ hl b' o' n' sz' hd
   rw [List.length_append,hlen] at hl
   rcases Nat.lt_or_ge γ H.length with hg | hg
   ·rw [hold γ hg] at hd
    rw [List.getElem?_append_left (by rw [hlen]; exact hg)]
    by_cases eβ:β = γ
    ·subst eβ
     rw [hr] at hd; injection hd with e1 e2 e3 e4
     subst e1; subst e2; subst e3; subst e4
     refine ⟨_,by simp [hlt]; rfl,?_⟩
     simp only [BRel]
     refine ⟨hn,hsz,A,cc,es,t2,hC,hrel,hnk,fun p' q' hp' => ⟨fun h1 => (hmz p' q' hp').1 (by simp),fun v hv a => ?_⟩,?_,nd2,fun b' hb' => ?_⟩
     ·simp only [Option.some.injEq,Prod.mk.injEq] at hv
      obtain ⟨rfl,rfl,rfl⟩:=hv
      have hu0:=hzero hp'
      subst hu0
      obtain ⟨u1,us1,e1,k1,_⟩:=hv1
      cases e1
      exact zGq k1 a
     ·have:=hopen (ExM ρ' w (some (p,q,.own H.length))) (fun x hx => by
       simp only [Option.some.injEq] at hx
       subst hx
       obtain ⟨u1,us1,e1,k1,_⟩:=hv1
       cases e1
       exact k1)
      exact this.mono (fun _ h => h) fun a b u t ht h => h.monoB fun b' hb' => hb'.step hst
     ·simp only [ρ']
      rw [if_neg (fun h => nd3 b' h b' hb' rfl)]
      exact hm2 b' hb'
    ·rw [List.getElem?_set_ne eβ]
     obtain ⟨z,h3,h4⟩:=hH.at_ γ hg _ _ _ _ hd
     refine ⟨z,h3,h4.keep hst rfl fun b2 hb2 => ⟨rfl,?_⟩⟩
     simp only [ρ']
     rw [if_neg (fun h => ?_)]
     ·exact hb2
     ·have:=hm1 b2 h
      rw [hb2] at this
      simp only [Option.some.injEq] at this
      subst this
      exact eβ (hH.inj _ _ _ _ _ _ _ _ _ hr hd)
   ·obtain ⟨x',m,h3,h4,h5⟩:=hnew hg hl
    rw [hd] at h4; subst h4
    rcases h5 with ⟨h5,_⟩ | ⟨_,_,_,_,h5,h6⟩
    ·cases h5
    ·cases h5
     exact ⟨x',h3,h6⟩
  ·intro γ δ b' o1 n1 s1 o2 n2 s2 h3 h4
   rcases hcase h3 with ⟨g1,g2⟩ | ⟨g1,g2⟩ <;> rcases hcase h4 with ⟨k1,k2⟩ | ⟨k1,k2⟩
   ·exact hH.inj _ _ _ _ _ _ _ _ _ g2 k2
   ·exact absurd (.inr (by rw [hm1 _ (hroot _ (zh k2))]; simp)) (hH.resf _ _ _ _ _ g2)
   ·exact absurd (.inr (by rw [hm1 _ (hroot _ (zh g2))]; simp)) (hH.resf _ _ _ _ _ k2)
   ·have:=zir (by rw [hmb]; exact zcz.nodup nd1) g2 k2
    omega
  ·intro γ b' o' n' sz' h3
   rcases hcase h3 with ⟨_,g2⟩ | ⟨_,g2⟩
   ·exact hH.lt _ _ _ _ _ g2
   ·exact hH.vlt (hm1 _ (hroot _ (zh g2)))
  ·intro b' hb'
   rcases hb' with hb' | hb'
   ·exact hH.resl b' (.inl hb')
   ·cases hv:ρ'.vl b' with
    | none => exact absurd hv hb'
    | some t => exact hH.resl b' (.inr (hvl' b' t hv))
  ·intro γ b' o' n' sz' h3 h4
   rcases hcase h3 with ⟨_,g2⟩ | ⟨_,g2⟩
   ·rcases h4 with h4 | h4
    ·exact hH.resf _ _ _ _ _ g2 (.inl h4)
    ·cases hv:ρ'.vl b' with
     | none => exact h4 hv
     | some t => exact hH.resf _ _ _ _ _ g2 (.inr (hvl' b' t hv))
   ·have hmem:=zh g2
    rcases h4 with h4 | h4
    ·exact hH.vr _ _ (hm1 _ (hroot _ hmem)) h4
    ·apply h4
     simp only [ρ']
     rw [if_pos (hroot _ hmem)]
     exact zit nd1 (by rw [← hmb]; exact hmem)
  ·intro b' t h3 h4
   cases hv:ρ.vl b' with
   | none => exact hvl' b' t h3 hv
   | some t' => exact hH.vr _ _ hv h4
 ·simp only [ρ']
  rw [if_neg (by omega),List.getElem?_eq_none (by omega)]
  exact hu γ (by omega)
end
end Go.Proofs.YtljojacnjjgceaaGreat.Den
namespace Go.Proofs.YtljojacnjjgceaaGreat.Den
open Go Go.RowKit
section
variable {w w':World} {ρ ρ':Map} {H H':Heap} {B:Nat → Prop}
def Tok (ρ:Map) (ids:List Nat) (b:Nat):Prop:=∃ γ ∈ ids,∃ b0 o n sz,ρ γ = .at b0 o n sz ∧ (b = b0 ∨ ρ.vl b = some b0)
theorem Tok.sub {ids ids':List Nat} {b:Nat} (h:Tok ρ ids b) (hs:∀ γ ∈ ids,γ ∈ ids'):Tok ρ ids' b:=by
 obtain ⟨γ,h1,h2⟩:=h
 exact ⟨γ,hs γ h1,h2⟩
theorem Tok.ours {ids:List Nat} {b:Nat} (h:Tok ρ ids b):Ours ρ w b:=by
 obtain ⟨γ,_,b0,o,n,sz,h1,rfl | h2⟩:=h
 ·exact .inl ⟨_,_,_,_,h1⟩
 ·exact ours_vl h2
theorem Tok.nr (hH:HRel ρ H w) {ids:List Nat} {b:Nat} (h:Tok ρ ids b):¬ ρ.res0 b ∧ b < w.heap.size:=by
 obtain ⟨γ,_,b0,o,n,sz,h1,rfl | h2⟩:=h
 ·exact ⟨fun h => hH.resf _ _ _ _ _ h1 (.inl h),hH.lt _ _ _ _ _ h1⟩
 ·exact ⟨hH.vr _ _ h2,hH.vlt h2⟩
theorem zo (hH:HRel ρ H w) {i1 i2:List Nat} (hd:∀ γ ∈ i1,γ ∉ i2) {b:Nat} (h1:Tok ρ i1 b) (h2:Tok ρ i2 b):False:=by
 obtain ⟨γ,g1,b0,o,n,sz,g2,g3⟩:=h1
 obtain ⟨δ,k1,b1,o',n',sz',k2,k3⟩:=h2
 have key:b0 = b1 → False:=fun e => by
  subst e
  exact hd γ g1 (by rw [hH.inj _ _ _ _ _ _ _ _ _ g2 k2]; exact k1)
 rcases g3 with rfl | g3 <;> rcases k3 with rfl | k3
 ·exact key rfl
 ·exact hH.resf _ _ _ _ _ g2 (.inr (by rw [k3]; simp))
 ·exact hH.resf _ _ _ _ _ k2 (.inr (by rw [g3]; simp))
 ·rw [g3] at k3; exact key (Option.some.inj k3)
theorem zvw (hH:HRel ρ H w) {e:Kd} {d:Nat} {f:List SV → Option (e.T × List Nat)} (hf:∀ {cs:List SV} {x:e.T} {ids:List Nat} {us:List Value},f cs = some (x,ids) → VRels ρ w cs us → ids.Nodup → ∃ tk,TreeC w (Free ρ w) e d x us tk ∧ tk.Nodup ∧ ∀ b ∈ tk,Tok ρ ids b) :
  ∀ {n:Nat} {cs:List SV} {xs:List e.T} {ids:List Nat} {us:List Value},readRows f e.sz n cs = some (xs,ids) → VRels ρ w cs us → ids.Nodup → xs.length = n ∧ ∃ tk,SeqL (TreeC w (Free ρ w) e d) xs us tk ∧ tk.Nodup ∧ ∀ b ∈ tk,Tok ρ ids b
 | 0,cs,xs,ids,us,h,hv,hnd => by
  simp only [readRows] at h
  split at h
  ·simp only [Option.some.injEq,Prod.mk.injEq] at h
   obtain ⟨rfl,rfl⟩:=h
   simp only [VRels] at hv
   subst hv
   exact ⟨rfl,[],⟨rfl,rfl⟩,List.nodup_nil,fun b h => (by cases h)⟩
  ·cases h
 | n + 1,cs,xs,ids,us,h,hv,hnd => by
  simp only [readRows] at h
  split at h
  ·rename_i x r h1 h2
   simp only [Option.some.injEq,Prod.mk.injEq] at h
   obtain ⟨rfl,rfl⟩:=h
   obtain ⟨x,i1⟩:=x
   obtain ⟨xs,i2⟩:=r
   obtain ⟨n1,n2,n3⟩:=List.nodup_append.1 hnd
   have hs:=hv.split (n:=e.sz)
   obtain ⟨t1,g1,g2,g3⟩:=hf h1 hs.1 n1
   obtain ⟨g4,t2,g5,g6,g7⟩:=zvw hH hf h2 hs.2 n2
   refine ⟨by simp [g4],t1 ++ t2,⟨_,_,t1,t2,(List.take_append_drop e.sz us).symm,rfl,g1,g5⟩,List.nodup_append.2 ⟨g2,g6,fun b hb b' hb' e => ?_⟩,fun b hb => ?_⟩
   ·subst e
    exact zo hH (fun γ h1 h2 => n3 γ h1 γ h2 rfl) (g3 b hb) (g7 b hb')
   ·rcases List.mem_append.1 hb with hb | hb
    ·exact (g3 b hb).sub fun γ h => List.mem_append.2 (.inl h)
    ·exact (g7 b hb).sub fun γ h => List.mem_append.2 (.inr h)
  ·cases h
theorem zeG {b:Nat} {C:Array Value} {tC:TypeId} {k:Nat} (hC:w.heap[b]? = some (.cells C tC (0,0))) (h:Room w b k):k ≤ C.size:=by
 obtain ⟨C2,t2,h2,h3⟩:=h
 rw [hC] at h2
 simp only [Option.some.injEq,Obj.cells.injEq] at h2
 rw [h2.1]; exact h3
theorem ziu {C:Array Value} {o n:Nat}:∀ (i:Nat) (v:Value),((C.toList.drop o).take n)[i]? = some v → C[o + i]? = some v:=fun i v hv => by
 rw [List.getElem?_take] at hv
 split at hv
 ·rw [List.getElem?_drop,Array.getElem?_toList] at hv; exact hv
 ·simp at hv
theorem zam {dp:Bool} (hH:HRel ρ H w):∀ {K:Kd} {d:Nat} {cs:List SV} {x:K.T} {ids:List Nat} {us:List Value},readT dp H K d cs = some (x,ids) → VRels ρ w cs us → ids.Nodup →
  ∃ ps,TreeF w (Free ρ w) K d x us ps ∧ (flatF ps).Nodup ∧ ∀ b ∈ flatF ps,Tok ρ ids b
 | .int k,d,cs,x,ids,us,h,hv,hnd => by
  simp only [readT] at h
  split at h
  ·split at h
   ·rename_i he
    subst he
    simp only [Option.some.injEq,Prod.mk.injEq] at h
    obtain ⟨rfl,rfl⟩:=h
    obtain ⟨u,rfl,hu⟩:=hv.single'
    simp only [VRel] at hu
    exact ⟨[],⟨by rw [hu],rfl⟩,List.nodup_nil,fun b h => (by cases h)⟩
   ·cases h
  ·cases h
 | .bool,d,cs,x,ids,us,h,hv,hnd => by
  simp only [readT] at h
  split at h
  ·simp only [Option.some.injEq,Prod.mk.injEq] at h
   obtain ⟨rfl,rfl⟩:=h
   obtain ⟨u,rfl,hu⟩:=hv.single'
   simp only [VRel] at hu
   exact ⟨[],⟨by rw [hu],rfl⟩,List.nodup_nil,fun b h => (by cases h)⟩
  ·cases h
 | .unit,d,cs,x,ids,us,h,hv,hnd => by
  simp only [readT] at h
  split at h
  ·simp only [Option.some.injEq,Prod.mk.injEq] at h
   obtain ⟨_,rfl⟩:=h
   simp only [VRels] at hv
   exact ⟨[],⟨hv,rfl⟩,List.nodup_nil,fun b h => (by cases h)⟩
  ·cases h
 | .pair a b,d,cs,x,ids,us,h,hv,hnd => by
  simp only [readT] at h
  split at h
  ·rename_i y z h1 h2
   simp only [Option.some.injEq,Prod.mk.injEq] at h
   obtain ⟨rfl,rfl⟩:=h
   obtain ⟨y,i1⟩:=y
   obtain ⟨z,i2⟩:=z
   obtain ⟨n1,n2,n3⟩:=List.nodup_append.1 hnd
   have hs:=hv.split (n:=a.sz)
   obtain ⟨p1,g1,g2,g3⟩:=zam hH h1 hs.1 n1
   obtain ⟨p2,k1,k2,k3⟩:=zam hH h2 hs.2 n2
   refine ⟨p1 ++ p2,⟨_,_,p1,p2,(List.take_append_drop a.sz us).symm,rfl,g1,k1⟩,?_,fun b hb => ?_⟩
   ·rw [zk]
    refine List.nodup_append.2 ⟨g2,k2,fun b hb b' hb' e => ?_⟩
    subst e
    exact zo hH (fun γ h1 h2 => n3 γ h1 γ h2 rfl) (g3 b hb) (k3 b hb')
   ·rw [zk] at hb
    rcases List.mem_append.1 hb with hb | hb
    ·exact (g3 b hb).sub fun γ h => List.mem_append.2 (.inl h)
    ·exact (k3 b hb).sub fun γ h => List.mem_append.2 (.inr h)
  ·cases h
 | .list e,0,cs,x,ids,us,h,hv,hnd => by
  simp only [readT] at h
  split at h
  ·rename_i y h1
   simp only [Option.some.injEq,Prod.mk.injEq] at h
   obtain ⟨rfl,rfl⟩:=h
   exact ⟨[],⟨zB h1 hv,rfl⟩,List.nodup_nil,fun b h => (by cases h)⟩
  ·cases h
 | .list e,d + 1,cs,x,ids,us,h,hv,hnd => by
  simp only [readT] at h
  split at h
  ·simp only [Option.some.injEq,Prod.mk.injEq] at h
   obtain ⟨rfl,rfl⟩:=h
   obtain ⟨u,rfl,hu⟩:=hv.single'
   simp only [VRel] at hu
   obtain ⟨a,rfl⟩:=hu
   exact ⟨[],.inl ⟨a,rfl,rfl,rfl⟩,List.nodup_nil,fun b h => (by cases h)⟩
  ·rename_i γ
   obtain ⟨u,rfl,hu⟩:=hv.single'
   split at h
   ·rename_i e' xs t hb
    split at h
    ·rename_i he
     subst he
     have empty:xs = [] → (∃ a,u = .slice a 0 0) ∨ ∃ b o c C tC sz,ρ γ = .at b o 0 sz ∧ u = .slice (some ⟨b,o,none⟩) 0 c ∧ w.heap[b]? = some (.cells C tC (0,0)) ∧ o + c * e'.sz ≤ C.size:=fun e0 => by
      rcases own_rel hH hb (by simp) hu with ⟨hr,ad,rfl⟩ | ⟨b,o,n,sz,c,hr,hc,rfl,hroom⟩
      ·exact .inl ⟨ad,rfl⟩
      ·obtain ⟨hsz,hn,C,tC,hC,_⟩:=row_of hH hb hr
       subst e0
       simp only [List.length_nil] at hn
       subst hn
       exact .inr ⟨b,o,c,C,tC,sz,hr,rfl,hC,by rw [hsz]; exact zeG hC hroom⟩
     have fin0:xs = [] → ∃ ps,TreeF w (Free ρ w) (.list e') (d + 1) [] [u] ps ∧ (flatF ps).Nodup ∧ ∀ b ∈ flatF ps,Tok ρ [γ] b:=fun e0 => by
      rcases empty e0 with ⟨a,rfl⟩ | ⟨b,o,c,C,tC,sz,hr,rfl,hC,hroom⟩
      ·exact ⟨[],.inl ⟨a,rfl,rfl,rfl⟩,List.nodup_nil,fun b h => (by cases h)⟩
      ·refine ⟨[(b,[])],.inr ⟨b,o,c,C,tC,[],[],rfl,rfl,Nat.zero_le _,hC,hroom,by simp,by simp,by simp [SeqL]⟩,by simp [flatF],fun b' hb' => ?_⟩
       simp [flatF] at hb'
       subst hb'
       exact ⟨γ,by simp,_,_,_,_,hr,.inl rfl⟩
     have whole:(d = 0 ∨ e'.noList = true) → ∃ ps,TreeF w (Free ρ w) (.list e') (d + 1) xs [u] ps ∧ (flatF ps).Nodup ∧ ∀ b ∈ flatF ps,Tok ρ [γ] b:=fun hdn => by
      rcases own_rel hH hb (by simp) hu with ⟨hr,ad,rfl⟩ | ⟨b,o,n,sz,c,hr,hc,rfl,hroom⟩
      ·have:=ziq hH hb hr
       exact this ▸ fin0 this
      ·have hlt:γ < H.length:=(List.getElem?_eq_some_iff.1 hb).1
       obtain ⟨y,h1,h2⟩:=hH.at_ γ hlt _ _ _ _ hr
       rw [hb] at h1; simp only [Option.some.injEq] at h1; subst h1
       simp only [BRel] at h2
       obtain ⟨rfl,rfl,C,tC,hC,hle,hrow⟩:=h2
       refine ⟨[(b,[])],.inr ⟨b,o,c,C,tC,_,[],rfl,rfl,hc,hC,zeG hC hroom,?_,ziu,(SeqL.of_rows hrow hle).mono fun x _ c t _ hq => ?_⟩,by simp [flatF],fun b' hb' => ?_⟩
       ·simp; omega
       ·rcases hdn with rfl | hn
        ·exact hq
        ·obtain ⟨h1,rfl⟩:=hq.to0
         exact TreeC.ofNL hn h1
       ·simp [flatF] at hb'
        subst hb'
        exact ⟨γ,by simp,_,_,_,_,hr,.inl rfl⟩
     split at h
     ·simp only [Option.some.injEq,Prod.mk.injEq] at h
      obtain ⟨rfl,rfl⟩:=h
      exact whole (.inl rfl)
     ·rcases zg h with ⟨hn,h⟩ | ⟨hn,h⟩
      ·simp only [Option.some.injEq,Prod.mk.injEq] at h
       obtain ⟨rfl,rfl⟩:=h
       exact whole (.inr hn)
      split at h
      ·rename_i e0
       simp only [Option.some.injEq,Prod.mk.injEq] at h
       obtain ⟨rfl,rfl⟩:=h
       exact fin0 rfl
      ·cases h
    ·cases h
   ·rename_i d' e' xs ex hb
    split at h
    ·rename_i he
     subst he
     split at h
     ·rename_i hd
      subst hd
      have hlt:γ < H.length:=(List.getElem?_eq_some_iff.1 hb).1
      rcases own_rel hH hb (by simp) hu with ⟨hr,ad,rfl⟩ | ⟨b,o,n,sz,c,hr,hc,rfl,hroom⟩
      ·obtain ⟨rfl,rfl⟩:xs = [] ∧ ex = none:=by
        rcases hH.none_ γ hlt hr with ⟨K',t',h1⟩ | ⟨t',z',h1⟩ | ⟨d2,e2,h1⟩ <;> rw [hb] at h1 <;> cases h1
        exact ⟨rfl,rfl⟩
       simp only [Option.some.injEq,Prod.mk.injEq] at h
       obtain ⟨rfl,rfl⟩:=h
       exact ⟨[],.inl ⟨ad,rfl,rfl,rfl⟩,List.nodup_nil,fun b h => (by cases h)⟩
      ·obtain ⟨y,h1,h2⟩:=hH.at_ γ hlt _ _ _ _ hr
       rw [hb] at h1
       simp only [Option.some.injEq] at h1
       subst h1
       simp only [BRel] at h2
       obtain ⟨rfl,rfl,C,tC,vs,tk,hC,hsz,hul,hus,hown,hnd',hvl,hex⟩:=h2
       have hbt:b ∉ tk:=fun hbt => hH.resf _ _ _ _ _ hr (.inr (by rw [hvl b hbt]; simp))
       split at h
       ·simp only [Option.some.injEq,Prod.mk.injEq] at h
        obtain ⟨rfl,rfl⟩:=h
        refine ⟨[(b,tk)],.inr ⟨b,o,c,C,tC,vs,tk,rfl,rfl,hc,hC,zeG hC hroom,hul,hus,SeqL.toX.2 hown⟩,by simp [flatF,hbt,hnd'],fun b' hb' => ?_⟩
        simp [flatF] at hb'
        rcases hb' with rfl | hb'
        ·exact ⟨γ,by simp,_,_,_,_,hr,.inl rfl⟩
        ·exact ⟨γ,by simp,_,_,_,_,hr,.inr (hvl b' hb')⟩
       ·rename_i i ds
        split at h
        ·rename_i y hy
         simp only [Option.some.injEq,Prod.mk.injEq] at h
         obtain ⟨rfl,rfl⟩:=h
         obtain ⟨y,ids⟩:=y
         have hnd2:=List.nodup_cons.1 hnd
         obtain ⟨hi,hdl⟩:=hex _ rfl
         obtain ⟨c0,hq,hcl⟩:=SeqX.close hi hown
         obtain ⟨ps,g1,g2,g3⟩:=zam hH hy (hq _ rfl) hnd2.2
         obtain ⟨tk2,g4,g5⟩:=hcl y _ g1.toC
         have hap:∀ b' ∈ flatF ps,∀ b2,Tok ρ [γ] b2 → b' ≠ b2:=fun b' h5 b2 h6 e => by
          subst e
          exact zo hH (i1:=[γ]) (by simpa using hnd2.1) h6 (g3 b' h5)
         have hγ:∀ b' ∈ tk,Tok ρ [γ] b':=fun b' h => ⟨γ,by simp,_,_,_,_,hr,.inr (hvl b' h)⟩
         have hnd3:tk2.Nodup:=g4.nodup_iff.2 (List.nodup_append.2 ⟨g2,hnd',fun b1 h1 b2 h2 => hap b1 h1 b2 (hγ b2 h2)⟩)
         have hmem:∀ b' ∈ tk2,b' ∈ flatF ps ∨ b' ∈ tk:=fun b' h => List.mem_append.1 (g4.mem_iff.1 h)
         have hbt2:b ∉ tk2:=fun h => by
          rcases hmem b h with h | h
          ·exact hap b h b ⟨γ,by simp,_,_,_,_,hr,.inl rfl⟩ rfl
          ·exact hbt h
         refine ⟨[(b,tk2)],.inr ⟨b,o,c,C,tC,vs,tk2,rfl,by simp,by simpa using hc,hC,zeG hC hroom,by simpa using hul,hus,g5⟩,by simp [flatF,hbt2,hnd3],fun b' hb' => ?_⟩
         simp [flatF] at hb'
         rcases hb' with rfl | hb'
         ·exact ⟨γ,by simp,_,_,_,_,hr,.inl rfl⟩
         ·rcases hmem b' hb' with h | h
          ·exact (g3 b' h).sub fun δ h => List.mem_cons_of_mem _ h
          ·exact (hγ b' h).sub fun δ h => by simp at h; simp [h]
        ·cases h
     ·cases h
    ·cases h
   ·rename_i ds t z hb
    split at h
    ·rename_i hc
     obtain ⟨hdp,rfl,hz0⟩:=hc
     split at h
     ·rename_i r h1
      simp only [Option.some.injEq,Prod.mk.injEq] at h
      obtain ⟨rfl,rfl⟩:=h
      obtain ⟨xs,ids⟩:=r
      have hnd':=List.nodup_cons.1 hnd
      have hf:∀ {cs:List SV} {x:e.T} {ids:List Nat} {us:List Value},readT dp H e d cs = some (x,ids) → VRels ρ w cs us → ids.Nodup → ∃ tk,TreeC w (Free ρ w) e d x us tk ∧ tk.Nodup ∧ ∀ b ∈ tk,Tok ρ ids b:=fun h2 h3 h4 => by
       obtain ⟨ps,g1,g2,g3⟩:=zam hH h2 h3 h4
       exact ⟨_,g1.toC,g2,g3⟩
      rcases own_rel hH hb (by simp) hu with ⟨hr,ad,rfl⟩ | ⟨b,o,n,sz,c,hr,hc,rfl,hroom⟩
      ·have:=zcx hH hb hr
       subst this
       simp only [List.length_nil,Nat.zero_div,readRows,Option.some.injEq,Prod.mk.injEq] at h1
       obtain ⟨rfl,rfl⟩:=h1
       exact ⟨[],.inl ⟨ad,rfl,rfl,rfl⟩,List.nodup_nil,fun b h => (by cases h)⟩
      ·obtain ⟨C,tC,hC,rfl,hlen,hle,hvs,_⟩:=zL hH hb hr
       have hpos:0 < e.sz:=by omega
       have hn:ds.length / e.sz = n:=by rw [hlen]; exact Nat.mul_div_cancel _ hpos
       rw [hn] at h1
       obtain ⟨g1,tk,g2,g3,g4⟩:=zvw hH hf h1 hvs hnd'.2
       subst g1
       have hbt:b ∉ tk:=fun hbt => zo hH (i1:=[γ]) (by simpa using hnd'.1) ⟨γ,by simp,_,_,_,_,hr,.inl rfl⟩ (g4 b hbt)
       refine ⟨[(b,tk)],.inr ⟨b,o,c,C,tC,_,tk,rfl,rfl,hc,hC,zeG hC hroom,?_,ziu,g2⟩,by simp [flatF,hbt,g3],fun b' hb' => ?_⟩
       ·simp; omega
       ·simp [flatF] at hb'
        rcases hb' with rfl | hb'
        ·exact ⟨γ,by simp,_,_,_,_,hr,.inl rfl⟩
        ·exact (g4 b' hb').sub fun δ h => List.mem_cons_of_mem _ h
     ·cases h
    ·cases h
   ·cases h
  ·cases h
theorem zeH:∀ {l:List Nat},nodupB l = true → l.Nodup
 | [],_ => List.nodup_nil
 | x :: r,h => by
  simp only [nodupB,Bool.and_eq_true,Bool.not_eq_true'] at h
  exact List.nodup_cons.2 ⟨by simpa using h.1,zeH h.2⟩
theorem zGs (h:HRel ρ H w) {rs:List Nat} {m:Img} {x:Blk} (hu:ρ H.length = .unborn) (hs:Step ρ w ((ρ.kill rs).put H.length m) w')
  (hheap:∀ β b o n sz,β ∉ rs → ρ β = .at b o n sz → w'.heap[b]? = w.heap[b]?) (hvlt:∀ b t,ρ.vl b = some t → w'.heap[b]? = w.heap[b]?)
  (hm:(m = .none_ ∧ x.empty) ∨ ∃ b o n sz,m = .at b o n sz ∧ b < w'.heap.size ∧ ¬ ρ.res b ∧ (∀ γ o' n' sz',γ ∉ rs → ρ γ ≠ .at b o' n' sz') ∧ BRel ((ρ.kill rs).put H.length m) w' b o n sz x) :
  HRel ((ρ.kill rs).put H.length m) (kill rs H ++ [x]) w':=by
 have hk:=h.kill rs
 have hlen:(kill rs H).length = H.length:=zc rs H
 have old:∀ {β b o n sz},β ≠ H.length → ((ρ.kill rs).put H.length m) β = .at b o n sz → β ∉ rs ∧ ρ β = .at b o n sz:=by
  intro β b o n sz e hr
  rw [Map.put_other _ _ e] at hr
  simp only [Map.kill] at hr
  split at hr
  ·cases hr
  ·rename_i hn; exact ⟨fun hβ => hn ⟨hβ,by rw [hr]; rfl⟩,hr⟩
 constructor
 ·intro β hl hr
  by_cases e:β = H.length
  ·subst e; rw [Map.put_same] at hr
   rcases hm with ⟨rfl,_⟩ | ⟨_,_,_,_,rfl,_⟩ <;> cases hr
  ·rw [Map.put_other _ _ e] at hr
   have hl':β < (kill rs H).length:=by simp at hl; omega
   rw [List.getElem?_append_left hl']; exact hk.dead β hl' hr
 ·intro β hl hr
  by_cases e:β = H.length
  ·subst e; rw [Map.put_same] at hr
   rcases hm with ⟨rfl,h1⟩ | ⟨_,_,_,_,rfl,_⟩
   ·rcases h1 with ⟨K,t,rfl⟩ | ⟨t,z,rfl⟩ | ⟨d,e,rfl⟩
    ·exact .inl ⟨K,t,by rw [← hlen]; simp⟩
    ·exact .inr (.inl ⟨t,z,by rw [← hlen]; simp⟩)
    ·exact .inr (.inr ⟨d,e,by rw [← hlen]; simp⟩)
   ·cases hr
  ·rw [Map.put_other _ _ e] at hr
   have hl':β < (kill rs H).length:=by simp at hl; omega
   rw [List.getElem?_append_left hl']; exact hk.none_ β hl' hr
 ·intro β hl b o n' sz' hr
  by_cases e:β = H.length
  ·subst e; rw [Map.put_same] at hr
   rcases hm with ⟨rfl,_⟩ | ⟨_,_,_,_,rfl,_,_,_,hx⟩
   ·cases hr
   ·injection hr with h1 h2 h3 h4
    subst h1; subst h2; subst h3; subst h4
    exact ⟨x,by rw [← hlen]; simp,hx⟩
  ·obtain ⟨hn,hr'⟩:=old e hr
   have hl':β < (kill rs H).length:=by simp at hl; omega
   obtain ⟨y,h1,h2⟩:=h.at_ β (by omega) _ _ _ _ hr'
   exact ⟨y,by rw [List.getElem?_append_left hl',zj,if_neg (fun h => hn h.1)]; exact h1,h2.keep hs (hheap _ _ _ _ _ hn hr') fun b' hb' => ⟨hvlt b' b hb',hb'⟩⟩
 ·intro β γ b o n1 sz1 o' n2 sz2 h1 h2
  by_cases e:β = H.length <;> by_cases e2:γ = H.length
  ·omega
  ·subst e; rw [Map.put_same] at h1
   obtain ⟨hn,hr⟩:=old e2 h2
   rcases hm with ⟨rfl,_⟩ | ⟨_,_,_,_,rfl,_,_,hno,_⟩
   ·cases h1
   ·injection h1 with h1; subst h1; exact absurd hr (hno _ _ _ _ hn)
  ·subst e2; rw [Map.put_same] at h2
   obtain ⟨hn,hr⟩:=old e h1
   rcases hm with ⟨rfl,_⟩ | ⟨_,_,_,_,rfl,_,_,hno,_⟩
   ·cases h2
   ·injection h2 with h2; subst h2; exact absurd hr (hno _ _ _ _ hn)
  ·exact h.inj _ _ _ _ _ _ _ _ _ (old e h1).2 (old e2 h2).2
 ·intro β b o n' sz' hr
  by_cases e:β = H.length
  ·subst e; rw [Map.put_same] at hr
   rcases hm with ⟨rfl,_⟩ | ⟨_,_,_,_,rfl,hb,_⟩
   ·cases hr
   ·injection hr with h1; omega
  ·have:=h.lt _ _ _ _ _ (old e hr).2
   have:=hs.size
   omega
 ·intro b hb; have:=h.resl b hb; have:=hs.size; omega
 ·intro β b o n' sz' hr hb
  by_cases e:β = H.length
  ·subst e; rw [Map.put_same] at hr
   rcases hm with ⟨rfl,_⟩ | ⟨_,_,_,_,rfl,_,hb',_⟩
   ·cases hr
   ·injection hr with h1; subst h1; exact hb' hb
  ·exact h.resf _ _ _ _ _ (old e hr).2 hb
 ·exact h.vr
theorem zan {v:SV} (h:HRel ρ H w) {rs:List Nat} {m:Img} {x:Blk} {u:Value} (hu:ρ H.length = .unborn) (hs:Step ρ w ((ρ.kill rs).put H.length m) w')
  (hheap:∀ β b o n sz,β ∉ rs → ρ β = .at b o n sz → w'.heap[b]? = w.heap[b]?) (hvlt:∀ b t,ρ.vl b = some t → w'.heap[b]? = w.heap[b]?)
  (hm:(m = .none_ ∧ x.empty) ∨ ∃ b o n sz,m = .at b o n sz ∧ b < w'.heap.size ∧ ¬ ρ.res b ∧ (∀ γ o' n' sz',γ ∉ rs → ρ γ ≠ .at b o' n' sz') ∧ BRel ((ρ.kill rs).put H.length m) w' b o n sz x)
  {mo:Bool} (hmo:mo = true → rs = [] ∧ ∀ b,b < w.heap.size → w'.heap[b]? = w.heap[b]?)
  (hv:VRel ((ρ.kill rs).put H.length m) w' v u):Good mo ρ H w v (kill rs H ++ [x]) u w' ((ρ.kill rs).put H.length m) where
 step:=hs
 hrel:=zGs h hu hs hheap hvlt hm
 vrel:=hv
 len:=by simp [zc]
 unb β h1 h2:=by
  have:β ≠ H.length:=by rw [List.length_append,List.length_singleton,zc] at h2; omega
  rw [Map.put_other _ _ this]; exact zak h1
 mono h:=by
  obtain ⟨rfl,hw⟩:=hmo h
  refine ⟨⟨[x],rfl⟩,fun β h2 => ?_,hw,fun _ _ h => h⟩
  have:β ≠ H.length:=by rintro rfl; simp [zc] at h2; omega
  rw [Map.put_other _ _ this]; simp [Map.kill]
theorem zmg {rs:List Nat} (hu:ρ H.length = .unborn):Step ρ w ((ρ.kill rs).put H.length .none_) w :=
 (Step.kill rs).trans (Step.ghost _ _ (by simp) (zak hu))
theorem zvx {ids:List Nat} {x:Blk} {u:Value} (hH:HRel ρ H w) (hu:ρ H.length = .unborn) (hx:x.empty) (he:∃ a,u = .slice a 0 0):∃ ρ',Good false ρ H w (.own H.length) (kill ids H ++ [x]) u w ρ' :=
 ⟨_,zan hH hu (zmg hu) (fun _ _ _ _ _ _ _ => rfl) (fun _ _ _ => rfl) (.inl ⟨rfl,hx⟩) (by simp) (by simp only [VRel,Map.put_same]; exact he)⟩
def Map.own (ρ:Map) (ids:List Nat) (k:Nat) (m:Img) (b:Nat) (T:List Nat):Map :=
 ⟨fun γ => if γ = k then m else if γ ∈ ids ∧ (ρ γ).born = true then .dead else ρ γ,ρ.res0,fun c => if c ∈ T then some b else if c = b then none else ρ.vl c⟩
theorem zpG {ids T:List Nat} {b o n sz:Nat} {x:Blk} {u:Value} (hH:HRel ρ H w) (hu:∀ γ,H.length ≤ γ → ρ γ = .unborn) (hT:∀ c ∈ T,Tok ρ ids c) (hbT:b ∉ T) (hb:Tok ρ ids b ∨ b = w.heap.size)
  (hos:w'.os = w.os) (htape:w'.tape = w.tape) (hout:w'.output = w.output) (hsz:w.heap.size ≤ w'.heap.size) (hkept:∀ c,c < w.heap.size → c ≠ b → w'.heap[c]? = w.heap[c]?) (hbs:b < w'.heap.size)
  (hshape:∀ (c:Nat) C t fr,w.heap[c]? = some (.cells C t fr) → ∃ C',w'.heap[c]? = some (.cells C' t fr) ∧ C'.size = C.size)
  (hx:∀ ρ',(∀ c ∈ T,ρ'.vl c = some b) → Step ρ w ρ' w' → ρ' H.length = .at b o n sz → BRel ρ' w' b o n sz x ∧ VRel ρ' w' (.own H.length) u) :
  ∃ ρ',Good false ρ H w (.own H.length) (kill ids H ++ [x]) u w' ρ':=by
 have hids:H.length ∉ ids ∨ True:=.inr trivial
 refine ⟨ρ.own ids H.length (.at b o n sz) b T,?_⟩
 have enew:(ρ.own ids H.length (.at b o n sz) b T) H.length = .at b o n sz:=by simp [Map.own]
 have hcase:∀ {γ b' o' n' sz'},(ρ.own ids H.length (.at b o n sz) b T) γ = .at b' o' n' sz' → (γ = H.length ∧ b' = b ∧ o' = o ∧ n' = n ∧ sz' = sz) ∨ (γ ≠ H.length ∧ γ ∉ ids ∧ ρ γ = .at b' o' n' sz'):=by
  intro γ b' o' n' sz' h
  simp only [Map.own] at h
  split at h
  ·rename_i e; injection h with h1 h2 h3 h4; exact .inl ⟨e,h1.symm,h2.symm,h3.symm,h4.symm⟩
  ·rename_i e
   split at h
   ·cases h
   ·rename_i h2
    exact .inr ⟨e,fun h3 => h2 ⟨h3,by rw [h]; rfl⟩,h⟩
 have hbo:Ours ρ w b:=by
  rcases hb with hb | rfl
  ·exact hb.ours
  ·exact .inr (.inl (Nat.le_refl _))
 have hvl':∀ c t,(ρ.own ids H.length (.at b o n sz) b T).vl c = some t → (c ∈ T ∧ t = b) ∨ (c ∉ T ∧ c ≠ b ∧ ρ.vl c = some t):=by
  intro c t h
  simp only [Map.own] at h
  split at h
  ·rename_i h1; cases h; exact .inl ⟨h1,rfl⟩
  ·split at h
   ·cases h
   ·rename_i h1 h2; exact .inr ⟨h1,h2,h⟩
 have hst:Step ρ w (ρ.own ids H.length (.at b o n sz) b T) w':={
  os:=hos,tape:=htape,output:=hout,size:=hsz
  kept:=fun c hc hn hv => hkept c hc (fun e => by
   subst e
   rcases hbo with ⟨_,_,_,_,h⟩ | h | h
   ·exact hn _ _ _ _ h
   ·omega
   ·exact h hv)
  shape:=hshape
  img:=fun γ b' o' n' sz' h => by
   rcases hcase h with ⟨_,rfl,_⟩ | ⟨_,_,h⟩
   ·exact hbo
   ·exact .inl ⟨_,_,_,_,h⟩
  ref:=fun γ h => by
   have:γ ≠ H.length:=by rintro rfl; exact h (hu _ (Nat.le_refl _))
   simp only [Map.own]
   rw [if_neg this]
   split
   ·exact .inr rfl
   ·exact .inl rfl
  res:=rfl
  vl:=fun c t h => by
   rcases hvl' c t h with ⟨h,_⟩ | ⟨_,_,h⟩
   ·exact (hT c h).ours
   ·exact ours_vl h }
 obtain ⟨hbr,hv⟩:=hx _ (fun c hc => by simp only [Map.own]; rw [if_pos hc]) hst enew
 have hap:∀ {γ b' o' n' sz'},γ ∉ ids → ρ γ = .at b' o' n' sz' → ∀ c,(c = b' ∨ ρ.vl c = some b') → c ∉ T ∧ c ≠ b ∧ c < w.heap.size:=by
  intro γ b' o' n' sz' hγ hr c hc
  have h1:Tok ρ [γ] c:=⟨γ,by simp,_,_,_,_,hr,hc⟩
  have h2:=h1.nr hH
  refine ⟨fun h => zo hH (i1:=[γ]) (by simpa using hγ) h1 (hT c h),fun e => ?_,h2.2⟩
  subst e
  rcases hb with hb | hb
  ·exact zo hH (i1:=[γ]) (by simpa using hγ) h1 hb
  ·omega
 have hget:∀ {γ},γ ≠ H.length → γ < (kill ids H ++ [x]).length → γ < H.length ∧ (kill ids H ++ [x])[γ]? = (kill ids H)[γ]?:=by
  intro γ h1 h2
  simp only [List.length_append,zc,List.length_cons,List.length_nil] at h2
  exact ⟨by omega,List.getElem?_append_left (by rw [zc]; omega)⟩
 refine ⟨hst,?_,hv,by simp [zc],fun γ h1 h2 => ?_,by simp⟩
 ·constructor
  ·intro γ hl hd
   have e:γ ≠ H.length:=by rintro rfl; rw [enew] at hd; cases hd
   obtain ⟨h1,h2⟩:=hget e hl
   rw [h2,zj]
   simp only [Map.own] at hd
   rw [if_neg e] at hd
   split at hd
   ·rename_i h3; rw [if_pos ⟨h3.1,h1⟩]
   ·split
    ·rfl
    ·exact hH.dead γ h1 hd
  ·intro γ hl hd
   have e:γ ≠ H.length:=by rintro rfl; rw [enew] at hd; cases hd
   obtain ⟨h1,h2⟩:=hget e hl
   simp only [Map.own] at hd
   rw [if_neg e] at hd
   split at hd
   ·cases hd
   ·rename_i h3
    rw [h2,zj,if_neg (fun h4 => h3 ⟨h4.1,by rw [hd]; rfl⟩)]
    exact hH.none_ γ h1 hd
  ·intro γ hl b' o' n' sz' hd
   rcases hcase hd with ⟨rfl,rfl,rfl,rfl,rfl⟩ | ⟨e,hγ,hr⟩
   ·exact ⟨x,by rw [List.getElem?_append_right (by rw [zc]; omega),zc]; simp,hbr⟩
   ·obtain ⟨h1,h2⟩:=hget e hl
    obtain ⟨y,h3,h4⟩:=hH.at_ γ h1 _ _ _ _ hr
    refine ⟨y,by rw [h2,zj,if_neg (fun h => hγ h.1)]; exact h3,h4.keep hst (hkept b' (hap hγ hr b' (.inl rfl)).2.2 (hap hγ hr b' (.inl rfl)).2.1) fun c hc => ?_⟩
    obtain ⟨k1,k2,k3⟩:=hap hγ hr c (.inr hc)
    exact ⟨hkept c k3 k2,by simp only [Map.own]; rw [if_neg k1,if_neg k2]; exact hc⟩
  ·intro γ δ b' o1 n1 s1 o2 n2 s2 h1 h2
   rcases hcase h1 with ⟨rfl,rfl,_⟩ | ⟨e1,g1,g2⟩ <;> rcases hcase h2 with ⟨rfl,k1⟩ | ⟨e2,k1,k2⟩
   ·rfl
   ·exact absurd rfl (hap k1 k2 b' (.inl rfl)).2.1
   ·exact absurd k1.1 (hap g1 g2 b' (.inl rfl)).2.1
   ·exact hH.inj _ _ _ _ _ _ _ _ _ g2 k2
  ·intro γ b' o' n' sz' h1
   rcases hcase h1 with ⟨_,rfl,_⟩ | ⟨_,_,h⟩
   ·exact hbs
   ·have:=hH.lt _ _ _ _ _ h; omega
  ·intro c hc
   rcases hc with hc | hc
   ·have:=hH.resl c (.inl hc); omega
   ·cases hv2:(ρ.own ids H.length (.at b o n sz) b T).vl c with
    | none => exact absurd hv2 hc
    | some t =>
     rcases hvl' c t hv2 with ⟨h,_⟩ | ⟨_,_,h⟩
     ·have:=((hT c h).nr hH).2; omega
     ·have:=hH.vlt h; omega
  ·intro γ b' o' n' sz' h1 h2
   rcases hcase h1 with ⟨_,rfl,_⟩ | ⟨_,hγ,hr⟩
   ·rcases h2 with h2 | h2
    ·rcases hb with hb | rfl
     ·exact (hb.nr hH).1 h2
     ·have:=hH.resl _ (.inl h2); omega
    ·apply h2
     simp only [Map.own]
     rw [if_neg hbT]; simp
   ·rcases h2 with h2 | h2
    ·exact hH.resf _ _ _ _ _ hr (.inl h2)
    ·obtain ⟨k1,k2,_⟩:=hap hγ hr b' (.inl rfl)
     simp only [Map.own] at h2
     rw [if_neg k1,if_neg k2] at h2
     exact hH.resf _ _ _ _ _ hr (.inr h2)
  ·intro c t h1 h2
   rcases hvl' c t h1 with ⟨h,_⟩ | ⟨_,_,h⟩
   ·exact ((hT c h).nr hH).1 h2
   ·exact hH.vr _ _ h h2
 ·simp only [List.length_append,zc,List.length_cons,List.length_nil] at h2
  simp only [Map.own]
  rw [if_neg (by omega)]
  split
  ·rename_i h3; rw [h1] at h3; simp [Img.born] at h3
  ·exact h1
def Less (B B':Nat → Prop) (t t':List Nat):Prop:=(∀ b,B b → B' b) ∧ ∀ b ∈ t,b ∉ t' → B' b
theorem Less.parts {B B':Nat → Prop} {t1 t2 s1 s2:List Nat} (hnd:(t1 ++ t2).Nodup) (h1:s1.Sublist t1) (h2:s2.Sublist t2) (h:Less B B' (t1 ++ t2) (s1 ++ s2)):Less B B' t1 s1 ∧ Less B B' t2 s2:=by
 obtain ⟨_,_,n3⟩:=List.nodup_append.1 hnd
 refine ⟨⟨h.1,fun b hb hn => h.2 b (List.mem_append.2 (.inl hb)) fun hm => ?_⟩,⟨h.1,fun b hb hn => h.2 b (List.mem_append.2 (.inr hb)) fun hm => ?_⟩⟩
 ·rcases List.mem_append.1 hm with hm | hm
  ·exact hn hm
  ·exact n3 b hb b (h2.subset hm) rfl
 ·rcases List.mem_append.1 hm with hm | hm
  ·exact n3 b (h1.subset hm) b hb rfl
  ·exact hn hm
theorem SeqL.dem {α:Type} {B:Nat → Prop} {P:α → List Value → List Nat → Prop} {Q:(Nat → Prop) → α → List Value → List Nat → Prop} (hP:∀ x c t,t.Nodup → P x c t → ∃ t',t'.Sublist t ∧ ∀ B',Less B B' t t' → Q B' x c t') :
  ∀ {xs:List α} {us:List Value} {tk:List Nat},tk.Nodup → SeqL P xs us tk → ∃ tk',tk'.Sublist tk ∧ ∀ B',Less B B' tk tk' → SeqL (Q B') xs us tk'
 | [],us,tk,_,h => ⟨[],by simp,fun B' _ => by simp only [SeqL] at h ⊢; exact ⟨h.1,trivial⟩⟩
 | x :: xs,us,tk,hnd,h => by
  simp only [SeqL] at h
  obtain ⟨c,us',t1,t2,h1,rfl,h3,h4⟩:=h
  obtain ⟨n1,n2,_⟩:=List.nodup_append.1 hnd
  obtain ⟨s1,g1,g2⟩:=hP x c t1 n1 h3
  obtain ⟨s2,k1,k2⟩:=SeqL.dem hP n2 h4
  refine ⟨s1 ++ s2,g1.append k1,fun B' hB => ?_⟩
  obtain ⟨q1,q2⟩:=hB.parts hnd g1 k1
  simp only [SeqL]
  exact ⟨c,us',s1,s2,h1,rfl,g2 B' q1,k2 B' q2⟩
theorem TreeC.dem {B:Nat → Prop}:∀ {K:Kd} {d d':Nat} {x:K.T} {cs:List Value} {tk:List Nat},d' ≤ d → tk.Nodup → TreeC w B K d x cs tk → ∃ tk',tk'.Sublist tk ∧ ∀ B',Less B B' tk tk' → TreeC w B' K d' x cs tk'
 | .int k,_,_,_,_,tk,_,_,h => ⟨[],by simp,fun _ _ => by simp only [TreeC] at h ⊢; exact ⟨h.1,trivial⟩⟩
 | .bool,_,_,_,_,tk,_,_,h => ⟨[],by simp,fun _ _ => by simp only [TreeC] at h ⊢; exact ⟨h.1,trivial⟩⟩
 | .unit,_,_,_,_,tk,_,_,h => ⟨[],by simp,fun _ _ => by simp only [TreeC] at h ⊢; exact ⟨h.1,trivial⟩⟩
 | .pair a b,d,d',x,cs,tk,hd,hnd,h => by
  simp only [TreeC] at h
  obtain ⟨c1,c2,t1,t2,h1,rfl,h3,h4⟩:=h
  obtain ⟨n1,n2,_⟩:=List.nodup_append.1 hnd
  obtain ⟨s1,g1,g2⟩:=TreeC.dem hd n1 h3
  obtain ⟨s2,k1,k2⟩:=TreeC.dem hd n2 h4
  refine ⟨s1 ++ s2,g1.append k1,fun B' hB => ?_⟩
  obtain ⟨q1,q2⟩:=hB.parts hnd g1 k1
  simp only [TreeC]
  exact ⟨c1,c2,s1,s2,h1,rfl,g2 B' q1,k2 B' q2⟩
 | .list e,d,0,xs,cs,tk,_,_,h => ⟨[],by simp,fun B' hB => by
  have:=h.crel hB.1 fun b hb => hB.2 b hb (by simp)
  simp only [TreeC]
  exact ⟨this,trivial⟩⟩
 | .list e,0,d' + 1,xs,cs,tk,hd,_,h => absurd hd (by omega)
 | .list e,d + 1,d' + 1,xs,cs,tk,hd,hnd,h => by
  simp only [TreeC] at h
  rcases h with ⟨a,h1,h2,rfl⟩ | ⟨b,o,c,C,tC,us,t',rfl,h1,h2,h3,h4,h5,h6,h7⟩
  ·exact ⟨[],by simp,fun B' _ => by simp only [TreeC]; exact .inl ⟨a,h1,h2,trivial⟩⟩
  ·obtain ⟨n1,n2⟩:=List.nodup_cons.1 hnd
   obtain ⟨s,g1,g2⟩:=SeqL.dem (Q:=fun B' => TreeC w B' e d') (fun x c t hn ht => TreeC.dem (show d' ≤ d by omega) hn ht) n2 h7
   refine ⟨b :: s,g1.cons_cons b,fun B' hB => ?_⟩
   simp only [TreeC]
   exact .inr ⟨b,o,c,C,tC,us,s,rfl,h1,h2,h3,h4,h5,h6,g2 B' ⟨hB.1,fun b' hb hn => hB.2 b' (List.mem_cons_of_mem _ hb) fun hm => by
    rcases List.mem_cons.1 hm with rfl | hm
    ·exact n1 hb
    ·exact hn hm⟩⟩
def Map.let (ρ:Map) (D:List Nat):Map:=⟨ρ.img,ρ.res0,fun b => if b ∈ D then none else ρ.vl b⟩
theorem zGt {D:List Nat}:Step ρ w (ρ.let D) w where
 os:=rfl
 tape:=rfl
 output:=rfl
 size:=Nat.le_refl _
 kept _ _ _ _:=rfl
 shape _ C _ _ h:=⟨C,h,rfl⟩
 img β b o n sz h:=.inl ⟨β,o,n,sz,h⟩
 ref _ _:=.inl rfl
 res:=rfl
 vl b t h:=by
  simp only [Map.let] at h
  split at h
  ·cases h
  ·exact .inr (.inr (by rw [h]; simp))
theorem zvy {β d d0:Nat} {e:Kd} {xs:List e.T} {val:Value} (hH:HRel ρ H w) (hv:VRel ρ w (.own β) val) (hb:H[β]? = some (.tree d0 e xs none)) (hd:d ≤ d0):∃ ρ',Good false ρ H w (.own β) (H.set β (childB d e xs)) val w ρ' ∧ ∀ γ,ρ' γ = ρ γ:=by
 have hlt:β < H.length:=(List.getElem?_eq_some_iff.1 hb).1
 rcases hr:ρ β with _ | _ | _ | ⟨b,o,n,sz⟩
 ·simp only [VRel,hr] at hv
 ·exact absurd hr (live_of hH hb (by simp))
 ·have hx:xs = []:=by
   rcases hH.none_ β hlt hr with ⟨K',t,h⟩ | ⟨t,z,h⟩ | ⟨d',e',h⟩
   ·rw [hb] at h; cases h
   ·rw [hb] at h; cases h
   ·rw [hb] at h; cases h; rfl
  subst hx
  refine ⟨ρ,⟨Step.refl _ _,?_,hv,by simp,fun γ h _ => h,by simp⟩,fun _ => rfl⟩
  refine { dead:=fun γ hl h => ?_,none_:=fun γ hl h => ?_,at_:=fun γ hl b o n sz h => ?_,inj:=hH.inj,lt:=hH.lt,resl:=hH.resl,resf:=hH.resf,vr:=hH.vr }
  ·rw [List.length_set] at hl
   rw [List.getElem?_set_ne (by rintro rfl; rw [hr] at h; cases h)]; exact hH.dead γ hl h
  ·rw [List.length_set] at hl
   by_cases e1:β = γ
   ·subst e1
    rw [List.getElem?_set_self hlt]
    cases d with
    | zero => exact .inl ⟨e,0,rfl⟩
    | succ d => exact .inr (.inr ⟨d + 1,e,rfl⟩)
   ·rw [List.getElem?_set_ne e1]; exact hH.none_ γ hl h
  ·rw [List.length_set] at hl
   rw [List.getElem?_set_ne (by rintro rfl; rw [hr] at h; cases h)]; exact hH.at_ γ hl b o n sz h
 ·obtain ⟨y,h1,h2⟩:=hH.at_ β hlt _ _ _ _ hr
  rw [hb] at h1; simp only [Option.some.injEq] at h1; subst h1
  simp only [BRel] at h2
  obtain ⟨rfl,rfl,C,tC,us,tk,hC,hsz,hul,hus,hseq,hnd,hvl,-⟩:=h2
  obtain ⟨tk',q1,q2⟩:=SeqL.dem (B:=Free ρ w) (Q:=fun B' => TreeC w B' e d) (fun x c t hn ht => TreeC.dem (hd) hn ht) hnd (SeqL.toX.2 hseq)
  have hD:∀ b',b' ∈ tk.filter (fun c => !tk'.contains c) ↔ b' ∈ tk ∧ b' ∉ tk':=fun b' => by simp
  generalize tk.filter (fun c => !tk'.contains c) = D at hD
  have hst:Step ρ w (ρ.let D) w:=zGt
  have hfree:Less (Free ρ w) (Free (ρ.let D) w) tk tk':=⟨fun b' h => h.step hst,fun b' hm hn => ⟨hH.vlt (hvl b' hm),fun h => by
   rcases h with h | h
   ·exact hH.vr _ _ (hvl b' hm) h
   ·exact h (by simp only [Map.let]; rw [if_pos ((hD b').2 ⟨hm,hn⟩)]),fun γ o' n' sz' h => hH.resf γ b' o' n' sz' h (.inr (by rw [hvl b' hm]; simp))⟩⟩
  have hbr:=zis (ρ:=ρ.let D) (d:=d) hC hsz hul hus (q2 _ hfree) (q1.nodup hnd) fun b' hm => by
   simp only [Map.let]; rw [if_neg fun h => ((hD b').1 h).2 hm]; exact hvl b' (q1.subset hm)
  refine ⟨ρ.let D,⟨hst,?_,hv.step hst,by simp,fun γ h _ => h,by simp⟩,fun _ => rfl⟩
  refine { dead:=fun γ hl h => ?_,none_:=fun γ hl h => ?_,at_:=fun γ hl b2 o2 n2 sz2 h => ?_,inj:=hH.inj,lt:=hH.lt,resl:=fun b' h => hH.resl b' ?_,resf:=fun γ b' o' n' sz' h h2 => hH.resf γ b' o' n' sz' h ?_,vr:=fun b' t h => ?_ }
  ·rw [List.length_set] at hl
   rw [List.getElem?_set_ne (by rintro rfl; rw [show ρ β = _ from h] at hr; cases hr)]; exact hH.dead γ hl h
  ·rw [List.length_set] at hl
   rw [List.getElem?_set_ne (by rintro rfl; rw [show ρ β = _ from h] at hr; cases hr)]; exact hH.none_ γ hl h
  ·rw [List.length_set] at hl
   by_cases e1:β = γ
   ·subst e1
    rw [show ρ β = _ from h] at hr
    cases hr
    exact ⟨_,List.getElem?_set_self hlt,hbr⟩
   ·obtain ⟨z,h3,h4⟩:=hH.at_ γ hl _ _ _ _ h
    refine ⟨z,by rw [List.getElem?_set_ne e1]; exact h3,h4.keep hst rfl fun b' hb' => ⟨rfl,?_⟩⟩
    simp only [Map.let]
    rw [if_neg fun hm => ?_]
    ·exact hb'
    ·have:=hvl b' ((hD b').1 hm).1
     rw [this] at hb'
     cases hb'
     exact e1 (hH.inj _ _ _ _ _ _ _ _ _ hr h)
  ·rcases h with h | h
   ·exact .inl h
   ·refine .inr fun h2 => h ?_
    simp only [Map.let]; split
    ·rfl
    ·exact h2
  ·rcases h2 with h2 | h2
   ·exact .inl h2
   ·refine .inr fun h3 => h2 ?_
    simp only [Map.let]; split
    ·rfl
    ·exact h3
  ·simp only [Map.let] at h
   split at h
   ·cases h
   ·exact hH.vr _ _ h
theorem mapp_of {u:Value} {β:Nat} {es:List (Int × Int × Int)} (hH:HRel ρ H w) (hb:H[β]? = some (.mapi es)) (hv:VRel ρ w (.mapp β) u):∃ b o n sz A c,ρ β = .at b o n sz ∧ n = 0 ∧ sz = 0 ∧ u = .map (some b) ∧ w.heap[b]? = some (.map A c) ∧ MapRel A es:=by
 have hl:β < H.length:=(List.getElem?_eq_some_iff.1 hb).1
 simp only [VRel] at hv
 rcases hr:ρ β with _ | _ | _ | ⟨b,o,n,sz⟩ <;> rw [hr] at hv <;> simp only at hv
 ·have:=hH.dead β hl hr; rw [hb] at this; cases this
 ·obtain ⟨x,h1,h2⟩:=hH.at_ β hl _ _ _ _ hr
  rw [hb] at h1; cases h1
  simp only [BRel] at h2
  obtain ⟨h3,h4,A,c,h5,h6⟩:=h2
  exact ⟨b,o,n,sz,A,c,rfl,h3,h4,hv,h5,h6⟩
theorem HRel.setBlk (h:HRel ρ H w) {β b o n sz:Nat} {x:Blk} (hr:ρ β = .at b o n sz) (hx:BRel ρ w b o n sz x):HRel ρ (H.set β x) w where
 dead γ hl hd:=by
  have e:β ≠ γ:=by rintro rfl; rw [hr] at hd; cases hd
  rw [List.getElem?_set_ne e]; exact h.dead γ (by simpa using hl) hd
 none_ γ hl hd:=by
  have e:β ≠ γ:=by rintro rfl; rw [hr] at hd; cases hd
  rw [List.getElem?_set_ne e]; exact h.none_ γ (by simpa using hl) hd
 at_ γ hl b' o' n' sz' hd:=by
  by_cases e:β = γ
  ·subst e
   rw [hr] at hd; injection hd with h1 h2 h3 h4
   subst h1; subst h2; subst h3; subst h4
   exact ⟨x,by simp at hl; simp [hl],hx⟩
  ·rw [List.getElem?_set_ne e]; exact h.at_ γ (by simpa using hl) _ _ _ _ hd
 inj:=h.inj
 lt:=h.lt
 resl:=h.resl
 resf:=h.resf
 vr:=h.vr
theorem zGu {K:Kd} {d:Nat} {v:SV} {val:Value} (hH:HRel ρ H w) (hv:VRel ρ w v val) (he:demo H K d v = some H'):∃ ρ',Good false ρ H w v H' val w ρ':=by
 unfold demo at he
 split at he
 ·rename_i β
  split at he
  ·rename_i d0 e xs ex hb
   split at he
   ·split at he
    ·rename_i hc
     simp only [Option.some.injEq] at he
     subst he
     exact (zvy hH hv hb (Nat.le_of_lt hc.2)).imp fun _ h => h.1
    ·cases he
   ·cases he
  ·cases he
 ·rename_i β
  split at he
  ·rename_i es hb
   split at he
   ·simp only [Option.some.injEq] at he
    subst he
    obtain ⟨b,o,n,sz,A,c,hr,hn,hs,hu,hA,hrel⟩:=mapp_of hH hb hv
    have hA0:A.toList = []:=List.eq_nil_of_length_eq_zero (by simpa using hrel.1)
    refine ⟨ρ,Step.refl _ _,hH.setBlk hr ?_,hv,by simp,fun _ h _ => h,fun h => by cases h⟩
    exact ⟨hn,hs,A,c,[],[],hA,hrel,by rw [hA0]; exact List.nodup_nil,fun p q _ => ⟨fun _ => rfl,fun v h => by cases h⟩,by rw [hA0]; rfl,List.nodup_nil,fun b' h => by cases h⟩
   ·cases he
  ·split at he
   ·split at he
    ·simp only [Option.some.injEq] at he
     subst he
     exact ⟨ρ,Good.same hH hv⟩
    ·cases he
   ·cases he
  ·cases he
 ·cases he
theorem zGv {K:Kd} {d:Nat} {v v':SV} {val:Value} (hH:HRel ρ H w) (hu:∀ γ,H.length ≤ γ → ρ γ = .unborn) (hv:VRel ρ w v val) (he:fixT H K d v = some (v',H')):∃ ρ',Good false ρ H w v' H' val w ρ':=by
 unfold fixT at he
 split at he
 ·rename_i H1 hd
  simp only [Option.some.injEq,Prod.mk.injEq] at he
  obtain ⟨rfl,rfl⟩:=he
  exact zGu hH hv hd
 split at he
 ·rename_i a ha
  obtain ⟨hnd,he⟩:=(zg he).resolve_right (by simp)
  simp only [Option.some.injEq,Prod.mk.injEq] at he
  obtain ⟨rfl,rfl⟩:=he
  obtain ⟨xs,ids⟩:=a
  obtain ⟨ps,h1,h2,h3⟩:=zam hH ha (VRels.single hv) (zeH hnd)
  simp only [TreeF] at h1
  rcases h1 with ⟨a,h1,rfl,rfl⟩ | ⟨b,o,c,C,tC,us,t',rfl,h4,h5,h6,h7,h8,h9,h10⟩
  ·simp only [List.cons.injEq,and_true] at h1
   exact zvx hH (hu _ (Nat.le_refl _)) zmf ⟨a,h1⟩
  ·simp only [List.cons.injEq,and_true] at h4
   subst h4
   simp [flatF] at h2 h3
   have hle:xs.length * K.sz ≤ c * K.sz:=Nat.mul_le_mul_right _ h5
   exact zpG (T:=t') (b:=b) (o:=o) (n:=xs.length) (sz:=K.sz) hH hu h3.2 h2.1 (.inl h3.1) rfl rfl rfl (Nat.le_refl _) (fun _ _ _ => rfl) (h3.1.nr hH).2 (fun _ C _ _ h => ⟨C,h,rfl⟩) fun ρ' g1 g2 g3 =>
    ⟨zis h6 (by omega) h8 h9 (h10.mono fun _ _ _ _ _ h => h.monoB fun b' hb' => hb'.step g2) h2.2 g1,by simp only [VRel,g3]; exact ⟨c,h5,rfl,C,tC,h6,h7⟩⟩
 ·cases he
end
end Go.Proofs.YtljojacnjjgceaaGreat.Den
