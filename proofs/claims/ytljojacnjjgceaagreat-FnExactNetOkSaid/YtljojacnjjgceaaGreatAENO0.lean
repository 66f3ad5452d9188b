/- Part 0 of the texts behind the row. -/
import Derived.Orders
import Derived.Tactics
import Derived.Below
set_option linter.unusedVariables false
set_option linter.unusedSimpArgs false
namespace Go.Proofs.YtljojacnjjgceaaGreat.Den
open Go Go.RowKit
inductive Kd where
 | int (k:IntKind) | bool | unit | pair (a b:Kd) | list (e:Kd)
 deriving DecidableEq
@[reducible] def Kd.T:Kd → Type
 | .int _ => Int
 | .bool => Bool
 | .unit => Unit
 | .pair a b => a.T × b.T
 | .list e => List e.T
def Kd.sz:Kd → Nat
 | .int _ => 1
 | .bool => 1
 | .unit => 0
 | .pair a b => a.sz + b.sz
 | .list _ => 1
def Kd.dflt:(K:Kd) → K.T
 | .int _ => (0:Int)
 | .bool => false
 | .unit => ()
 | .pair a b => (a.dflt,b.dflt)
 | .list _ => []
inductive SV where
 | junk
 | int (k:IntKind) (n:Int)
 | bool (b:Bool)
 | nilp
 | ptr (b off:Nat)
 | aptr (b i j:Nat)
 | eptr (K:Kd) (x:K.T) (j:Nat)
 | nils
 | own (b:Nat)
 | sub (b off len:Nat)
 | es (K:Kd) (xs:List K.T)
 | agg (cs:List SV)
 | arrv (K:Kd) (xs:List K.T)
 | tup (cs:List SV)
 | fn (f:Fn) (first cap:List SV)
 | nilf
 | iface (t:TypeId) (v:SV)
 | nili
 | mapp (b:Nat)
 | nilm
inductive Blk where
 | dead
 | cells (cs:List SV) (t:TypeId) (z:Nat)
 | arr (K:Kd) (xs:List K.T) (t:TypeId)
 | tree (d:Nat) (e:Kd) (xs:List e.T) (ex:Option (Nat × List SV))
 | mapi (es:List (Int × Int × Int))
 | mapo (e:Kd) (f:Int → Int → List e.T) (ex:Option (Int × Int × SV))
abbrev Heap:=List Blk
abbrev Tm:=List SV
inductive Img where
 | unborn
 | dead
 | none_
 | at (b o n sz:Nat)
structure Map where
 img:Nat → Img
 res0:Nat → Prop
 vl:Nat → Option Nat
def Map.res (ρ:Map) (b:Nat):Prop:=ρ.res0 b ∨ ρ.vl b ≠ none
instance:CoeFun Map (fun _ => Nat → Img):=⟨Map.img⟩
def Free (ρ:Map) (w:World) (b:Nat):Prop:=b < w.heap.size ∧ ¬ ρ.res b ∧ ∀ β o n sz,ρ β ≠ .at b o n sz
def CRel (w:World) (B:Nat → Prop):(K:Kd) → K.T → List Value → Prop
 | .int k,n,cs => cs = [.int k n]
 | .bool,b,cs => cs = [.bool b]
 | .unit,_,cs => cs = []
 | .pair a b,x,cs => ∃ c1 c2,cs = c1 ++ c2 ∧ CRel w B a x.1 c1 ∧ CRel w B b x.2 c2
 | .list e,xs,cs => ∃ (a:Option Addr) (c:Nat),cs = [.slice a xs.length c] ∧ xs.length ≤ c ∧
   (0 < xs.length → ∃ ad,a = some ad ∧ B ad.block ∧ ∀ (i:Nat) (x:e.T),xs[i]? = some x → ∃ es,CRel w B e x es ∧
    ∀ (j:Nat) (u:Value),es[j]? = some u → w.cell? (ad.add (i * e.sz + j)) = some u)
theorem CRel.length {w:World} {B:Nat → Prop}:∀ {K:Kd} {x:K.T} {cs:List Value},CRel w B K x cs → cs.length = K.sz
 | .int _,_,_,h => by simp only [CRel] at h; subst h; rfl
 | .bool,_,_,h => by simp only [CRel] at h; subst h; rfl
 | .unit,_,_,h => by simp only [CRel] at h; subst h; rfl
 | .pair a b,x,_,h => by
  simp only [CRel] at h
  obtain ⟨c1,c2,rfl,h1,h2⟩:=h
  simp [Kd.sz,CRel.length h1,CRel.length h2]
 | .list e,xs,_,h => by
  simp only [CRel] at h
  obtain ⟨a,c,rfl,_⟩:=h
  rfl
theorem zij (a:Addr) (n:Nat):(a.add n).block = a.block:=by unfold Addr.add; split <;> rfl
theorem add_add (a:Addr) (i j:Nat):(a.add i).add j = a.add (i + j):=by
 unfold Addr.add
 by_cases hi:i = 0 <;> by_cases hj:j = 0 <;> simp [hi,hj,Nat.add_assoc]
theorem CRel.mono {w w':World} {B B':Nat → Prop} (hB:∀ b,B b → B' b) (hw:∀ b,B b → w'.heap[b]? = w.heap[b]?) :
  ∀ {K:Kd} {x:K.T} {cs:List Value},CRel w B K x cs → CRel w' B' K x cs
 | .int _,_,_,h => h
 | .bool,_,_,h => h
 | .unit,_,_,h => h
 | .pair a b,x,_,h => by
  simp only [CRel] at h ⊢
  obtain ⟨c1,c2,e,h1,h2⟩:=h
  exact ⟨c1,c2,e,CRel.mono hB hw h1,CRel.mono hB hw h2⟩
 | .list e,xs,_,h => by
  simp only [CRel] at h ⊢
  obtain ⟨a,c,e1,hc,h⟩:=h
  refine ⟨a,c,e1,hc,fun h0 => ?_⟩
  obtain ⟨ad,ea,hb,hx⟩:=h h0
  refine ⟨ad,ea,hB _ hb,fun i x hi => ?_⟩
  obtain ⟨es,h1,h2⟩:=hx i x hi
  refine ⟨es,CRel.mono hB hw h1,fun j u hu => ?_⟩
  rw [World.cell?_of_block (w:=w)]
  ·exact h2 j u hu
  ·rw [zij]; exact hw _ hb
def Room (w:World) (b k:Nat):Prop:=∃ C t,w.heap[b]? = some (.cells C t (0,0)) ∧ k ≤ C.size
def CellsAt (w:World) (ad:Addr) (cs:List Value):Prop:=∀ (j:Nat) (u:Value),cs[j]? = some u → w.cell? (ad.add j) = some u
mutual
def VRel (ρ:Map) (w:World):SV → Value → Prop
 | .junk,_ => True
 | .int k n,v => v = .int k n
 | .bool b,v => v = .bool b
 | .nilp,v => v = .pointer none
 | .ptr β off,v => match ρ β with
  | .unborn => False
  | .dead => ∃ ad,v = .pointer (some ad)
  | .none_ => False
  | .at b o _ _ => v = .pointer (some ⟨b,o + off,none⟩)
 | .aptr β i j,v => match ρ β with
  | .unborn => False
  | .dead => ∃ ad,v = .pointer (some ad)
  | .none_ => False
  | .at b o _ sz => v = .pointer (some ⟨b,o + i * sz + j,none⟩)
 | .eptr K x j,v => ∃ ad es,v = .pointer (some (ad.add j)) ∧ CRel w (Free ρ w) K x es ∧ Free ρ w ad.block ∧ CellsAt w ad es
 | .nils,v => ∃ a,v = .slice a 0 0
 | .own β,v => match ρ β with
  | .unborn => False
  | .dead => ∃ a n c,v = .slice a n c
  | .none_ => ∃ a,v = .slice a 0 0
  | .at b o n sz => ∃ c,n ≤ c ∧ v = .slice (some ⟨b,o,none⟩) n c ∧ Room w b (o + c * sz)
 | .sub β off len,v => match ρ β with
  | .unborn => False
  | .dead => ∃ a n c,v = .slice a n c
  | .none_ => len = 0 ∧ ∃ a,v = .slice a 0 0
  | .at b o n sz => off + len ≤ n ∧ ∃ a c,v = .slice a len c ∧ len ≤ c ∧ ((len = 0 ∧ c = 0) ∨ (a = some ⟨b,o + off * sz,none⟩ ∧ Room w b (o + off * sz + c * sz)))
 | .es K xs,v => CRel w (Free ρ w) (.list K) xs [v]
 | .agg cs,v => ∃ vs:Array Value,v = .agg vs ∧ VRels ρ w cs vs.toList
 | .arrv K xs,v => ∃ vs:Array Value,v = .agg vs ∧ vs.size = xs.length * K.sz ∧ ∀ (i:Nat) (x:K.T),xs[i]? = some x → ∃ es,CRel w (Free ρ w) K x es ∧
   ∀ (j:Nat) (u:Value),es[j]? = some u → vs[i * K.sz + j]? = some u
 | .tup cs,v => ∃ vs:Array Value,v = .tuple vs ∧ VRels ρ w cs vs.toList
 | .fn f first cap,v => ∃ vf vc:Array Value,v = .func f vf vc ∧ VRels ρ w first vf.toList ∧ VRels ρ w cap vc.toList
 | .nilf,v => v = .nilFunc
 | .iface t x,v => ∃ u,v = .iface t u ∧ VRel ρ w x u
 | .nili,v => v = .nilIface
 | .mapp β,v => match ρ β with
  | .unborn => False
  | .dead => ∃ r,v = .map r
  | .none_ => False
  | .at b _ _ _ => v = .map (some b)
 | .nilm,v => v = .map none
def VRels (ρ:Map) (w:World):List SV → List Value → Prop
 | [],vs => vs = []
 | c :: cs,vs => ∃ u us,vs = u :: us ∧ VRel ρ w c u ∧ VRels ρ w cs us
end
def RowRel (w:World) (B:Nat → Prop) (K:Kd) (xs:List K.T) (C:Array Value) (o:Nat):Prop :=
 ∀ (i:Nat) (x:K.T),xs[i]? = some x → ∃ es,CRel w B K x es ∧ ∀ (j:Nat) (u:Value),es[j]? = some u → C[o + i * K.sz + j]? = some u
def OwnAt (w:World) (B:Nat → Prop) (e:Kd) (xs:List e.T) (u:Value) (tk:List Nat):Prop :=
 (tk = [] ∧ xs = [] ∧ ∃ a,u = .slice a 0 0) ∨
 ∃ b o c C tC,tk = [b] ∧ u = .slice (some ⟨b,o,none⟩) xs.length c ∧ xs.length ≤ c ∧ w.heap[b]? = some (.cells C tC (0,0)) ∧ o + c * e.sz ≤ C.size ∧ RowRel w B e xs C o
def OwnL (w:World) (B:Nat → Prop) (e:Kd):List (List e.T) → List Value → List Nat → Prop
 | [],us,tk => us = [] ∧ tk = []
 | x :: xs,us,tk => ∃ u us' t1 t2,us = u :: us' ∧ tk = t1 ++ t2 ∧ OwnAt w B e x u t1 ∧ OwnL w B e xs us' t2
def SeqL {α:Type} (P:α → List Value → List Nat → Prop):List α → List Value → List Nat → Prop
 | [],us,tk => us = [] ∧ tk = []
 | x :: xs,us,tk => ∃ c us' t1 t2,us = c ++ us' ∧ tk = t1 ++ t2 ∧ P x c t1 ∧ SeqL P xs us' t2
def SeqX {α:Type} (Q:List Value → Prop) (P:α → List Value → List Nat → Prop):Option Nat → List α → List Value → List Nat → Prop
 | _,[],us,tk => us = [] ∧ tk = []
 | some 0,_ :: xs,us,tk => ∃ c us',us = c ++ us' ∧ Q c ∧ SeqX Q P none xs us' tk
 | some (i + 1),x :: xs,us,tk => ∃ c us' t1 t2,us = c ++ us' ∧ tk = t1 ++ t2 ∧ P x c t1 ∧ SeqX Q P (some i) xs us' t2
 | none,x :: xs,us,tk => ∃ c us' t1 t2,us = c ++ us' ∧ tk = t1 ++ t2 ∧ P x c t1 ∧ SeqX Q P none xs us' t2
def TreeC (w:World) (B:Nat → Prop):(K:Kd) → Nat → K.T → List Value → List Nat → Prop
 | .int k,_,n,cs,tk => cs = [.int k n] ∧ tk = []
 | .bool,_,b,cs,tk => cs = [.bool b] ∧ tk = []
 | .unit,_,_,cs,tk => cs = [] ∧ tk = []
 | .pair a b,d,x,cs,tk => ∃ c1 c2 t1 t2,cs = c1 ++ c2 ∧ tk = t1 ++ t2 ∧ TreeC w B a d x.1 c1 t1 ∧ TreeC w B b d x.2 c2 t2
 | .list e,d,xs,cs,tk => match d with
  | 0 => CRel w B (.list e) xs cs ∧ tk = []
  | d + 1 => (∃ a,cs = [.slice a 0 0] ∧ xs = [] ∧ tk = []) ∨
   ∃ b o c C tC us t',tk = b :: t' ∧ cs = [.slice (some ⟨b,o,none⟩) xs.length c] ∧ xs.length ≤ c ∧ w.heap[b]? = some (.cells C tC (0,0)) ∧ o + c * e.sz ≤ C.size ∧ us.length = xs.length * e.sz ∧
    (∀ (i:Nat) (v:Value),us[i]? = some v → C[o + i]? = some v) ∧ SeqL (TreeC w B e d) xs us t'
theorem SeqL.mono {α:Type} {P Q:α → List Value → List Nat → Prop}:∀ {xs:List α} {us:List Value} {tk:List Nat},(∀ x ∈ xs,∀ c t,(∀ b ∈ t,b ∈ tk) → P x c t → Q x c t) → SeqL P xs us tk → SeqL Q xs us tk
 | [],_,_,_,h => h
 | x :: xs,us,tk,hq,h => by
  simp only [SeqL] at h ⊢
  obtain ⟨c,us',t1,t2,h1,rfl,h3,h4⟩:=h
  exact ⟨c,us',t1,t2,h1,rfl,hq x (by simp) c t1 (fun b hb => List.mem_append.2 (.inl hb)) h3,SeqL.mono (fun y hy c t ht => hq y (by simp [hy]) c t (fun b hb => List.mem_append.2 (.inr (ht b hb)))) h4⟩
theorem SeqX.mono {α:Type} {R S:List Value → Prop} {P Q:α → List Value → List Nat → Prop} (hr:∀ c,R c → S c):∀ {xs:List α} {i:Option Nat} {us:List Value} {tk:List Nat},(∀ x ∈ xs,∀ c t,(∀ b ∈ t,b ∈ tk) → P x c t → Q x c t) → SeqX R P i xs us tk → SeqX S Q i xs us tk
 | [],i,_,_,_,h => by cases i <;> simpa only [SeqX] using h
 | x :: xs,none,us,tk,hq,h => by
  simp only [SeqX] at h ⊢
  obtain ⟨c,us',t1,t2,h1,rfl,h3,h4⟩:=h
  exact ⟨c,us',t1,t2,h1,rfl,hq x (by simp) c t1 (fun b hb => List.mem_append.2 (.inl hb)) h3,SeqX.mono hr (fun y hy c t ht => hq y (by simp [hy]) c t (fun b hb => List.mem_append.2 (.inr (ht b hb)))) h4⟩
 | x :: xs,some (i + 1),us,tk,hq,h => by
  simp only [SeqX] at h ⊢
  obtain ⟨c,us',t1,t2,h1,rfl,h3,h4⟩:=h
  exact ⟨c,us',t1,t2,h1,rfl,hq x (by simp) c t1 (fun b hb => List.mem_append.2 (.inl hb)) h3,SeqX.mono hr (fun y hy c t ht => hq y (by simp [hy]) c t (fun b hb => List.mem_append.2 (.inr (ht b hb)))) h4⟩
 | x :: xs,some 0,us,tk,hq,h => by
  simp only [SeqX] at h ⊢
  obtain ⟨c,us',h1,h3,h4⟩:=h
  exact ⟨c,us',h1,hr c h3,SeqX.mono hr (fun y hy c t ht => hq y (by simp [hy]) c t ht) h4⟩
theorem TreeC.keep {w w':World} {B B':Nat → Prop} (hc:∀ (K:Kd) (x:K.T) (cs:List Value),CRel w B K x cs → CRel w' B' K x cs):∀ {K:Kd} {d:Nat} {x:K.T} {cs:List Value} {tk:List Nat},(∀ b ∈ tk,w'.heap[b]? = w.heap[b]?) → TreeC w B K d x cs tk → TreeC w' B' K d x cs tk
 | .int k,_,_,_,_,_,h => h
 | .bool,_,_,_,_,_,h => h
 | .unit,_,_,_,_,_,h => h
 | .pair a b,d,x,cs,tk,hk,h => by
  simp only [TreeC] at h ⊢
  obtain ⟨c1,c2,t1,t2,h1,rfl,h3,h4⟩:=h
  exact ⟨c1,c2,t1,t2,h1,rfl,TreeC.keep hc (fun b hb => hk b (List.mem_append.2 (.inl hb))) h3,TreeC.keep hc (fun b hb => hk b (List.mem_append.2 (.inr hb))) h4⟩
 | .list e,0,xs,cs,tk,hk,h => by
  simp only [TreeC] at h ⊢
  exact ⟨hc _ _ _ h.1,h.2⟩
 | .list e,d + 1,xs,cs,tk,hk,h => by
  simp only [TreeC] at h ⊢
  rcases h with h | ⟨b,o,c,C,tC,us,t',rfl,h1,h2,h3,h4,h5,h6,h7⟩
  ·exact .inl h
  ·exact .inr ⟨b,o,c,C,tC,us,t',rfl,h1,h2,by rw [hk b (by simp)]; exact h3,h4,h5,h6,h7.mono fun x _ c t ht h8 => TreeC.keep hc (fun b' hb' => hk b' (by simp [ht b' hb'])) h8⟩
theorem TreeC.length {w:World} {B:Nat → Prop}:∀ {K:Kd} {d:Nat} {x:K.T} {cs:List Value} {tk:List Nat},TreeC w B K d x cs tk → cs.length = K.sz
 | .int k,_,_,_,_,h => by rw [h.1]; rfl
 | .bool,_,_,_,_,h => by rw [h.1]; rfl
 | .unit,_,_,_,_,h => by rw [h.1]; rfl
 | .pair a b,d,x,cs,tk,h => by
  simp only [TreeC] at h
  obtain ⟨c1,c2,t1,t2,rfl,rfl,h3,h4⟩:=h
  simp [Kd.sz,h3.length,h4.length]
 | .list e,0,xs,cs,tk,h => by
  simp only [TreeC] at h
  exact h.1.length
 | .list e,d + 1,xs,cs,tk,h => by
  simp only [TreeC] at h
  rcases h with ⟨a,rfl,_⟩ | ⟨b,o,c,C,tC,us,t',rfl,rfl,_⟩ <;> rfl
theorem SeqL.toX {α:Type} {Q:List Value → Prop} {P:α → List Value → List Nat → Prop}:∀ {xs:List α} {us:List Value} {tk:List Nat},SeqL P xs us tk ↔ SeqX Q P none xs us tk
 | [],_,_ => by simp only [SeqL,SeqX]
 | x :: xs,us,tk => by simp only [SeqL,SeqX,SeqL.toX (Q:=Q) (xs:=xs)]
theorem SeqX.open {α:Type} {Q:List Value → Prop} {P:α → List Value → List Nat → Prop}:∀ {xs:List α} {i:Nat} {us:List Value} {tk:List Nat} {x:α},xs[i]? = some x → SeqX Q P none xs us tk →
  ∃ c t1 t2,P x c t1 ∧ tk.Perm (t1 ++ t2) ∧ ∀ R:List Value → Prop,R c → SeqX R P (some i) xs us t2
 | [],i,_,_,_,h,_ => by simp at h
 | y :: xs,0,us,tk,x,hx,h => by
  simp at hx; subst hx
  simp only [SeqX] at h
  obtain ⟨c,us',t1,t2,h1,rfl,h3,h4⟩:=h
  exact ⟨c,t1,t2,h3,.refl _,fun R hR => by simp only [SeqX]; exact ⟨c,us',h1,hR,SeqL.toX.1 (SeqL.toX.2 h4)⟩⟩
 | y :: xs,i + 1,us,tk,x,hx,h => by
  simp only [SeqX] at h
  obtain ⟨c,us',t1,t2,h1,rfl,h3,h4⟩:=h
  obtain ⟨c',s1,s2,h5,h6,h7⟩:=SeqX.open (by simpa using hx) h4
  refine ⟨c',s1,t1 ++ s2,h5,?_,fun R hR => by simp only [SeqX]; exact ⟨c,us',t1,s2,h1,rfl,h3,h7 R hR⟩⟩
  exact (List.Perm.append_left t1 h6).trans (by
   rw [← List.append_assoc,← List.append_assoc]
   exact List.Perm.append_right s2 List.perm_append_comm)
theorem SeqX.close {α:Type} {Q:List Value → Prop} {P:α → List Value → List Nat → Prop}:∀ {xs:List α} {i:Nat} {us:List Value} {t2:List Nat},i < xs.length → SeqX Q P (some i) xs us t2 →
  ∃ c,Q c ∧ ∀ (x:α) (t1:List Nat),P x c t1 → ∃ tk,tk.Perm (t1 ++ t2) ∧ SeqL P (xs.set i x) us tk
 | [],i,_,_,h,_ => by simp at h
 | y :: xs,0,us,tk,hi,h => by
  simp only [SeqX] at h
  obtain ⟨c,us',h1,h3,h4⟩:=h
  exact ⟨c,h3,fun x t1 hp => ⟨t1 ++ tk,.refl _,by simp only [List.set_cons_zero,SeqL]; exact ⟨c,us',t1,tk,h1,rfl,hp,SeqL.toX.2 h4⟩⟩⟩
 | y :: xs,i + 1,us,tk,hi,h => by
  simp only [SeqX] at h
  obtain ⟨c,us',t1,t2,h1,rfl,h3,h4⟩:=h
  obtain ⟨c',h5,h6⟩:=SeqX.close (by simpa using hi) h4
  refine ⟨c',h5,fun x s1 hp => ?_⟩
  obtain ⟨tk,h7,h8⟩:=h6 x s1 hp
  refine ⟨t1 ++ tk,(List.Perm.append_left t1 h7).trans (by
   rw [← List.append_assoc,← List.append_assoc]
   exact List.Perm.append_right t2 List.perm_append_comm),?_⟩
  simp only [List.set_cons_succ,SeqL]
  exact ⟨c,us',t1,tk,h1,rfl,h3,h8⟩
theorem SeqX.len {α:Type} {Q:List Value → Prop} {P:α → List Value → List Nat → Prop} {sz:Nat} (hQ:∀ c,Q c → c.length = sz) (hP:∀ x c t,P x c t → c.length = sz):∀ {xs:List α} {i:Option Nat} {us:List Value} {tk:List Nat},SeqX Q P i xs us tk → us.length = xs.length * sz
 | [],i,_,_,h => by cases i <;> simp only [SeqX] at h <;> simp [h.1]
 | x :: xs,none,us,tk,h => by
  simp only [SeqX] at h
  obtain ⟨c,us',t1,t2,rfl,rfl,h3,h4⟩:=h
  simp only [List.length_append,List.length_cons,hP _ _ _ h3,SeqX.len hQ hP h4,Nat.add_mul]; omega
 | x :: xs,some (i + 1),us,tk,h => by
  simp only [SeqX] at h
  obtain ⟨c,us',t1,t2,rfl,rfl,h3,h4⟩:=h
  simp only [List.length_append,List.length_cons,hP _ _ _ h3,SeqX.len hQ hP h4,Nat.add_mul]; omega
 | x :: xs,some 0,us,tk,h => by
  simp only [SeqX] at h
  obtain ⟨c,us',rfl,h3,h4⟩:=h
  simp only [List.length_append,List.length_cons,hQ _ h3,SeqX.len hQ hP h4,Nat.add_mul]; omega
theorem SeqX.get {α:Type} {Q:List Value → Prop} {P:α → List Value → List Nat → Prop} {sz:Nat} (hQ:∀ c,Q c → c.length = sz) (hP:∀ x c t,P x c t → c.length = sz):∀ {xs:List α} {i:Option Nat} {us:List Value} {tk:List Nat},SeqX Q P i xs us tk → ∀ (j:Nat) (x:α),xs[j]? = some x →
  ∃ c,(∀ (k:Nat) (u:Value),c[k]? = some u → us[j * sz + k]? = some u) ∧ ((i = some j ∧ Q c) ∨ (i ≠ some j ∧ ∃ t,P x c t ∧ ∀ b ∈ t,b ∈ tk))
 | [],i,_,_,_,j,x,h => by simp at h
 | y :: xs,i,us,tk,h,j,x,hx => by
  have key:∃ c us' t1 t2 i',us = c ++ us' ∧ c.length = sz ∧ SeqX Q P i' xs us' t2 ∧ (∀ b ∈ t2,b ∈ tk) ∧ (∀ j,i' = some j ↔ i = some (j + 1)) ∧ ((i = some 0 ∧ Q c) ∨ (i ≠ some 0 ∧ P y c t1 ∧ ∀ b ∈ t1,b ∈ tk)):=by
   match i,h with
   | none,h =>
    simp only [SeqX] at h
    obtain ⟨c,us',t1,t2,rfl,rfl,h3,h4⟩:=h
    exact ⟨c,us',t1,t2,none,rfl,hP _ _ _ h3,h4,fun b hb => List.mem_append.2 (.inr hb),by simp,.inr ⟨by simp,h3,fun b hb => List.mem_append.2 (.inl hb)⟩⟩
   | some (i + 1),h =>
    simp only [SeqX] at h
    obtain ⟨c,us',t1,t2,rfl,rfl,h3,h4⟩:=h
    exact ⟨c,us',t1,t2,some i,rfl,hP _ _ _ h3,h4,fun b hb => List.mem_append.2 (.inr hb),by simp,.inr ⟨by simp,h3,fun b hb => List.mem_append.2 (.inl hb)⟩⟩
   | some 0,h =>
    simp only [SeqX] at h
    obtain ⟨c,us',rfl,h3,h4⟩:=h
    exact ⟨c,us',[],tk,none,rfl,hQ _ h3,h4,fun b hb => hb,by simp,.inl ⟨rfl,h3⟩⟩
  obtain ⟨c,us',t1,t2,i',rfl,hcl,h4,h5,h6,h7⟩:=key
  cases j with
  | zero =>
   simp at hx; subst hx
   refine ⟨c,fun k u hu => by rw [Nat.zero_mul,Nat.zero_add,List.getElem?_append_left (List.getElem?_eq_some_iff.1 hu).1]; exact hu,h7.imp id fun h => ⟨h.1,t1,h.2.1,h.2.2⟩⟩
  | succ j =>
   obtain ⟨c',h8,h9⟩:=SeqX.get hQ hP h4 j x (by simpa using hx)
   refine ⟨c',fun k u hu => ?_,h9.imp (fun h => ⟨(h6 j).1 h.1,h.2⟩) fun h => ⟨fun e => h.1 ((h6 j).2 e),?_⟩⟩
   ·rw [List.getElem?_append_right (by rw [hcl,Nat.add_mul,Nat.one_mul]; omega),hcl,show (j + 1) * sz + k - sz = j * sz + k by rw [Nat.add_mul,Nat.one_mul]; omega]
    exact h8 k u hu
   ·obtain ⟨t,h10,h11⟩:=h.2
    exact ⟨t,h10,fun b hb => h5 b (h11 b hb)⟩
theorem SeqX.put {α:Type} {Q:List Value → Prop} {P:α → List Value → List Nat → Prop} {sz:Nat} (hQ:∀ c,Q c → c.length = sz) (hP:∀ x c t,P x c t → c.length = sz):∀ {xs:List α} {i:Nat} {us:List Value} {tk:List Nat},i < xs.length → SeqX Q P (some i) xs us tk →
  Q ((us.drop (i * sz)).take sz) ∧ ∀ (R:List Value → Prop) (c':List Value),R c' → SeqX R P (some i) xs (us.take (i * sz) ++ c' ++ us.drop (i * sz + sz)) tk
 | [],i,_,_,h,_ => by simp at h
 | y :: xs,0,us,tk,hi,h => by
  simp only [SeqX] at h
  obtain ⟨c,us',rfl,h3,h4⟩:=h
  have hl:=hQ c h3
  subst hl
  refine ⟨by simpa using h3,fun R c' hR => ?_⟩
  simp only [SeqX]
  exact ⟨c',us',by simp,hR,SeqL.toX.1 (SeqL.toX.2 h4)⟩
 | y :: xs,i + 1,us,tk,hi,h => by
  simp only [SeqX] at h
  obtain ⟨c,us',t1,t2,rfl,rfl,h3,h4⟩:=h
  obtain ⟨h5,h6⟩:=SeqX.put hQ hP (by simpa using hi) h4
  have hl:=hP _ _ _ h3
  subst hl
  have e1:(i + 1) * c.length = c.length + i * c.length:=by rw [Nat.add_mul,Nat.one_mul]; omega
  rw [e1]
  refine ⟨by rw [List.drop_append,List.drop_of_length_le (by omega),List.nil_append,show c.length + i * c.length - c.length = i * c.length by omega]; exact h5,fun R c' hR => ?_⟩
  simp only [SeqX]
  refine ⟨c,_,t1,t2,?_,rfl,h3,h6 R c' hR⟩
  rw [List.take_append,List.take_of_length_le (by omega),show c.length + i * c.length - c.length = i * c.length by omega,List.drop_append,List.drop_of_length_le (by omega),show c.length + i * c.length + c.length - c.length = i * c.length + c.length by omega]
  simp
theorem SeqL.get {α:Type} {P:α → List Value → List Nat → Prop} {sz:Nat} (hP:∀ x c t,P x c t → c.length = sz):∀ {xs:List α} {us:List Value} {tk:List Nat},SeqL P xs us tk → ∀ (i:Nat) (x:α),xs[i]? = some x → ∃ c t,P x c t ∧ (∀ b ∈ t,b ∈ tk) ∧ ∀ (j:Nat) (u:Value),c[j]? = some u → us[i * sz + j]? = some u
 | [],_,_,_,i,x,h => by simp at h
 | y :: xs,us,tk,h,i,x,hx => by
  simp only [SeqL] at h
  obtain ⟨c,us',t1,t2,rfl,rfl,h3,h4⟩:=h
  cases i with
  | zero =>
   simp at hx; subst hx
   exact ⟨c,t1,h3,fun b hb => List.mem_append.2 (.inl hb),fun j u hu => by
    rw [Nat.zero_mul,Nat.zero_add,List.getElem?_append_left (List.getElem?_eq_some_iff.1 hu).1]; exact hu⟩
  | succ i =>
   obtain ⟨c',t,h5,h6,h7⟩:=SeqL.get hP h4 i x (by simpa using hx)
   refine ⟨c',t,h5,fun b hb => List.mem_append.2 (.inr (h6 b hb)),fun j u hu => ?_⟩
   have hl:=hP _ _ _ h3
   rw [List.getElem?_append_right (by rw [hl,Nat.add_mul,Nat.one_mul]; omega),hl,show (i + 1) * sz + j - sz = i * sz + j by rw [Nat.add_mul,Nat.one_mul]; omega]
   exact h7 j u hu
def Kd.noList:Kd → Bool
 | .list _ => false
 | .pair a b => a.noList && b.noList
 | _ => true
def mfind (a b:Int):List (Int × Int × Int) → Nat → Option (Nat × Int)
 | [],_ => none
 | e :: r,i => cond ((a == e.1) && (b == e.2.1)) (some (i,e.2.2)) (mfind a b r (i + 1))
def mhas (es:List (Int × Int × Int)) (a b:Int):Bool:=(mfind a b es 0).isSome
def MapRel (A:Array MapEntry) (es:List (Int × Int × Int)):Prop :=
 A.size = es.length ∧ ∀ (i:Nat) (e:Int × Int × Int),es[i]? = some e → ∃ x,A[i]? = some x ∧ x.key = .agg #[.int .i64 e.1,.int .i64 e.2.1]
abbrev keyV (a b:Int):Value:=.agg #[.int .i64 a,.int .i64 b]
def EntO (P:Int → Int → Value → List Nat → Prop) (op:Option (Int × Int)) (Q:Value → Prop):List MapEntry → List Nat → Prop
 | [],tk => tk = []
 | x :: xs,tk => ∃ a b t1 t2,x.key = keyV a b ∧ tk = t1 ++ t2 ∧ ((op = some (a,b) ∧ t1 = [] ∧ Q x.val) ∨ (op ≠ some (a,b) ∧ P a b x.val t1)) ∧ EntO P op Q xs t2
theorem zik {a b a' b':Int} (h:keyV a b = keyV a' b'):a = a' ∧ b = b':=by
 simp at h; exact h
theorem EntO.mono {P P':Int → Int → Value → List Nat → Prop} {op:Option (Int × Int)} {Q Q':Value → Prop} (hQ:∀ u,Q u → Q' u):∀ {xs:List MapEntry} {tk:List Nat},(∀ a b u t,(∀ b' ∈ t,b' ∈ tk) → P a b u t → P' a b u t) → EntO P op Q xs tk → EntO P' op Q' xs tk
 | [],_,_,h => h
 | x :: xs,tk,hP,h => by
  obtain ⟨a,b,t1,t2,h1,rfl,h3,h4⟩:=h
  refine ⟨a,b,t1,t2,h1,rfl,h3.imp (fun h => ⟨h.1,h.2.1,hQ _ h.2.2⟩) fun h => ⟨h.1,hP a b _ t1 (fun b' hb' => List.mem_append.2 (.inl hb')) h.2⟩,h4.mono hQ fun a b u t ht hp => hP a b u t (fun b' hb' => List.mem_append.2 (.inr (ht b' hb'))) hp⟩
theorem EntO.away {P P':Int → Int → Value → List Nat → Prop} {op op':Option (Int × Int)} {Q Q':Value → Prop} {p q:Int} (h1:∀ a b,(a,b) ≠ (p,q) → (op = some (a,b) ↔ op' = some (a,b))) (hP:∀ a b u t,(a,b) ≠ (p,q) → P a b u t → P' a b u t) (hQ:op = op' → ∀ u,Q u → Q' u) (hop:op = op' ∨ (∀ a b,(a,b) ≠ (p,q) → op ≠ some (a,b))) :
  ∀ {xs:List MapEntry} {tk:List Nat},(∀ x ∈ xs,x.key ≠ keyV p q) → EntO P op Q xs tk → EntO P' op' Q' xs tk
 | [],_,_,h => h
 | x :: xs,tk,hx,h => by
  obtain ⟨a,b,t1,t2,h2,rfl,h3,h4⟩:=h
  have hne:(a,b) ≠ (p,q):=fun e => hx x (by simp) (by rw [h2]; simp only [Prod.mk.injEq] at e; rw [e.1,e.2])
  refine ⟨a,b,t1,t2,h2,rfl,?_,h4.away h1 hP hQ hop fun y hy => hx y (by simp [hy])⟩
  rcases h3 with h3 | h3
  ·refine .inl ⟨(h1 a b hne).1 h3.1,h3.2.1,hQ ?_ _ h3.2.2⟩
   rcases hop with h | h
   ·exact h
   ·exact absurd h3.1 (h a b hne)
  ·exact .inr ⟨fun h => h3.1 ((h1 a b hne).2 h),hP a b _ t1 hne h3.2⟩
theorem EntO.open {P:Int → Int → Value → List Nat → Prop} {Q:Value → Prop} {p q:Int}:∀ {xs:List MapEntry} {tk:List Nat},(xs.map MapEntry.key).Nodup → (∃ x ∈ xs,x.key = keyV p q) → EntO P none Q xs tk →
  ∃ x t1 t2,x ∈ xs ∧ x.key = keyV p q ∧ P p q x.val t1 ∧ tk.Perm (t1 ++ t2) ∧ ∀ R:Value → Prop,R x.val → EntO P (some (p,q)) R xs t2
 | [],_,_,h,_ => by obtain ⟨x,h,_⟩:=h; cases h
 | y :: xs,tk,hnd,hex,h => by
  obtain ⟨a,b,t1,t2,h2,rfl,h3,h4⟩:=h
  rw [List.map_cons,List.nodup_cons] at hnd
  have hp:=(h3.resolve_left (fun h => by cases h.1)).2
  by_cases e:(a,b) = (p,q)
  ·simp only [Prod.mk.injEq] at e
   obtain ⟨rfl,rfl⟩:=e
   refine ⟨y,t1,t2,by simp,h2,hp,.refl _,fun R hR => ⟨a,b,[],t2,h2,rfl,.inl ⟨rfl,rfl,hR⟩,?_⟩⟩
   refine h4.away (p:=a) (q:=b) (fun a' b' hne => ⟨fun h => (by cases h),fun h => absurd (Option.some.inj h).symm hne⟩) (fun _ _ _ _ _ h => h) (fun h => (by cases h)) (.inr fun _ _ _ h => (by cases h)) fun x hx hk => hnd.1 (List.mem_map.2 ⟨x,hx,hk.trans h2.symm⟩)
  ·have hex':∃ x ∈ xs,x.key = keyV p q:=by
    obtain ⟨x,hx,hk⟩:=hex
    rcases List.mem_cons.1 hx with rfl | hx
    ·exfalso
     obtain ⟨e1,e2⟩:=zik (h2.symm.trans hk)
     exact e (by rw [e1,e2])
    ·exact ⟨x,hx,hk⟩
   obtain ⟨x,s1,s2,g1,g2,g3,g4,g5⟩:=h4.open hnd.2 hex'
   refine ⟨x,s1,t1 ++ s2,by simp [g1],g2,g3,?_,fun R hR => ⟨a,b,t1,s2,h2,rfl,.inr ⟨fun h => e (Option.some.inj h).symm,hp⟩,g5 R hR⟩⟩
   exact (List.Perm.append_left t1 g4).trans (by
    rw [← List.append_assoc,← List.append_assoc]
    exact List.Perm.append_right s2 List.perm_append_comm)
theorem EntO.close {P:Int → Int → Value → List Nat → Prop} {Q:Value → Prop} {p q:Int}:∀ {xs:List MapEntry} {t2:List Nat},(xs.map MapEntry.key).Nodup → (∃ x ∈ xs,x.key = keyV p q) → EntO P (some (p,q)) Q xs t2 →
  ∃ x,x ∈ xs ∧ x.key = keyV p q ∧ Q x.val ∧ ∀ (P':Int → Int → Value → List Nat → Prop) (R:Value → Prop) (t1:List Nat),(∀ a b u t,(a,b) ≠ (p,q) → P a b u t → P' a b u t) → P' p q x.val t1 → ∃ tk,tk.Perm (t1 ++ t2) ∧ EntO P' none R xs tk
 | [],_,_,h,_ => by obtain ⟨x,h,_⟩:=h; cases h
 | y :: xs,t2,hnd,hex,h => by
  obtain ⟨a,b,s1,s2,h2,rfl,h3,h4⟩:=h
  rw [List.map_cons,List.nodup_cons] at hnd
  by_cases e:(a,b) = (p,q)
  ·have h3':=h3.resolve_right (fun h => h.1 (by rw [e]))
   simp only [Prod.mk.injEq] at e
   obtain ⟨rfl,rfl⟩:=e
   obtain ⟨_,rfl,hQ⟩:=h3'
   refine ⟨y,by simp,h2,hQ,fun P' R t1 hP hp => ⟨t1 ++ s2,.refl _,a,b,t1,s2,h2,rfl,.inr ⟨fun h => (by cases h),hp⟩,?_⟩⟩
   refine h4.away (p:=a) (q:=b) (fun a' b' hne => ⟨fun h => absurd (Option.some.inj h).symm hne,fun h => (by cases h)⟩) hP (fun h => (by cases h)) (.inr fun a' b' hne h => hne (Option.some.inj h).symm) fun x hx hk => hnd.1 (List.mem_map.2 ⟨x,hx,hk.trans h2.symm⟩)
  ·have hp:=(h3.resolve_left (fun h => e (Option.some.inj h.1).symm)).2
   have hex':∃ x ∈ xs,x.key = keyV p q:=by
    obtain ⟨x,hx,hk⟩:=hex
    rcases List.mem_cons.1 hx with rfl | hx
    ·exfalso
     obtain ⟨e1,e2⟩:=zik (h2.symm.trans hk)
     exact e (by rw [e1,e2])
    ·exact ⟨x,hx,hk⟩
   obtain ⟨x,g1,g2,g3,g4⟩:=h4.close hnd.2 hex'
   refine ⟨x,by simp [g1],g2,g3,fun P' R t1 hP hp' => ?_⟩
   obtain ⟨tk,k1,k2⟩:=g4 P' R t1 hP hp'
   refine ⟨s1 ++ tk,(List.Perm.append_left s1 k1).trans (by
    rw [← List.append_assoc,← List.append_assoc]
    exact List.Perm.append_right s2 List.perm_append_comm),a,b,s1,tk,h2,rfl,.inr ⟨fun h => (by cases h),hP a b _ s1 e hp⟩,k2⟩
theorem EntO.put {P:Int → Int → Value → List Nat → Prop} {Q R:Value → Prop} {p q:Int} {y:Value} (hR:R y):∀ {xs:List MapEntry} {tk:List Nat} {i:Nat} {x z:MapEntry},(xs.map MapEntry.key).Nodup → xs[i]? = some x → x.key = keyV p q → z.key = keyV p q → z.val = y → EntO P (some (p,q)) Q xs tk → EntO P (some (p,q)) R (xs.set i z) tk
 | [],_,i,x,z,_,h,_,_,_,_ => by simp at h
 | y' :: xs,tk,0,x,z,hnd,hx,hk,hz,hv,h => by
  simp at hx; subst hx
  obtain ⟨a,b,s1,s2,h2,rfl,h3,h4⟩:=h
  rw [List.map_cons,List.nodup_cons] at hnd
  obtain ⟨rfl,rfl⟩:=zik (h2.symm.trans hk)
  obtain ⟨_,rfl,_⟩:=h3.resolve_right (fun h => h.1 rfl)
  refine ⟨a,b,[],s2,hz,rfl,.inl ⟨rfl,rfl,by rw [hv]; exact hR⟩,?_⟩
  have:∀ {xs:List MapEntry} {tk:List Nat},(∀ x ∈ xs,x.key ≠ keyV a b) → EntO P (some (a,b)) Q xs tk → EntO P (some (a,b)) R xs tk:=by
   intro xs
   induction xs with
   | nil => intro tk _ h; exact h
   | cons u us ih =>
    intro tk hx h
    obtain ⟨c,d,r1,r2,e1,rfl,e2,e3⟩:=h
    have hne:(some (a,b):Option (Int × Int)) ≠ some (c,d):=fun e => hx u (by simp) (by rw [e1]; simp only [Option.some.injEq,Prod.mk.injEq] at e; rw [e.1,e.2])
    exact ⟨c,d,r1,r2,e1,rfl,.inr ⟨hne,(e2.resolve_left (fun h => hne h.1)).2⟩,ih (fun x hx' => hx x (by simp [hx'])) e3⟩
  exact this (fun x hx hk' => hnd.1 (List.mem_map.2 ⟨x,hx,hk'.trans h2.symm⟩)) h4
 | y' :: xs,tk,i + 1,x,z,hnd,hx,hk,hz,hv,h => by
  obtain ⟨a,b,s1,s2,h2,rfl,h3,h4⟩:=h
  rw [List.map_cons,List.nodup_cons] at hnd
  have hx':xs[i]? = some x:=by simpa using hx
  have hne:(some (p,q):Option (Int × Int)) ≠ some (a,b):=fun e => hnd.1 (List.mem_map.2 ⟨x,List.mem_of_getElem? hx',by rw [hk,h2]; simp only [Option.some.injEq,Prod.mk.injEq] at e; rw [e.1,e.2]⟩)
  exact ⟨a,b,s1,s2,h2,rfl,.inr ⟨hne,(h3.resolve_left (fun h => hne h.1)).2⟩,h4.put hR hnd.2 hx' hk hz hv⟩
theorem EntO.push {P:Int → Int → Value → List Nat → Prop} {Q R:Value → Prop} {p q:Int} {z:MapEntry} (hz:z.key = keyV p q) (hR:R z.val):∀ {xs:List MapEntry} {tk:List Nat},(∀ x ∈ xs,x.key ≠ keyV p q) → EntO P (some (p,q)) Q xs tk → EntO P (some (p,q)) R (xs ++ [z]) tk
 | [],tk,_,h => ⟨p,q,[],[],hz,h,.inl ⟨rfl,rfl,hR⟩,rfl⟩
 | y :: xs,tk,hx,h => by
  obtain ⟨a,b,s1,s2,h2,rfl,h3,h4⟩:=h
  have hne:(some (p,q):Option (Int × Int)) ≠ some (a,b):=fun e => hx y (by simp) (by rw [h2]; simp only [Option.some.injEq,Prod.mk.injEq] at e; rw [e.1,e.2])
  exact ⟨a,b,s1,s2,h2,rfl,.inr ⟨hne,(h3.resolve_left (fun h => hne h.1)).2⟩,h4.push hz hR fun x hx' => hx x (by simp [hx'])⟩
def keyM (x:Int × Int × SV):Int × Int:=(x.1,x.2.1)
def MapZ (ρ:Map) (w:World) {α:Type} (f:Int → Int → List α) (ex:Option (Int × Int × SV)) (A:Array MapEntry):Prop :=
 ∀ p q,(∀ x ∈ A.toList,x.key ≠ keyV p q) → (ex.map keyM ≠ some (p,q) → f p q = []) ∧ ∀ v,ex = some (p,q,v) → ∀ a,VRel ρ w v (.slice a 0 0)
def ExM (ρ:Map) (w:World) (ex:Option (Int × Int × SV)) (u:Value):Prop:=∀ x,ex = some x → VRel ρ w x.2.2 u
def ExRel (ρ:Map) (w:World) (ex:Option (Nat × List SV)) (c:List Value):Prop:=∀ p,ex = some p → VRels ρ w p.2 c
def BRel (ρ:Map) (w:World) (b o n sz:Nat):Blk → Prop
 | .dead => False
 | .cells cs _ z => z = sz ∧ cs.length = n * sz ∧ ∃ C tC,w.heap[b]? = some (.cells C tC (0,0)) ∧ o + n * sz ≤ C.size ∧ ∀ (j:Nat) (s:SV),cs[j]? = some s → ∃ u,C[o + j]? = some u ∧ VRel ρ w s u
 | .arr K xs _ => xs.length = n ∧ K.sz = sz ∧ ∃ C tC,w.heap[b]? = some (.cells C tC (0,0)) ∧ o + n * sz ≤ C.size ∧ RowRel w (Free ρ w) K xs C o
 | .tree d e xs ex => xs.length = n ∧ e.sz = sz ∧ ∃ C tC us tk,w.heap[b]? = some (.cells C tC (0,0)) ∧ o + n * sz ≤ C.size ∧ us.length = n * sz ∧ (∀ (i:Nat) (v:Value),us[i]? = some v → C[o + i]? = some v) ∧
   SeqX (ExRel ρ w ex) (TreeC w (Free ρ w) e d) (ex.map Prod.fst) xs us tk ∧ tk.Nodup ∧ (∀ b' ∈ tk,ρ.vl b' = some b) ∧ ∀ p,ex = some p → p.1 < n ∧ p.2.length = sz
 | .mapi es => n = 0 ∧ sz = 0 ∧ ∃ A c,w.heap[b]? = some (.map A c) ∧ MapRel A es
 | .mapo e f ex => n = 0 ∧ sz = 0 ∧ ∃ A c es tk,w.heap[b]? = some (.map A c) ∧ MapRel A es ∧ (A.toList.map MapEntry.key).Nodup ∧ MapZ ρ w f ex A ∧
   EntO (fun p q u t => TreeC w (Free ρ w) (.list e) 1 (f p q) [u] t) (ex.map keyM) (ExM ρ w ex) A.toList tk ∧ tk.Nodup ∧ ∀ b' ∈ tk,ρ.vl b' = some b
structure HRel (ρ:Map) (H:Heap) (w:World):Prop where
 dead:∀ β,β < H.length → ρ β = .dead → H[β]? = some .dead
 none_:∀ β,β < H.length → ρ β = .none_ → (∃ K t,H[β]? = some (.arr K [] t)) ∨ (∃ t z,H[β]? = some (.cells [] t z)) ∨ ∃ d e,H[β]? = some (.tree d e [] none)
 at_:∀ β,β < H.length → ∀ b o n sz,ρ β = .at b o n sz → ∃ x,H[β]? = some x ∧ BRel ρ w b o n sz x
 inj:∀ β γ b o n sz o' n' sz',ρ β = .at b o n sz → ρ γ = .at b o' n' sz' → β = γ
 lt:∀ β b o n sz,ρ β = .at b o n sz → b < w.heap.size
 resl:∀ b,ρ.res b → b < w.heap.size
 resf:∀ β b o n sz,ρ β = .at b o n sz → ¬ ρ.res b
 vr:∀ b t,ρ.vl b = some t → ¬ ρ.res0 b
def Ours (ρ:Map) (w:World) (b:Nat):Prop:=(∃ β o n sz,ρ β = .at b o n sz) ∨ w.heap.size ≤ b ∨ ρ.vl b ≠ none
structure Step (ρ:Map) (w:World) (ρ':Map) (w':World):Prop where
 os:w'.os = w.os
 tape:w'.tape = w.tape
 output:w'.output = w.output
 size:w.heap.size ≤ w'.heap.size
 kept:∀ b,b < w.heap.size → (∀ β o n sz,ρ β ≠ .at b o n sz) → ρ.vl b = none → w'.heap[b]? = w.heap[b]?
 shape:∀ (b:Nat) C t fr,w.heap[b]? = some (.cells C t fr) → ∃ C',w'.heap[b]? = some (.cells C' t fr) ∧ C'.size = C.size
 img:∀ β b o n sz,ρ' β = .at b o n sz → Ours ρ w b
 ref:∀ β,ρ β ≠ .unborn → ρ' β = ρ β ∨ ρ' β = .dead
 res:ρ'.res0 = ρ.res0
 vl:∀ b t,ρ'.vl b = some t → Ours ρ w b
theorem not_res {ρ:Map} {b:Nat} (h:¬ ρ.res b):¬ ρ.res0 b ∧ ρ.vl b = none:=by
 unfold Map.res at h
 refine ⟨fun h1 => h (.inl h1),?_⟩
 cases hv:ρ.vl b with
 | none => rfl
 | some t => exact absurd (.inr (by rw [hv]; simp)) h
theorem ours_vl {ρ:Map} {w:World} {b t:Nat} (h:ρ.vl b = some t):Ours ρ w b:=.inr (.inr (by rw [h]; simp))
theorem zil {ρ:Map} {w:World} {b:Nat} (hf:Free ρ w b):¬ Ours ρ w b:=by
 rintro (⟨β,o,n,sz,h⟩ | h | h)
 ·exact hf.2.2 _ _ _ _ h
 ·exact absurd hf.1 (by omega)
 ·exact h (not_res hf.2.1).2
theorem Step.free {ρ ρ':Map} {w w':World} (h:Step ρ w ρ' w') (b:Nat) (hf:Free ρ w b):w'.heap[b]? = w.heap[b]?:=h.kept b hf.1 hf.2.2 (not_res hf.2.1).2
theorem Free.step {ρ ρ':Map} {w w':World} (h:Step ρ w ρ' w') {b:Nat} (hf:Free ρ w b):Free ρ' w' b:=by
 refine ⟨Nat.lt_of_lt_of_le hf.1 h.size,fun hr => ?_,fun β o n sz e => zil hf (h.img β b o n sz e)⟩
 rcases hr with hr | hr
 ·exact hf.2.1 (.inl (by rw [← h.res]; exact hr))
 ·cases hv:ρ'.vl b with
  | none => exact hr hv
  | some t => exact zil hf (h.vl b t hv)
theorem Room.step {ρ ρ':Map} {w w':World} (h:Step ρ w ρ' w') {b k:Nat} (hr:Room w b k):Room w' b k:=by
 obtain ⟨C,t,hb,hk⟩:=hr
 obtain ⟨C',hb',hs⟩:=h.shape _ _ _ _ hb
 exact ⟨C',t,hb',by omega⟩
theorem Step.refl (ρ:Map) (w:World):Step ρ w ρ w :=
 ⟨rfl,rfl,rfl,Nat.le_refl _,fun _ _ _ _ => rfl,fun _ C _ _ h => ⟨C,h,rfl⟩,fun β b o n sz h => .inl ⟨β,o,n,sz,h⟩,fun _ _ => .inl rfl,rfl,fun _ _ h => ours_vl h⟩
theorem Step.ours {ρ ρ1:Map} {w w1:World} (h:Step ρ w ρ1 w1) {b:Nat} (hb:Ours ρ1 w1 b):Ours ρ w b:=by
 rcases hb with ⟨β,o,n,sz,e⟩ | e | e
 ·exact h.img _ _ _ _ _ e
 ·exact .inr (.inl (Nat.le_trans h.size e))
 ·cases hv:ρ1.vl b with
  | none => exact absurd hv e
  | some t => exact h.vl b t hv
theorem Step.trans {ρ ρ1 ρ2:Map} {w w1 w2:World} (h:Step ρ w ρ1 w1) (k:Step ρ1 w1 ρ2 w2):Step ρ w ρ2 w2 where
 os:=k.os.trans h.os
 tape:=k.tape.trans h.tape
 output:=k.output.trans h.output
 size:=Nat.le_trans h.size k.size
 kept b hb hn hv:=by
  have hno:¬ Ours ρ w b:=by
   rintro (⟨β,o,n,sz,e⟩ | e | e)
   ·exact hn _ _ _ _ e
   ·omega
   ·exact e hv
  refine (k.kept b (Nat.lt_of_lt_of_le hb h.size) (fun β o n sz e => hno (h.img β b o n sz e)) ?_).trans (h.kept b hb hn hv)
  cases hv1:ρ1.vl b with
  | none => rfl
  | some t => exact absurd (h.vl b t hv1) hno
 shape b C t fr hb:=by
  obtain ⟨C',h1,h2⟩:=h.shape b C t fr hb
  obtain ⟨C'',h3,h4⟩:=k.shape b C' t fr h1
  exact ⟨C'',h3,h4.trans h2⟩
 img β b o n sz e:=h.ours (k.img β b o n sz e)
 ref β hu:=by
  rcases h.ref β hu with e | e
  ·rcases k.ref β (by rw [e]; exact hu) with e2 | e2
   ·exact .inl (e2.trans e)
   ·exact .inr e2
  ·rcases k.ref β (by rw [e]; simp) with e2 | e2
   ·exact .inr (e2.trans e)
   ·exact .inr e2
 res:=k.res.trans h.res
 vl b t hb:=h.ours (k.vl b t hb)
structure StepF (ρ:Map) (w:World) (ρ':Map) (w':World):Prop where
 free:∀ b,Free ρ w b → Free ρ' w' b
 kept:∀ b,Free ρ w b → w'.heap[b]? = w.heap[b]?
 shape:∀ (b:Nat) C t fr,w.heap[b]? = some (.cells C t fr) → ∃ C',w'.heap[b]? = some (.cells C' t fr) ∧ C'.size = C.size
 ref:∀ β,ρ β ≠ .unborn → ρ' β = ρ β ∨ ρ' β = .dead
theorem Step.toF {ρ ρ':Map} {w w':World} (h:Step ρ w ρ' w'):StepF ρ w ρ' w':=⟨fun _ hb => hb.step h,h.free,h.shape,h.ref⟩
theorem Room.stepF {ρ ρ':Map} {w w':World} (h:StepF ρ w ρ' w') {b k:Nat} (hr:Room w b k):Room w' b k:=by
 obtain ⟨C,t,hb,hk⟩:=hr
 obtain ⟨C',hb',hs⟩:=h.shape _ _ _ _ hb
 exact ⟨C',t,hb',by omega⟩
theorem CRel.stepF {ρ ρ':Map} {w w':World} (h:StepF ρ w ρ' w') {K:Kd} {x:K.T} {cs:List Value} (hc:CRel w (Free ρ w) K x cs):CRel w' (Free ρ' w') K x cs :=
 CRel.mono (fun _ hb => h.free _ hb) (fun b hb => h.kept b hb) hc
theorem CellsAt.stepF {ρ ρ':Map} {w w':World} (h:StepF ρ w ρ' w') {ad:Addr} {cs:List Value} (hf:Free ρ w ad.block) (hc:CellsAt w ad cs):CellsAt w' ad cs:=by
 intro j u hu
 rw [World.cell?_of_block (w:=w)]
 ·exact hc j u hu
 ·rw [zij]; exact h.kept _ hf
mutual
theorem VRel.stepF {ρ ρ':Map} {w w':World} (h:StepF ρ w ρ' w'):∀ {s:SV} {v:Value},VRel ρ w s v → VRel ρ' w' s v
 | .junk,_,_ => by simp [VRel]
 | .int ..,_,hv => by simpa [VRel] using hv
 | .bool _,_,hv => by simpa [VRel] using hv
 | .nilp,_,hv => by simpa [VRel] using hv
 | .ptr β off,v,hv => by
  simp only [VRel] at hv ⊢
  rcases hr:ρ β with _ | _ | _ | ⟨b,o,n,sz⟩ <;> rw [hr] at hv <;> simp only at hv
  ·rcases h.ref β (by rw [hr]; simp) with e | e <;> rw [e] <;> (first | exact hv | (simp only [hr]; exact hv))
  ·subst hv
   rcases h.ref β (by rw [hr]; simp) with e | e <;> rw [e]
   ·simp only [hr]
   ·exact ⟨_,rfl⟩
 | .aptr β i j,v,hv => by
  simp only [VRel] at hv ⊢
  rcases hr:ρ β with _ | _ | _ | ⟨b,o,n,sz⟩ <;> rw [hr] at hv <;> simp only at hv
  ·rcases h.ref β (by rw [hr]; simp) with e | e <;> rw [e] <;> (first | exact hv | (simp only [hr]; exact hv))
  ·subst hv
   rcases h.ref β (by rw [hr]; simp) with e | e <;> rw [e]
   ·simp only [hr]
   ·exact ⟨_,rfl⟩
 | .eptr K x j,v,hv => by
  simp only [VRel] at hv ⊢
  obtain ⟨ad,es,rfl,h1,h2,h3⟩:=hv
  exact ⟨ad,es,rfl,h1.stepF h,h.free _ h2,h3.stepF h h2⟩
 | .nils,_,hv => by simpa [VRel] using hv
 | .own β,v,hv => by
  simp only [VRel] at hv ⊢
  rcases hr:ρ β with _ | _ | _ | ⟨b,o,n,sz⟩ <;> rw [hr] at hv <;> simp only at hv
  ·rcases h.ref β (by rw [hr]; simp) with e | e <;> rw [e] <;> (first | exact hv | (simp only [hr]; exact hv))
  ·rcases h.ref β (by rw [hr]; simp) with e | e <;> rw [e]
   ·simp only [hr]; exact hv
   ·obtain ⟨a,rfl⟩:=hv; exact ⟨_,_,_,rfl⟩
  ·rcases h.ref β (by rw [hr]; simp) with e | e <;> rw [e]
   ·simp only [hr]
    obtain ⟨c,h1,h2,h3⟩:=hv
    exact ⟨c,h1,h2,h3.stepF h⟩
   ·obtain ⟨c,h1,rfl,h3⟩:=hv; exact ⟨_,_,_,rfl⟩
 | .sub β off len,v,hv => by
  simp only [VRel] at hv ⊢
  rcases hr:ρ β with _ | _ | _ | ⟨b,o,n,sz⟩ <;> rw [hr] at hv <;> simp only at hv
  ·rcases h.ref β (by rw [hr]; simp) with e | e <;> rw [e] <;> (first | exact hv | (simp only [hr]; exact hv))
  ·rcases h.ref β (by rw [hr]; simp) with e | e <;> rw [e]
   ·simp only [hr]; exact hv
   ·obtain ⟨_,a,rfl⟩:=hv; exact ⟨_,_,_,rfl⟩
  ·rcases h.ref β (by rw [hr]; simp) with e | e <;> rw [e]
   ·simp only [hr]
    obtain ⟨h0,a,c,h1,h2,h3⟩:=hv
    exact ⟨h0,a,c,h1,h2,h3.imp id fun h4 => ⟨h4.1,h4.2.stepF h⟩⟩
   ·obtain ⟨h0,a,c,rfl,h2,h3⟩:=hv; exact ⟨_,_,_,rfl⟩
 | .es K xs,v,hv => by
  simp only [VRel] at hv ⊢
  exact hv.stepF h
 | .agg cs,v,hv => by
  simp only [VRel] at hv ⊢
  obtain ⟨vs,rfl,h1⟩:=hv
  exact ⟨vs,rfl,VRels.stepF h h1⟩
 | .arrv K xs,v,hv => by
  simp only [VRel] at hv ⊢
  obtain ⟨vs,rfl,h1,h2⟩:=hv
  refine ⟨vs,rfl,h1,fun i x hx => ?_⟩
  obtain ⟨es,h3,h4⟩:=h2 i x hx
  exact ⟨es,h3.stepF h,h4⟩
 | .tup cs,v,hv => by
  simp only [VRel] at hv ⊢
  obtain ⟨vs,rfl,h1⟩:=hv
  exact ⟨vs,rfl,VRels.stepF h h1⟩
 | .fn f first cap,v,hv => by
  simp only [VRel] at hv ⊢
  obtain ⟨vf,vc,rfl,h1,h2⟩:=hv
  exact ⟨vf,vc,rfl,VRels.stepF h h1,VRels.stepF h h2⟩
 | .nilf,_,hv => by simpa [VRel] using hv
 | .iface t x,v,hv => by
  simp only [VRel] at hv ⊢
  obtain ⟨u,rfl,h1⟩:=hv
  exact ⟨u,rfl,VRel.stepF h h1⟩
 | .nili,_,hv => by simpa [VRel] using hv
 | .mapp β,v,hv => by
  simp only [VRel] at hv ⊢
  rcases hr:ρ β with _ | _ | _ | ⟨b,o,n,sz⟩ <;> rw [hr] at hv <;> simp only at hv
  ·rcases h.ref β (by rw [hr]; simp) with e | e <;> rw [e] <;> (first | exact hv | (simp only [hr]; exact hv))
  ·subst hv
   rcases h.ref β (by rw [hr]; simp) with e | e <;> rw [e]
   ·simp only [hr]
   ·exact ⟨_,rfl⟩
 | .nilm,_,hv => by simpa [VRel] using hv
theorem VRels.stepF {ρ ρ':Map} {w w':World} (h:StepF ρ w ρ' w'):∀ {cs:List SV} {vs:List Value},VRels ρ w cs vs → VRels ρ' w' cs vs
 | [],_,hv => by simpa [VRels] using hv
 | c :: cs,vs,hv => by
  simp only [VRels] at hv ⊢
  obtain ⟨u,us,rfl,h1,h2⟩:=hv
  exact ⟨u,us,rfl,VRel.stepF h h1,VRels.stepF h h2⟩
end
theorem CRel.step {ρ ρ':Map} {w w':World} (h:Step ρ w ρ' w') {K:Kd} {x:K.T} {cs:List Value} (hc:CRel w (Free ρ w) K x cs):CRel w' (Free ρ' w') K x cs:=hc.stepF h.toF
theorem CellsAt.step {ρ ρ':Map} {w w':World} (h:Step ρ w ρ' w') {ad:Addr} {cs:List Value} (hf:Free ρ w ad.block) (hc:CellsAt w ad cs):CellsAt w' ad cs:=hc.stepF h.toF hf
theorem VRel.step {ρ ρ':Map} {w w':World} (h:Step ρ w ρ' w') {s:SV} {v:Value} (hv:VRel ρ w s v):VRel ρ' w' s v:=hv.stepF h.toF
theorem VRels.step {ρ ρ':Map} {w w':World} (h:Step ρ w ρ' w') {cs:List SV} {vs:List Value} (hv:VRels ρ w cs vs):VRels ρ' w' cs vs:=hv.stepF h.toF
theorem VRels.length {ρ:Map} {w:World}:∀ {cs:List SV} {vs:List Value},VRels ρ w cs vs → cs.length = vs.length
 | [],_,h => by simp only [VRels] at h; subst h; rfl
 | c :: cs,vs,h => by
  simp only [VRels] at h
  obtain ⟨u,us,rfl,_,h2⟩:=h
  simp [VRels.length h2]
theorem VRels.get {ρ:Map} {w:World}:∀ {cs:List SV} {vs:List Value} (h:VRels ρ w cs vs) (i:Nat) (s:SV),cs[i]? = some s → ∃ u,vs[i]? = some u ∧ VRel ρ w s u
 | [],_,_,i,s,hs => by simp at hs
 | c :: cs,vs,h,i,s,hs => by
  simp only [VRels] at h
  obtain ⟨u,us,rfl,h1,h2⟩:=h
  cases i with
  | zero => simp at hs; subst hs; exact ⟨u,rfl,h1⟩
  | succ i => simp at hs; simpa using VRels.get h2 i s hs
theorem VRels.of {ρ:Map} {w:World}:∀ {cs:List SV} {vs:List Value},cs.length = vs.length → (∀ (i:Nat) (s:SV) (u:Value),cs[i]? = some s → vs[i]? = some u → VRel ρ w s u) → VRels ρ w cs vs
 | [],[],_,_ => by simp [VRels]
 | [],_ :: _,h,_ => by simp at h
 | _ :: _,[],h,_ => by simp at h
 | c :: cs,u :: us,h,hr => by
  simp only [VRels]
  exact ⟨u,us,rfl,hr 0 c u rfl rfl,VRels.of (by simpa using h) fun i s v h1 h2 => hr (i + 1) s v (by simpa using h1) (by simpa using h2)⟩
theorem VRels.append {ρ:Map} {w:World}:∀ {cs ds:List SV} {vs us:List Value},VRels ρ w cs vs → VRels ρ w ds us → VRels ρ w (cs ++ ds) (vs ++ us)
 | [],_,_,_,h,h2 => by simp only [VRels] at h; subst h; simpa using h2
 | c :: cs,ds,vs,us,h,h2 => by
  simp only [VRels] at h
  obtain ⟨u,us',rfl,h1,h3⟩:=h
  simp only [List.cons_append,VRels]
  exact ⟨u,_,rfl,h1,VRels.append h3 h2⟩
end Go.Proofs.YtljojacnjjgceaaGreat.Den
namespace Go.Proofs.YtljojacnjjgceaaGreat.Den
open Go Go.RowKit
def Tm.get:List (Nat × SV) → Nat → SV
 | [],_ => .junk
 | (m,v) :: r,n => cond (Nat.beq m n) v (Tm.get r n)
abbrev Env:=List (Nat × SV)
inductive S where
 | t (n:Nat)
 | c (v:SV)
def S.ev (τ:Env):S → SV
 | .t n => Tm.get τ n
 | .c v => v
def enc:(K:Kd) → K.T → List SV
 | .int k,n => [.int k n]
 | .bool,b => [.bool b]
 | .unit,_ => []
 | .pair a b,x => enc a x.1 ++ enc b x.2
 | .list e,xs => [.es e xs]
def decRows {α:Type} (f:List SV → Option α) (sz:Nat):Nat → List SV → Option (List α)
 | 0,cs => match cs with | [] => some [] | _ => none
 | n + 1,cs => match f (cs.take sz),decRows f sz n (cs.drop sz) with
  | some x,some r => some (x :: r)
  | _,_ => none
def decH (dp:Bool) (H:Heap):(K:Kd) → List SV → Option K.T
 | .int k,cs => match cs with
  | [.int k' n] => if k' = k then some n else none
  | _ => none
 | .bool,cs => match cs with
  | [.bool b] => some b
  | _ => none
 | .unit,cs => match cs with
  | [] => some ()
  | _ => none
 | .pair a b,cs => match decH dp H a (cs.take a.sz),decH dp H b (cs.drop a.sz) with
  | some x,some y => some (x,y)
  | _,_ => none
 | .list e,cs => match cs with
  | [.es e' xs] => if h:e' = e then some (h ▸ xs) else none
  | [.nils] => some []
  | [.own β] => match H[β]? with
   | some (.arr e' xs _) => if h:e' = e then some (h ▸ xs) else none
   | some (.cells ds _ z) => if z = e.sz ∧ z ≠ 0 then decRows (decH dp (cond dp H []) e) e.sz (ds.length / e.sz) ds else none
   | some (.tree _ e' xs ex) => if h:e' = e then (if dp = true then (match ex with
    | none => some (h ▸ xs)
    | some (i,ds) => match decH dp (cond dp H []) e ds with
     | some y => some ((h ▸ xs:List e.T).set i y)
     | none => none) else none) else none
   | _ => none
  | [.sub β off len] => match H[β]? with
   | some (.arr e' xs _) => if h:e' = e then some (((h ▸ xs:List e.T).drop off).take len) else none
   | some (.cells ds _ z) => if dp = true ∧ z = e.sz ∧ z ≠ 0 ∧ len ≠ 0 then decRows (decH dp (cond dp H []) e) e.sz len ((ds.drop (off * e.sz)).take (len * e.sz)) else none
   | _ => none
  | _ => none
mutual
def SV.refs:SV → List Nat
 | .ptr b _ | .aptr b _ _ | .own b | .sub b _ _ | .mapp b => [b]
 | .agg cs | .tup cs => SV.refsL cs
 | .fn _ a b => SV.refsL a ++ SV.refsL b
 | .iface _ v => v.refs
 | _ => []
def SV.refsL:List SV → List Nat
 | [] => []
 | c :: cs => c.refs ++ SV.refsL cs
end
mutual
def SV.ren (f:Nat → Option Nat):SV → SV
 | .ptr b o => match f b with | some b' => .ptr b' o | none => .junk
 | .aptr b i j => match f b with | some b' => .aptr b' i j | none => .junk
 | .own b => match f b with | some b' => .own b' | none => .junk
 | .sub b o l => match f b with | some b' => .sub b' o l | none => .junk
 | .agg cs => .agg (SV.renL f cs)
 | .tup cs => .tup (SV.renL f cs)
 | .fn g a b => .fn g (SV.renL f a) (SV.renL f b)
 | .iface t v => .iface t (v.ren f)
 | .junk => .junk
 | .int k n => .int k n
 | .bool b => .bool b
 | .nilp => .nilp
 | .eptr K x j => .eptr K x j
 | .nils => .nils
 | .es K xs => .es K xs
 | .arrv K xs => .arrv K xs
 | .nilf => .nilf
 | .nili => .nili
 | .mapp b => match f b with | some b' => .mapp b' | none => .junk
 | .nilm => .nilm
def SV.renL (f:Nat → Option Nat):List SV → List SV
 | [] => []
 | c :: cs => c.ren f :: SV.renL f cs
end
def Blk.ren (f:Nat → Option Nat):Blk → Blk
 | .dead => .dead
 | .cells cs _ z => .cells (SV.renL f cs) 0 z
 | .arr K xs _ => .arr K xs 0
 | .tree d e xs ex => .tree d e xs (ex.map fun p => (p.1,SV.renL f p.2))
 | .mapi es => .mapi es
 | .mapo e g ex => .mapo e g (ex.map fun p => (p.1,p.2.1,p.2.2.ren f))
def Blk.refs:Blk → List Nat
 | .cells cs _ _ => SV.refsL cs
 | .mapo _ _ ex => match ex with
  | some p => p.2.2.refs
  | none => []
 | .tree _ _ _ ex => match ex with
  | some p => SV.refsL p.2
  | none => []
 | _ => []
def kill:List Nat → Heap → Heap
 | [],H => H
 | r :: rs,H => kill rs (H.set r .dead)
def SV.cells?:SV → Option (List SV)
 | .agg cs => some cs
 | .tup _ | .arrv _ _ | .junk => none
 | v => some [v]
def SV.oneB:SV → Bool
 | .agg _ | .tup _ | .arrv _ _ | .junk => false
 | _ => true
def setCells (cs:List SV) (off:Nat) (vs:List SV):List SV:=cs.take off ++ (vs ++ cs.drop (off + vs.length))
abbrev LIM:Nat:=4294967296
def childB (d:Nat) (e:Kd) (xs:List e.T):Blk:=match d with
 | 0 => .arr e xs 0
 | d + 1 => .tree (d + 1) e xs none
def expl:(K:Kd) → Nat → K.T → Nat → List SV × List Blk
 | .int k,_,n,_ => ([.int k n],[])
 | .bool,_,b,_ => ([.bool b],[])
 | .unit,_,_,_ => ([],[])
 | .pair a b,d,x,k => ((expl a d x.1 k).1 ++ (expl b d x.2 (k + (expl a d x.1 k).2.length)).1,(expl a d x.1 k).2 ++ (expl b d x.2 (k + (expl a d x.1 k).2.length)).2)
 | .list e,d,xs,k => match d with
  | 0 => ([.es e xs],[])
  | d + 1 => ([.own k],[childB d e xs])
def readRows {α:Type} (f:List SV → Option (α × List Nat)) (sz:Nat):Nat → List SV → Option (List α × List Nat)
 | 0,cs => match cs with | [] => some ([],[]) | _ => none
 | n + 1,cs => match f (cs.take sz),readRows f sz n (cs.drop sz) with
  | some x,some r => some (x.1 :: r.1,x.2 ++ r.2)
  | _,_ => none
def readT (dp:Bool) (H:Heap):(K:Kd) → Nat → List SV → Option (K.T × List Nat)
 | .int k,_,cs => match cs with
  | [.int k' n] => if k' = k then some (n,[]) else none
  | _ => none
 | .bool,_,cs => match cs with
  | [.bool b] => some (b,[])
  | _ => none
 | .unit,_,cs => match cs with
  | [] => some ((),[])
  | _ => none
 | .pair a b,d,cs => match readT dp H a d (cs.take a.sz),readT dp H b d (cs.drop a.sz) with
  | some x,some y => some ((x.1,y.1),x.2 ++ y.2)
  | _,_ => none
 | .list e,d,cs => match d with
  | 0 => match decH true [] (.list e) cs with
   | some x => some (x,[])
   | none => none
  | d + 1 => match cs with
   | [.nils] => some ([],[])
   | [.own γ] => match H[γ]? with
    | some (.arr e' xs _) => if h:e' = e then (match d with
     | 0 => some (h ▸ xs,[γ])
     | _ => cond e'.noList (some (h ▸ xs,[γ])) (match xs with
      | [] => some ([],[γ])
      | _ => none)) else none
    | some (.tree d' e' xs ex) => if h:e' = e then (if d' = d then (match ex with
     | none => some (h ▸ xs,[γ])
     | some (i,ds) => match readT dp H e d ds with
      | some y => some ((h ▸ xs:List e.T).set i y.1,γ :: y.2)
      | none => none) else none) else none
    | some (.cells ds _ z) => if dp = true ∧ z = e.sz ∧ z ≠ 0 then (match readRows (readT dp H e d) e.sz (ds.length / e.sz) ds with
     | some r => some (r.1,γ :: r.2)
     | none => none) else none
    | _ => none
   | _ => none
def nodupB:List Nat → Bool
 | [] => true
 | x :: r => !(r.contains x) && nodupB r
structure TE where
 X:Type
 Y:Type
 mono:Bool
 view:List SV → Heap → Option X
 fn:X → Option Y
 put:X → Y → List SV → Heap → Option (SV × Heap)
 tc:List SV → Heap → List Nat
inductive I where
 | mv (x:S)
 | pick (c a b:S)
 | alloc (zs:List SV) (t:TypeId)
 | allocA (K:Kd) (n:Nat) (t:TypeId)
 | box (t:TypeId) (x:S)
 | build (zs:List SV) (parts:List (Nat × Nat × S))
 | bsl (K:Option Kd) (frz:Bool) (sz len:Nat) (zs:List SV) (t:TypeId) (parts:List (Nat × S))
 | bse (K:Kd) (sz len:Nat) (zs:List SV) (parts:List (Nat × S))
 | boxe (K:Kd) (x:S)
 | ld (n:Nat) (ag:Bool) (x:S)
 | ldc (n:Nat) (ag:Bool) (s:Nat)
 | iac (sz:Nat) (s:Nat) (i:S)
 | st (n:Nat) (x v:S)
 | ldx (n:Nat) (ag:Bool) (x:S)
 | appt (d:Nat) (K:Kd) (sz:Nat) (t:TypeId) (s x:S)
 | nilck (x:S)
 | bin (op:BinOp) (x y:S)
 | beq (neg:Bool) (x y:S)
 | eqs (neg:Bool) (n:Nat) (x y:S)
 | not (x:S)
 | neg (x:S)
 | conv (k:IntKind) (x:S)
 | fa (off:Nat) (x:S)
 | fld (off n:Nat) (ag:Bool) (x:S)
 | ia (sz:Nat) (x i:S)
 | iar (len sz:Nat) (x i:S)
 | ixa (len sz:Nat) (ag:Bool) (x i:S)
 | sl (sz:Nat) (x:S) (lo hi mx:Option S)
 | ext (j:Nat) (x:S)
 | len (x:S)
 | app (K:Option Kd) (sz:Nat) (t:TypeId) (s x:S)
 | app0 (K:Option Kd) (sz:Nat) (t:TypeId) (s x:S)
 | mk (K:Option Kd) (zs:List SV) (t:TypeId) (n:S) (cap:Option S)
 | ixs (bs:List Nat) (i:S)
 | nilt (neg:Bool) (x:S)
 | cap0 (x:S)
 | appz (K:Kd) (t:TypeId) (s n:S)
 | mn (x y:S)
 | mx (x y:S)
 | mkif (t:TypeId) (x:S)
 | tas (t:TypeId) (ok:Bool) (zs:SV) (x:S)
 | mkfn (f:Fn) (first cap:List S)
 | mkmap
 | mapset (m x v:S)
 | maplk (m x:S)
 | mapz (z:SV) (m x:S)
 | call (f:FuncId) (args:List S)
 | callz (f:FuncId) (args:List S)
 | callv (x:S) (args:List S)
 | inv (x:S) (m:String) (args:List S)
structure GI where
 d:Option Nat
 g:Option (Nat × Bool)
 i:I
structure Norm where
 live:List Nat
 fix:List (Nat × Option Nat × Kd × Bool)
 tr:List (Nat × Option Nat × Kd × Nat):=[]
 op:List (Nat × Nat × Nat × Option Nat):=[]
inductive C where
 | skip
 | reg (draw:Bool) (gs:List GI)
 | seq (a b:C)
 | cnd (s:S) (a b:C)
 | blk (id:Nat) (a:C)
 | loop (n:Norm) (a:C)
 | cut (n:Norm)
 | exit (id:Nat)
 | ret
 | bad
inductive Ex where
 | normal
 | exit (id:Nat)
 | ret
structure IE where
 go:(R:Type) → List SV → Heap → (SV → Heap → Option R) → Option R
 nat:∀ (R:Type) (args:List SV) (H:Heap) (k:SV → Heap → Option R),go R args H k = (go (SV × Heap) args H fun v H => some (v,H)).bind fun p => k p.1 p.2
structure Tab where
 te:FuncId → List TE
 meth:TypeId → String → Option FuncId
 inl:FuncId → Option IE
abbrev tst {R:Type} (b:Bool) (x:Option R):Option R:=cond b x none
section
variable {R:Type}
def getC (cs:List SV) (off n:Nat) (ag:Bool) (k:SV → Option R):Option R :=
 match ag with
 | false => match cs[off]? with
  | some s => k s
  | none => none
 | true => if off + n ≤ cs.length then k (.agg ((cs.drop off).take n)) else none
def SV.isEs:SV → Bool
 | .es _ _ => true
 | .agg cs => cs.any fun s => match s with | .es _ _ => true | _ => false
 | _ => false
def getP (cs:List SV) (j n:Nat) (ag:Bool) (k:SV → Option R):Option R:=getC cs j n ag fun v => cond v.isEs none (k v)
def ldI (H:Heap) (n:Nat) (ag:Bool) (x:SV) (k:SV → Option R):Option R :=
 match x with
 | .ptr β off => match H[β]? with
  | some (.cells cs _ _) => getC cs off n ag k
  | some (.arr K xs _) => match ag,off with
   | true,0 => tst (Nat.beq (xs.length * K.sz) n) (k (.arrv K xs))
   | _,_ => none
  | _ => none
 | .aptr β i j => match H[β]? with
  | some (.arr K xs _) => tst (decide (i < xs.length)) (getC (enc K (xs.getD i K.dflt)) j n ag k)
  | some (.tree _ K xs ex) => match ex with
   | none => getP (enc K (xs.getD i K.dflt)) j n ag fun v => tst (decide (i < xs.length)) (k v)
   | some (i',cs) => tst (decide (i = i')) (getC cs j n ag k)
  | _ => none
 | .eptr K x j => getC (enc K x) j n ag k
 | _ => none
def stI (H:Heap) (n:Nat) (x v:SV) (k:Heap → Option R):Option R :=
 match v.cells? with
 | none => none
 | some vs => if vs.length = n then
   match x with
   | .ptr β off => match H[β]? with
    | some (.cells cs t z) => if off + n ≤ cs.length ∧ vs.all SV.oneB = true then k (H.set β (.cells (setCells cs off vs) t z)) else none
    | _ => none
   | .aptr β i j => match H[β]? with
    | some (.arr K xs t) => if (SV.refsL vs).contains β then none else
     match decH false H K (setCells (enc K (xs.getD i K.dflt)) j vs) with
     | some y => if j + n ≤ K.sz ∧ vs.all SV.oneB = true then tst (decide (i < xs.length)) (k ((kill (SV.refsL vs) H).set β (.arr K (xs.set i y) t))) else none
     | none => none
    | some (.tree d K xs ex) => if j + n ≤ K.sz ∧ vs.all SV.oneB = true then (match ex with
     | none => tst (decide (i < xs.length)) (k ((H ++ (expl K d (xs.getD i K.dflt) H.length).2).set β (.tree d K xs (some (i,setCells (expl K d (xs.getD i K.dflt) H.length).1 j vs)))))
     | some (i',cs) => tst (decide (i = i')) (k (H.set β (.tree d K xs (some (i',setCells cs j vs)))))) else none
    | _ => none
   | _ => none
  else none
def iaI (H:Heap) (sz:Nat) (x i:SV) (k:SV → Option R):Option R :=
 match i with
 | .int _ n => match x with
  | .es K xs => if K.sz = sz then tst (decide (0 ≤ n)) (tst (decide (n < (xs.length:Int))) (k (.eptr K (xs.getD n.toNat K.dflt) 0))) else none
  | .own β => match H[β]? with
   | some (.arr K xs _) | some (.tree _ K xs _) => if K.sz = sz then tst (decide (0 ≤ n)) (tst (decide (n < (xs.length:Int))) (k (.aptr β n.toNat 0))) else none
   | some (.cells cs _ z) => if z = sz ∧ sz ≠ 0 then tst (decide (0 ≤ n)) (tst (decide (n < ((cs.length / sz:Nat):Int))) (k (.ptr β (n.toNat * sz)))) else none
   | _ => none
  | .sub β off len => match H[β]? with
   | some (.arr K xs _) => if K.sz = sz then tst (decide (0 ≤ n)) (tst (decide (n < (len:Int))) (k (.aptr β (off + n.toNat) 0))) else none
   | _ => none
  | _ => none
 | _ => none
def iarI (H:Heap) (len sz:Nat) (x i:SV) (k:SV → Option R):Option R :=
 match i with
 | .int _ n => match x with
  | .ptr β off => match H[β]? with
   | some (.arr K _ _) => match off with
    | 0 => if K.sz = sz then tst (decide (0 ≤ n)) (tst (decide (n < (len:Int))) (k (.aptr β n.toNat 0))) else none
    | _ => none
   | some (.cells _ _ _) => tst (decide (0 ≤ n)) (tst (decide (n < (len:Int))) (k (.ptr β (off + n.toNat * sz))))
   | _ => none
  | _ => none
 | _ => none
def ixaI (len sz:Nat) (ag:Bool) (x i:SV) (k:SV → Option R):Option R :=
 match i with
 | .int _ n => match x with
  | .arrv K xs => if K.sz = sz then tst (decide (0 ≤ n)) (tst (decide (n < (len:Int))) (tst (decide (n < (xs.length:Int))) (getC (enc K (xs.getD n.toNat K.dflt)) 0 sz ag k))) else none
  | .agg cs => tst (decide (0 ≤ n)) (tst (decide (n < (len:Int))) (getC cs (n.toNat * sz) sz ag k))
  | _ => none
 | _ => none
def bound (x:Option SV) (d:Option Nat) (top:Nat) (k:Nat → Option R):Option R :=
 match x with
 | none => match d with
  | some n => k n
  | none => none
 | some (.int _ n) => tst (decide (0 ≤ n)) (tst (decide (n ≤ (top:Int))) (k n.toNat))
 | _ => none
def lenOf (H:Heap) (x:SV):Option Nat :=
 match x with
 | .es _ xs => some xs.length
 | .nils => some 0
 | .sub β _ l => match H[β]? with
  | some (.arr _ _ _) => some l
  | some (.cells _ _ _) => some l
  | _ => none
 | .own β => match H[β]? with
  | some (.arr _ xs _) | some (.tree _ _ xs _) => some xs.length
  | some (.cells cs _ z) => if z = 0 then none else some (cs.length / z)
  | _ => none
 | _ => none
def szOK (H:Heap) (sz:Nat) (x:SV):Bool :=
 match x with
 | .es K _ => Nat.beq K.sz sz
 | .nils => true
 | .own β | .sub β _ _ => match H[β]? with
  | some (.arr K _ _) => Nat.beq K.sz sz
  | some (.cells _ _ z) => Nat.beq z sz
  | _ => false
 | _ => false
def slI (H:Heap) (sz:Nat) (x:SV) (lo hi mx:Option SV) (k:SV → Option R):Option R :=
 match mx with
 | none => cond (szOK H sz x) (
  match lenOf H x with
  | none => none
  | some l => bound hi (some l) l fun h => bound lo (some 0) h fun a =>
   match x with
   | .es K xs => k (.es K ((xs.take h).drop a))
   | .nils => k .nils
   | .own β => k (.sub β a (h - a))
   | .sub β off _ => k (.sub β (off + a) (h - a))
   | _ => none) none
 | some (.int _ 0) => match hi,lo with
  | some (.int _ 0),none => match x with
   | .es _ _ | .nils | .own _ | .sub _ _ _ => k .nils
   | _ => none
  | _,_ => none
 | _ => none
def cellsOfRow (H:Heap) (sz:Nat) (x:SV):Option (List SV) :=
 match x with
 | .nils => some []
 | .own β => match H[β]? with
  | some (.cells cs _ z) => if z = sz then some cs else none
  | _ => none
 | _ => none
def appB (H:Heap) (K:Option Kd) (sz:Nat) (t:TypeId) (s x:SV) (k:SV → Heap → Option R):Option R :=
 match K with
 | some K => match decH false H (.list K) [s],decH false H (.list K) [x] with
  | some base,some ys => if K.sz = sz then tst (decide (base.length + ys.length < LIM)) (k (.own H.length) (kill s.refs H ++ [.arr K (base ++ ys) t])) else none
  | _,_ => match cellsOfRow H sz s,cellsOfRow H sz x with
   | some cs,some ds => if cs.length + ds.length < 65536 ∧ sz ≠ 0 ∧ ds.all SV.oneB = true then k (.own H.length) (kill s.refs H ++ [.cells (cs ++ ds) t sz]) else none
   | _,_ => none
 | none => match cellsOfRow H sz s,cellsOfRow H sz x with
  | some cs,some ds => if cs.length + ds.length < 65536 ∧ sz ≠ 0 ∧ ds.all SV.oneB = true then k (.own H.length) (kill s.refs H ++ [.cells (cs ++ ds) t sz]) else none
  | _,_ => none
def ldxI (H:Heap) (n:Nat) (ag:Bool) (x:SV) (k:SV → Heap → Option R):Option R :=
 match x with
 | .aptr β i j => match H[β]? with
  | some (.tree d K xs ex) => match ex with
   | none => tst (decide (i < xs.length)) (getC (expl K d (xs.getD i K.dflt) H.length).1 j n ag fun v => k v (H.set β (.tree d K xs (some (i,(expl K d (xs.getD i K.dflt) H.length).1))) ++ (expl K d (xs.getD i K.dflt) H.length).2))
   | some (i',cs) => tst (decide (i = i')) (getC cs j n ag fun v => k v H)
  | _ => ldI H n ag x fun v => k v H
 | _ => ldI H n ag x fun v => k v H
def apptI (H:Heap) (d:Nat) (K:Kd) (sz:Nat) (s x:SV) (k:SV → Heap → Option R):Option R :=
 match readT true H (.list K) (d + 1) [s],readT true H (.list K) (d + 1) [x] with
 | some a,some b => if K.sz = sz ∧ sz ≠ 0 ∧ nodupB (a.2 ++ b.2) = true then tst (decide (a.1.length + b.1.length < LIM)) (k (.own H.length) (kill (a.2 ++ b.2) H ++ [childB d K (a.1 ++ b.1)])) else none
 | _,_ => none
def SV.row:SV → Bool
 | .nils | .own _ | .sub _ _ _ => true
 | _ => false
def appI (H:Heap) (K:Option Kd) (sz:Nat) (t:TypeId) (s x:SV) (k:SV → Heap → Option R):Option R :=
 cond s.row (appB H K sz t s x k) none
def mkI (H:Heap) (K:Option Kd) (zs:List SV) (t:TypeId) (n:SV) (cap:Option SV) (k:SV → Heap → Option R):Option R :=
 match n with
 | .int _ m => match cap with
  | none => match K with
   | some K => tst (decide (0 ≤ m)) (tst (decide (m.toNat < LIM)) (k (.own H.length) (H ++ [.arr K (List.replicate m.toNat K.dflt) t])))
   | none => match m with
    | .ofNat m => if m < LIM then k (.own H.length) (H ++ [.cells ((List.replicate m zs).flatten) t zs.length]) else none
    | _ => none
  | some (.int _ c) => match K with
   | some K => tst (decide (0 ≤ m)) (tst (decide (m ≤ c)) (tst (decide (c.toNat < LIM)) (k (.own H.length) (H ++ [.arr K (List.replicate m.toNat K.dflt) t]))))
   | none => match m,c with
    | .ofNat m,.ofNat c => if m ≤ c ∧ c < LIM then k (.own H.length) (H ++ [.cells ((List.replicate m zs).flatten) t zs.length]) else none
    | _,_ => none
  | _ => none
 | _ => none
def fillP (τ:Env):List (Nat × Nat × S) → List SV → Option (List SV)
 | [],cs => some cs
 | (off,n,x) :: r,cs => match (x.ev τ).cells? with
  | some vs => if vs.length = n ∧ off + n ≤ cs.length then fillP τ r (setCells cs off vs) else none
  | none => none
def bslI (τ:Env) (H:Heap) (K:Option Kd) (frz:Bool) (sz len:Nat) (zs:List SV) (t:TypeId) (parts:List (Nat × S)) (k:SV → Heap → Option R):Option R :=
 match len,parts with
 | 0,[] => k .nils H
 | 0,_ => none
 | len + 1,parts => match fillP τ (parts.map fun p => (p.1 * sz,sz,p.2)) ((List.replicate (len + 1) zs).flatten) with
 | none => none
 | some cs => match K with
  | some K => match decRows (decH false (cond frz H []) K) K.sz (len + 1) cs with
   | some xs => if K.sz = sz then k (.own H.length) (kill (cond frz (SV.refsL cs) []) H ++ [.arr K xs t]) else none
   | none => k (.own H.length) (H ++ [.cells cs t sz])
  | none => k (.own H.length) (H ++ [.cells cs t sz])
def eqC:List SV → List SV → Option Bool
 | [],[] => some true
 | .int k a :: cs,.int k' b :: ds => if k = k' then (match eqC cs ds with | some r => some ((a == b) && r) | none => none) else none
 | _,_ => none
def binI (op:BinOp) (x y:SV) (k:SV → Option R):Option R :=
 match x,y with
 | .int ka a,.int kb b =>
  match op with
  | .shl => tst (decide (0 ≤ b)) (k (.int ka (ka.wrap (a * 2 ^ (min b.toNat ka.bits)))))
  | .shr => tst (decide (0 ≤ b)) (k (.int ka (a.fdiv (2 ^ (min b.toNat ka.bits)))))
  | _ => if ka = kb then
    match op with
    | .add => k (.int ka (ka.wrap (a + b)))
    | .sub => k (.int ka (ka.wrap (a - b)))
    | .mul => k (.int ka (ka.wrap (a * b)))
    | .quo => tst (!(decide (b = 0))) (k (.int ka (ka.wrap (a.tdiv b))))
    | .rem => tst (!(decide (b = 0))) (k (.int ka (a.tmod b)))
    | .and => k (.int ka (ka.wrap (BitVec.ofInt ka.bits a &&& BitVec.ofInt ka.bits b).toNat))
    | .or => k (.int ka (ka.wrap (BitVec.ofInt ka.bits a ||| BitVec.ofInt ka.bits b).toNat))
    | .xor => k (.int ka (ka.wrap (BitVec.ofInt ka.bits a ^^^ BitVec.ofInt ka.bits b).toNat))
    | .eql => k (.bool (a == b))
    | .neq => k (.bool (a != b))
    | .lss => k (.bool (decide (a < b)))
    | .leq => k (.bool (decide (a ≤ b)))
    | .gtr => k (.bool (decide (a > b)))
    | .geq => k (.bool (decide (a ≥ b)))
    | _ => none
   else none
 | _,_ => none
def callL:List TE → List SV → Heap → (SV → Heap → Option R) → Option R
 | [],_,_,_ => none
 | te :: r,args,H,k => match te.view args H with
  | none => callL r args H k
  | some x => (te.fn x).bind fun y => match te.put x y args H with
   | some (v,H') => k v H'
   | none => none
def mset (es:List (Int × Int × Int)) (a b n:Int):List (Int × Int × Int):=match mfind a b es 0 with
 | some p => es.set p.1 (a,b,n)
 | none => es ++ [(a,b,n)]
def callI (T:Tab) (f:FuncId) (args:List SV) (H:Heap) (k:SV → Heap → Option R):Option R:=callL (T.te f) args H k
def SV.subC (β:Nat) (v:SV):SV → SV
 | .own γ => cond (Nat.beq γ β) v (.own γ)
 | s => s
def Blk.subC (β:Nat) (v:SV):Blk → Blk
 | .cells cs t z => .cells (cs.map (SV.subC β v)) t z
 | .tree d e xs ex => match ex with
  | some p => .tree d e xs (some (p.1,p.2.map (SV.subC β v)))
  | none => .tree d e xs none
 | x => x
mutual
def frzV:SV → Heap → (SV → Heap → Option R) → Option R
 | .own β,H,k => match H[β]? with
  | some (.arr e xs _) => k (.es e xs) ((kill [β] H).map (Blk.subC β (.es e xs)))
  | some (.tree _ e xs ex) => match ex with
   | none => k (.es e xs) ((kill [β] H).map (Blk.subC β (.es e xs)))
   | some _ => k (.own β) H
  | _ => k (.own β) H
 | .agg cs,H,k => frzL cs H fun l H => k (.agg l) H
 | .tup cs,H,k => frzL cs H fun l H => k (.tup l) H
 | v,H,k => k v H
def frzL:List SV → Heap → (List SV → Heap → Option R) → Option R
 | [],H,k => k [] H
 | c :: cs,H,k => frzV c H fun v H => frzL cs H fun l H => k (v :: l) H
end
def runI (T:Tab) (i:I) (τ:Env) (H:Heap) (k:SV → Heap → Option R):Option R :=
 match i with
 | .mv x => k (x.ev τ) H
 | .pick c a b => match c.ev τ with
  | .bool c => match a.ev τ,b.ev τ with
   | .bool x,.bool y => k (.bool (cond c x y)) H
   | x,y => cond c (k x H) (k y H)
  | _ => none
 | .alloc zs t => k (.ptr H.length 0) (H ++ [.cells zs t zs.length])
 | .allocA K n t => k (.ptr H.length 0) (H ++ [.arr K (List.replicate n K.dflt) t])
 | .box t x => match x.ev τ with
  | .arrv K xs => k (.ptr H.length 0) (H ++ [.arr K xs t])
  | v => match v.cells? with
   | some cs => k (.ptr H.length 0) (H ++ [.cells cs t cs.length])
   | none => none
 | .build zs parts => match fillP τ parts zs with
  | some cs => k (.agg cs) H
  | none => none
 | .bsl K frz sz len zs t parts => bslI τ H K frz sz len zs t parts k
 | .bse K sz len zs parts => match fillP τ (parts.map fun p => (p.1 * sz,sz,p.2)) ((List.replicate len zs).flatten) with
  | some cs => match decRows (decH false [] K) K.sz len cs with
   | some xs => if K.sz = sz then k (.es K xs) H else none
   | none => none
  | none => none
 | .boxe K x => match (x.ev τ).cells? with
  | some cs => match decH false [] K cs with
   | some y => k (.eptr K y 0) H
   | none => none
  | none => none
 | .ld n ag x => ldI H n ag (x.ev τ) fun v => k v H
 | .ldc n ag s => ldI H n ag (Tm.get τ s) fun v => k v H
 | .iac sz s i => iaI H sz (Tm.get τ s) (i.ev τ) fun v => k v H
 | .st n x v => stI H n (x.ev τ) (v.ev τ) fun H' => k .junk H'
 | .ldx n ag x => ldxI H n ag (x.ev τ) k
 | .appt d K sz _ s x => apptI H d K sz (s.ev τ) (x.ev τ) k
 | .nilck x => match x.ev τ with
  | .ptr b o => k (.ptr b o) H
  | .aptr b i j => k (.aptr b i j) H
  | .eptr K v j => k (.eptr K v j) H
  | .fn (.func f) a b => k (.fn (.func f) a b) H
  | _ => none
 | .bin op x y => binI op (x.ev τ) (y.ev τ) fun v => k v H
 | .beq neg x y => match x.ev τ,y.ev τ with
  | .bool a,.bool b => k (.bool (cond neg (!(a == b)) (a == b))) H
  | _,_ => none
 | .eqs neg n x y => match x.ev τ,y.ev τ with
  | .agg cs,.agg ds => if cs.length = n ∧ ds.length = n then (match eqC cs ds with | some b => k (.bool (cond neg (!b) b)) H | none => none) else none
  | _,_ => none
 | .not x => match x.ev τ with
  | .bool b => k (.bool (!b)) H
  | _ => none
 | .neg x => match x.ev τ with
  | .int ik n => k (.int ik (ik.wrap (0 - n))) H
  | _ => none
 | .conv ik x => match x.ev τ with
  | .int _ n => k (.int ik (ik.wrap n)) H
  | _ => none
 | .fa off x => match x.ev τ with
  | .ptr b o => k (.ptr b (o + off)) H
  | .aptr b i j => k (.aptr b i (j + off)) H
  | .eptr K v j => k (.eptr K v (j + off)) H
  | _ => none
 | .fld off n ag x => match x.ev τ with
  | .agg cs => getC cs off n ag fun v => k v H
  | _ => none
 | .ia sz x i => iaI H sz (x.ev τ) (i.ev τ) fun v => k v H
 | .iar len sz x i => iarI H len sz (x.ev τ) (i.ev τ) fun v => k v H
 | .ixa len sz ag x i => ixaI len sz ag (x.ev τ) (i.ev τ) fun v => k v H
 | .sl sz x lo hi mx => slI H sz (x.ev τ) (lo.map (S.ev τ)) (hi.map (S.ev τ)) (mx.map (S.ev τ)) fun v => k v H
 | .ext j x => match x.ev τ with
  | .tup cs => match cs[j]? with
   | some v => k v H
   | none => none
  | _ => none
 | .len x => match lenOf H (x.ev τ) with
  | some n => k (.int .i64 (n:Int)) H
  | none => none
 | .app K sz t s x => appI H K sz t (s.ev τ) (x.ev τ) k
 | .app0 K sz t s x => match s.ev τ with
  | .nils => appI H K sz t .nils (x.ev τ) k
  | _ => none
 | .mk K zs t n cap => mkI H K zs t (n.ev τ) (cap.map (S.ev τ)) k
 | .ixs bs i => match i.ev τ with
  | .int _ n => tst (decide (0 ≤ n)) (tst (decide (n < (bs.length:Int))) (k (.int .u8 ((bs.getD n.toNat 0:Nat):Int)) H))
  | _ => none
 | .nilt neg x => match lenOf H (x.ev τ) with
  | some n => tst (decide (0 < n)) (k (.bool neg) H)
  | none => none
 | .cap0 x => match x.ev τ with
  | .nils => k (.int .i64 0) H
  | _ => none
 | .appz K t s n => match s.ev τ,n.ev τ with
  | .nils,.int _ m => tst (decide (0 ≤ m)) (tst (decide (m.toNat < LIM)) (k (.own H.length) (H ++ [.arr K (List.replicate m.toNat K.dflt) t])))
  | _,_ => none
 | .mn x y => match x.ev τ,y.ev τ with
  | .int ik a,.int _ b => k (.int ik (if b < a then b else a)) H
  | _,_ => none
 | .mx x y => match x.ev τ,y.ev τ with
  | .int ik a,.int _ b => k (.int ik (if b > a then b else a)) H
  | _,_ => none
 | .mkif t x => k (.iface t (x.ev τ)) H
 | .tas t ok z x => match x.ev τ with
  | .iface t' v => match ok with
   | true => if t' = t then k (.tup [v,.bool true]) H else k (.tup [z,.bool false]) H
   | false => if t' = t then k v H else none
  | .nili => match ok with
   | true => k (.tup [z,.bool false]) H
   | false => none
  | _ => none
 | .mkfn f first cap => k (.fn f (first.map (S.ev τ)) (cap.map (S.ev τ))) H
 | .mkmap => k (.mapp H.length) (H ++ [.mapi []])
 | .mapset m x v => match m.ev τ,x.ev τ with
  | .mapp β,.agg [.int .i64 a,.int .i64 b] => match H[β]? with
   | some (.mapi es) => match v.ev τ with
    | .int .i64 n => k .junk (H.set β (.mapi (mset es a b n)))
    | _ => k .junk (H.set β (.mapi (mset es a b 0)))
   | some (.mapo e f ex) => match ex with
    | some (p,q,_) => tst (v.ev τ).oneB (tst (a == p && b == q) (k .junk (H.set β (.mapo e f (some (a,b,v.ev τ))))))
    | none => none
   | _ => none
  | _,_ => none
 | .maplk m x => match m.ev τ,x.ev τ with
  | .mapp β,.agg [.int .i64 a,.int .i64 b] => match H[β]? with
   | some (.mapi es) => k (.tup [.junk,.bool (mhas es a b)]) H
   | _ => none
  | _,_ => none
 | .mapz z m x => match m.ev τ,x.ev τ with
  | .mapp β,.agg [.int .i64 a,.int .i64 b] => match H[β]? with
   | some (.mapi es) => tst (!mhas es a b) (k z H)
   | some (.mapo _ _ ex) => match ex,z with
    | some (p,q,v),.nils => tst (a == p && b == q) (k v H)
    | _,_ => none
   | _ => none
  | _,_ => none
 | .call f args => callI T f (args.map (S.ev τ)) H k
 | .callz f args => match T.inl f with
  | some ie => ie.go R (args.map (S.ev τ)) H k
  | none => frzL (args.map (S.ev τ)) H fun as H => callI T f as H fun v H => frzV v H k
 | .callv x args => match x.ev τ with
  | .fn (.func f) first cap => match T.inl f with
   | some ie => ie.go R (first ++ args.map (S.ev τ) ++ cap) H k
   | none => callI T f (first ++ args.map (S.ev τ) ++ cap) H k
  | _ => none
 | .inv x m args => match x.ev τ with
  | .iface t v => match T.meth t m with
   | some f => callI T f (v :: args.map (S.ev τ)) H k
   | none => none
  | _ => none
def putD (τ:Env) (d:Option Nat) (v:SV):Env :=
 match d with
 | some n => (n,v) :: τ
 | none => τ
def runG (T:Tab) (gi:GI) (τ:Env) (H:Heap) (k:Env → Heap → Option R):Option R :=
 match gi.g with
 | none => runI T gi.i τ H fun v H' => k (putD τ gi.d v) H'
 | some (s,want) => match Tm.get τ s with
  | .bool b => match want with
   | true => cond b (runI T gi.i ((s,.bool true) :: τ) H fun v H' => k (putD ((s,.bool true) :: τ) gi.d v) H') (k (putD ((s,.bool false) :: τ) gi.d (.tup [])) H)
   | false => cond b (k (putD ((s,.bool true) :: τ) gi.d (.tup [])) H) (runI T gi.i ((s,.bool false) :: τ) H fun v H' => k (putD ((s,.bool false) :: τ) gi.d v) H')
  | .tup [] => k (putD τ gi.d (.tup [])) H
  | _ => none
def runR (T:Tab):List GI → Env → Heap → (Env → Heap → Option R) → Option R
 | [],τ,H,k => k τ H
 | gi :: r,τ,H,k => runG T gi τ H fun τ H => runR T r τ H k
def I.mono (T:Tab):I → Bool
 | .st _ _ _ | .app _ _ _ _ _ | .mapset _ _ _ | .ldx _ _ _ | .appt _ _ _ _ _ _ => false
 | .bsl _ frz _ _ _ _ _ => !frz
 | .call f _ => match T.te f with
  | te :: r => te.mono && r.all TE.mono
  | [] => false
 | .callz _ _ | .callv _ _ | .inv _ _ _ => false
 | _ => true
def I.isCall:I → Bool
 | .call _ _ => true
 | .app _ _ _ _ _ => true
 | .appt _ _ _ _ _ _ => true
 | .st _ _ _ => true
 | _ => false
def I.touch (T:Tab) (τ:Env) (H:Heap):I → List Nat
 | .call f as => (T.te f).flatMap fun te => te.tc (as.map (S.ev τ)) H
 | .app _ _ _ s _ => (s.ev τ).refs
 | .st _ x v => (x.ev τ).refs ++ (v.ev τ).refs
 | .appt d K _ _ s x => match readT true H (.list K) (d + 1) [s.ev τ],readT true H (.list K) (d + 1) [x.ev τ] with
  | some a,some b => a.2 ++ b.2
  | _,_ => []
 | _ => []
def GI.touched (T:Tab) (gi:GI) (τ:Env) (H:Heap):List Nat:=cond (gi.i.mono T) [] (gi.i.touch T τ H)
def GI.calmOf (gi:GI) (τ:Env):List Nat:=match gi.i with
 | .ldc _ _ s => (Tm.get τ s).refs
 | .iac _ s _ => (Tm.get τ s).refs
 | _ => []
def apart (tc:List Nat) (rd:List Nat):Bool:=rd.all fun β => !(tc.any (Nat.beq β))
def I.early:I → Bool
 | .alloc _ _ => true
 | .bsl K frz _ m _ _ _ => K.isNone && (!frz && !(Nat.beq m 0))
 | _ => false
def GI.early (gi:GI):Bool:=gi.i.early && (gi.g.isNone && gi.d.isSome)
def Blk.bare:Blk → Bool
 | .cells cs _ _ => !cs.isEmpty && (SV.refsL cs).isEmpty
 | _ => false
def bareB (H H':Heap):Bool:=(H'.drop H.length).all Blk.bare
def runRD (T:Tab):List GI → List Nat → List Nat → Env → Heap → (Env → Heap → Option R) → Option R
 | [],_,_,τ,H,k => k τ H
 | gi :: r,tc,rd,τ,H,k => cond (apart (gi.touched T τ H ++ tc) (gi.calmOf τ ++ rd)) (runG T gi τ H fun τ' H' => cond (gi.early && !bareB H H') none (runRD T r (gi.touched T τ H ++ tc) (gi.calmOf τ ++ rd) τ' H' k)) none
def gcOrder (n0:Nat) (H:Heap):Nat → List Nat → List Nat → List Nat
 | 0,_,acc => acc
 | _ + 1,[],acc => acc
 | n + 1,β :: r,acc => cond (Nat.blt β n0 || acc.contains β) (gcOrder n0 H n r acc)
   (gcOrder n0 H n (r ++ (match H[β]? with | some x => x.refs | none => [])) (acc ++ [β]))
def idxIn (β:Nat):List Nat → Nat → Option Nat
 | [],_ => none
 | x :: r,n => cond (Nat.beq x β) (some n) (idxIn β r (n + 1))
def renF (n0:Nat) (σ:List Nat) (β:Nat):Option Nat:=cond (Nat.blt β n0) (some β) (idxIn β σ n0)
def gc (n0:Nat) (τ:Env) (H:Heap):Option (Env × Heap) :=
 let σ:=gcOrder n0 H LIM (τ.flatMap (fun p => p.2.refs) ++ (H.take n0).flatMap Blk.refs) []
 cond (nodupB σ && (σ.all (fun β => Nat.ble n0 β && Nat.blt β H.length) && Nat.ble n0 H.length))
  (some (τ.map (fun p => (p.1,p.2.ren (renF n0 σ))),(H.take n0).map (Blk.ren (renF n0 σ)) ++ σ.map (fun β => match H[β]? with | some x => x.ren (renF n0 σ) | none => .dead)))
  none
def frz1 (H:Heap):SV → Option (SV × Heap)
 | .own β => match H[β]? with
  | some (.tree _ e xs ex) => match ex with
   | none => some (.es e xs,(kill [β] H).map (Blk.subC β (.es e xs)))
   | some _ => none
  | _ => none
 | _ => none
def fixV (H:Heap) (K:Kd) (own:Bool) (v:SV):Option (SV × Heap) :=
 match own with
 | true => match v with
  | .own β => some (.own β,H)
  | .nils => some (.own H.length,H ++ [.arr K [] 0])
  | .sub β off len => match H[β]? with
   | some (.arr K' xs t) => some (.own H.length,kill [β] H ++ [.arr K' ((xs.drop off).take len) t])
   | _ => none
  | _ => none
 | false => match frz1 H v with
  | some p => some p
  | none => match decH false H (.list K) [v] with
   | some xs => some (.es K xs,kill v.refs H)
   | none => none
def fixS (f:Heap → SV → Option (SV × Heap)) (s:Nat) (c:Option Nat) (τ:Env) (H:Heap):Option (Env × Heap) :=
 match c with
 | none => match f H (Tm.get τ s) with
  | some (v,H') => some ((s,v) :: τ,H')
  | none => none
 | some c => match Tm.get τ s with
  | .ptr β 0 => match H[β]? with
   | some (.cells cs t z) => match cs[c]? with
    | some u => match f H u with
     | some (v,H') => match H'[β]? with
      | some (.cells cs' t' z') => some (τ,H'.set β (.cells (cs'.set c v) t' z'))
      | _ => none
     | none => none
    | none => none
   | _ => none
  | _ => none
def fixAll:List (Nat × Option Nat × Kd × Bool) → Env → Heap → Option (Env × Heap)
 | [],τ,H => some (τ,H)
 | (s,c,K,o) :: r,τ,H => match fixS (fun H v => fixV H K o v) s c τ H with
  | some (τ',H') => fixAll r τ' H'
  | none => none
def demo (H:Heap) (K:Kd) (d:Nat) (v:SV):Option Heap:=match v with
 | .own β => match H[β]? with
  | some (.tree d0 e xs ex) => match ex with
   | none => if e = K ∧ d < d0 then some (H.set β (childB d e xs)) else none
   | _ => none
  | _ => none
 | .mapp β => match H[β]? with
  | some (.mapi es) => match es with
   | [] => some (H.set β (.mapo K (fun _ _ => []) none))
   | _ => none
  | some (.mapo e _ ex) => match ex with
   | none => if e = K then some H else none
   | _ => none
  | _ => none
 | _ => none
def fixT (H:Heap) (K:Kd) (d:Nat) (v:SV):Option (SV × Heap) :=
 match demo H K d v with
 | some H' => some (v,H')
 | none =>
 match readT true H (.list K) (d + 1) [v] with
 | some a => cond (nodupB a.2) (some (.own H.length,kill a.2 H ++ [childB d K a.1])) none
 | none => none
def fixTs:List (Nat × Option Nat × Kd × Nat) → Env → Heap → Option (Env × Heap)
 | [],τ,H => some (τ,H)
 | (s,c,K,d) :: r,τ,H => match fixS (fun H v => fixT H K d v) s c τ H with
  | some (τ',H') => fixTs r τ' H'
  | none => none
def norm (n0:Nat) (nm:Norm) (τ:Env) (H:Heap):Option (Env × Heap) :=
 match fixAll nm.fix τ H with
 | some (τ1,H1) => match fixTs nm.tr τ1 H1 with
  | some (τ2,H2) => gc n0 (nm.live.map fun s => (s,Tm.get τ2 s)) H2
  | none => none
 | none => none
def seqK (f:Env → Heap → (Ex → Env → Heap → Option R) → Option R) (k:Ex → Env → Heap → Option R):Ex → Env → Heap → Option R
 | .normal,τ,H => f τ H k
 | e,τ,H => k e τ H
def blkK (id:Nat) (k:Ex → Env → Heap → Option R):Ex → Env → Heap → Option R
 | .exit i,τ,H => cond (Nat.beq i id) (k .normal τ H) (k (.exit i) τ H)
 | e,τ,H => k e τ H
def refS (s:S) (b:Bool) (τ:Env):Env:=match s with
 | .t n => (n,.bool b) :: τ
 | .c _ => τ
def cellC (τ:Env) (H:Heap) (s:Nat) (c:Option Nat):Option SV:=match c with
 | none => cond (Nat.ble 1000000 s) (some (.int .i64 ((s - 1000000:Nat):Int))) (some (Tm.get τ s))
 | some c => match Tm.get τ s with
  | .ptr β 0 => match H[β]? with
   | some (.cells cs _ _) => cond (Nat.blt c 1000) (cs[c]?) (match cs[c % 1000]? with
    | some (.own γ) => match H[γ]? with
     | some (.tree _ _ _ ex) => match ex with
      | some p => p.2[c / 1000 - 1]?
      | none => none
     | _ => none
    | _ => none)
   | _ => none
  | _ => none
def keyC:Option SV → Option SV → Option (Int × Int)
 | some (.int _ p),some (.int _ q) => some (p,q)
 | some (.agg l),_ => match l with
  | .int _ p :: .int _ q :: _ => some (p,q)
  | _ => none
 | _,_ => none
def openK:List (Nat × Nat × Nat × Option Nat) → Env → Heap → (Heap → Option R) → Option R
 | [],_,H,k => k H
 | (s,c,si,ci) :: r,τ,H,k => match cellC τ H s (some c) with
  | some (.own β) => match cellC τ H si ci with
   | some (.int _ n) => match H[β]? with
    | some (.tree d K xs ex) => match ex with
     | none => tst (decide (0 ≤ n)) (tst (decide (n.toNat < xs.length)) (openK r τ (H.set β (.tree d K xs (some (n.toNat,(expl K d (xs.getD n.toNat K.dflt) H.length).1))) ++ (expl K d (xs.getD n.toNat K.dflt) H.length).2) k))
     | _ => none
    | _ => none
   | _ => none
  | some (.mapp β) => match keyC (cellC τ H si none) (cellC τ H (ci.getD 0) none) with
   | some y => match H[β]? with
    | some (.mapo e f ex) => match ex with
     | none => openK r τ (H.set β (.mapo e f (some (y.1,y.2,.own H.length))) ++ [.arr e (f y.1 y.2) 0]) k
     | _ => none
    | _ => none
   | _ => none
  | _ => none
def normK (n0:Nat) (nm:Norm) (G:Env → Heap → Option R) (τ:Env) (H:Heap):Option R :=
 match norm n0 nm τ H with
 | some (τ,H) => G τ H
 | none => none
def loopK (n0:Nat) (nm:Norm) (G:Env → Heap → Option R) (k:Ex → Env → Heap → Option R):Ex → Env → Heap → Option R
 | .normal,τ,H => normK n0 nm G τ H
 | e,τ,H => k e τ H
def loopN (body:Env → Heap → (Ex → Env → Heap → Option R) → Option R) (n0:Nat) (nm:Norm):Nat → Env → Heap → (Ex → Env → Heap → Option R) → Option R
 | 0,_,_,_ => none
 | n + 1,τ,H,k => body τ H (loopK n0 nm (fun τ H => loopN body n0 nm n τ H k) k)
def run (T:Tab) (n0 Z:Nat):C → Env → Heap → (Ex → Env → Heap → Option R) → Option R
 | .skip,τ,H,k => k .normal τ H
 | .reg d gs,τ,H,k => match d with
  | true => runRD T gs [] [] τ H (k .normal)
  | false => runR T gs τ H (k .normal)
 | .seq a b,τ,H,k => run T n0 Z a τ H (seqK (run T n0 Z b) k)
 | .cnd s a b,τ,H,k => match s.ev τ with
  | .bool c => cond c (run T n0 Z a (refS s true τ) H k) (run T n0 Z b (refS s false τ) H k)
  | _ => none
 | .blk id a,τ,H,k => run T n0 Z a τ H (blkK id k)
 | .loop nm a,τ,H,k => normK n0 nm (fun τ H => loopN (run T n0 Z a) n0 nm Z τ H k) τ H
 | .cut nm,τ,H,k => normK n0 nm (fun τ H => openK nm.op τ H fun H => k .normal τ H) τ H
 | .exit id,τ,H,k => k (.exit id) τ H
 | .ret,τ,H,k => k .ret τ H
 | .bad,_,_,_ => none
end
end Go.Proofs.YtljojacnjjgceaaGreat.Den
