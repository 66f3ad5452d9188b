/- Part 9 of the texts behind the row. -/
import Derived.Test.YtljojacnjjgceaaGreatAENO8
import Derived.OpenShut
import Derived.ChangeArms
set_option linter.unusedVariables false
set_option linter.unusedSimpArgs false
namespace Go.Proofs.YtljojacnjjgceaaGreat.Den
open Go Go.RowKit
def fldsOK (P:Program) (f:TypeId → Kd → Bool):List Field → Nat → Kd → Bool
 | [],_,.unit => true
 | x :: fs,off,.pair a b => Nat.beq x.offset off && (Nat.beq (P.cellsOf x.type) a.sz && (f x.type a && fldsOK P f fs (off + a.sz) b))
 | _,_,_ => false
def tyOK (P:Program):Nat → TypeId → Kd → Bool
 | 0,_,_ => false
 | n + 1,t,.int k => match P.underlying t with
  | some (.int k') => decide (k' = k)
  | _ => false
 | n + 1,t,.bool => match P.underlying t with
  | some .bool => true
  | _ => false
 | n + 1,t,.list e => match P.underlying t with
  | some (.slice u) => tyOK P n u e && (Nat.beq (P.cellsOf u) e.sz && Nat.blt 0 e.sz)
  | _ => false
 | n + 1,t,.unit => match P.underlying t with
  | some (.struct fs) => fldsOK P (tyOK P n) fs.toList 0 .unit
  | _ => false
 | n + 1,t,.pair a b => match P.underlying t with
  | some (.struct fs) => fldsOK P (tyOK P n) fs.toList 0 (.pair a b)
  | _ => false
def wfD:(K:Kd) → K.T → Prop
 | .int k,n => (Lit.int k n).wf = true
 | .bool,_ => True
 | .unit,_ => True
 | .pair a b,x => wfD a x.1 ∧ wfD b x.2
 | .list e,xs => xs.length ≤ maxLen ∧ ∀ x ∈ xs,wfD e x
theorem zwv {α β:Type} {f:α → Option β}:∀ {l:List α} {ys:List β},l.mapM f = some ys → ys.length = l.length ∧ ∀ (i:Nat) (x:α),l[i]? = some x → ∃ y,ys[i]? = some y ∧ f x = some y
 | [],ys,h => by simp at h; subst h; simp
 | x :: l,ys,h => by
  rw [List.mapM_cons] at h
  simp only [Option.bind_eq_bind,Option.bind_eq_some_iff,Option.pure_def,Option.some.injEq] at h
  obtain ⟨y,h1,ys',h2,rfl⟩:=h
  obtain ⟨h3,h4⟩:=zwv h2
  refine ⟨by simp [h3],fun i z hz => ?_⟩
  cases i with
  | zero => simp at hz; subst hz; exact ⟨y,by simp,h1⟩
  | succ i => simpa using h4 i z (by simpa using hz)
theorem zHz {β:Type} {f:Nat → Option β} {n:Nat} {ys:List β} (h:(List.range n).mapM f = some ys):ys.length = n ∧ ∀ i,i < n → ∃ y,ys[i]? = some y ∧ f i = some y:=by
 obtain ⟨h1,h2⟩:=zwv h
 exact ⟨by simpa using h1,fun i hi => h2 i i (by simp [hi])⟩
theorem zww {α:Type} {p:Nat → α → Prop}:∀ {n:Nat},(∀ i,i < n → ∃ x,p i x) → ∃ xs:List α,xs.length = n ∧ ∀ (i:Nat) (x:α),xs[i]? = some x → p i x
 | 0,_ => ⟨[],rfl,fun i x h => by simp at h⟩
 | n + 1,h => by
  obtain ⟨xs,h1,h2⟩:=zww (n:=n) fun i hi => h i (by omega)
  obtain ⟨x,hx⟩:=h n (by omega)
  refine ⟨xs ++ [x],by simp [h1],fun i y hy => ?_⟩
  rcases Nat.lt_trichotomy i n with h3 | h3 | h3
  ·rw [List.getElem?_append_left (by omega)] at hy; exact h2 i y hy
  ·subst h3
   rw [List.getElem?_append_right (by omega),h1] at hy
   simp at hy; subst hy; exact hx
  ·rw [List.getElem?_eq_none (by simp; omega)] at hy; cases hy
theorem cells?_spec {w:World} {base:Nat} {a:Addr} {n:Nat} {es:List Value} (h:w.cells? base a n = some es):es.length = n ∧ ∀ j u,es[j]? = some u → w.cell? (a.add j) = some u:=by
 unfold World.cells? at h
 split at h
 ·obtain ⟨h1,h2⟩:=zHz h
  refine ⟨h1,fun j u hu => ?_⟩
  have hj:j < n:=by have:=(List.getElem?_eq_some_iff.1 hu).1; omega
  obtain ⟨y,h3,h4⟩:=h2 j hj
  rw [hu] at h3; cases h3; exact h4
 ·cases h
theorem cell?_lt {w:World} {a:Addr} {u:Value} (h:w.cell? a = some u):a.block < w.heap.size:=by
 unfold World.cell? at h
 split at h
 ·rename_i h1; exact (Array.getElem?_eq_some_iff.1 h1).1
 ·cases h
section
variable {H:Type} {enc:TypeId × Value → H} {P:Program} {w:World} {base:Nat} {spare:Nat → Bool} {held:Bool}
theorem zwx {n Z:Nat} (ih:∀ {t:TypeId} {K:Kd} {cs:List Value} {d:DataW H} {ps:List MemPlace},tyOK P n t K = true → P.cellsOf t = K.sz → DataW.trod enc P w base spare held Z t cs = some (d,ps) → ∃ x:K.T,CRel w (fun b => b < w.heap.size) K x cs ∧ wfD K x) :
  ∀ {fs:List Field} {off:Nat} {K:Kd} {cs:List Value} {l:List (DataW H × List MemPlace)},fldsOK P (tyOK P n) fs off K = true → cs.length = off + K.sz →
   (fs.mapM fun f => DataW.trod enc P w base spare held Z f.type ((cs.drop f.offset).take (P.cellsOf f.type))) = some l → ∃ x:K.T,CRel w (fun b => b < w.heap.size) K x (cs.drop off) ∧ wfD K x
 | [],off,K,cs,l,ho,hl,h => by
  cases K with
  | unit => exact ⟨(),by simp only [CRel]; exact List.drop_eq_nil_of_le (by simp [Kd.sz] at hl; omega),trivial⟩
  | _ => simp [fldsOK] at ho
 | f :: fs,off,K,cs,l,ho,hl,h => by
  cases K with
  | pair a b =>
   simp only [fldsOK,Bool.and_eq_true] at ho
   obtain ⟨h1,h2,h3,h4⟩:=ho
   rw [List.mapM_cons] at h
   simp only [Option.bind_eq_bind,Option.bind_eq_some_iff,Option.pure_def,Option.some.injEq] at h
   obtain ⟨⟨d1,p1⟩,h5,l',h6,_⟩:=h
   rw [Nat.eq_of_beq_eq_true h1,Nat.eq_of_beq_eq_true h2] at h5
   obtain ⟨x,hx,wx⟩:=ih h3 (Nat.eq_of_beq_eq_true h2) h5
   simp only [Kd.sz] at hl
   obtain ⟨y,hy,wy⟩:=zwx ih h4 (by omega) h6
   refine ⟨(x,y),?_,wx,wy⟩
   simp only [CRel]
   refine ⟨_,_,?_,hx,hy⟩
   rw [← List.drop_drop]
   exact (List.take_append_drop a.sz (cs.drop off)).symm
  | _ => simp [fldsOK] at ho
theorem zp3:∀ {n:Nat} {t:TypeId} {K:Kd} {Z:Nat} {cs:List Value} {d:DataW H} {ps:List MemPlace},tyOK P n t K = true → P.cellsOf t = K.sz → DataW.trod enc P w base spare held Z t cs = some (d,ps) →
  ∃ x:K.T,CRel w (fun b => b < w.heap.size) K x cs ∧ wfD K x
 | 0,t,K,Z,cs,d,ps,ho,hsz,h => by simp [tyOK] at ho
 | n + 1,t,K,0,cs,d,ps,ho,hsz,h => by simp [DataW.trod] at h
 | n + 1,t,K,Z + 1,cs,d,ps,ho,hsz,h => by
  have strct:∀ {fs:Array Field},P.underlying t = some (.struct fs) → fldsOK P (tyOK P n) fs.toList 0 K = true → ∃ x:K.T,CRel w (fun b => b < w.heap.size) K x cs ∧ wfD K x:=by
   intro fs hu hf
   unfold DataW.trod at h
   simp only [hu] at h
   split at h
   ·rename_i hl
    simp only [Option.map_eq_some_iff] at h
    obtain ⟨l,h1,_⟩:=h
    exact zwx (off:=0) (fun h2 h3 h4 => zp3 h2 h3 h4) hf (by rw [hl,hsz]; omega) h1
   ·cases h
  cases K with
  | int k =>
   simp only [tyOK] at ho
   split at ho
   ·rename_i k' hu
    obtain rfl:k' = k:=by simpa using ho
    obtain ⟨m,rfl,_,hw⟩:=DataW.trod_int hu h
    exact ⟨m,by simp [CRel],hw⟩
   ·cases ho
  | bool =>
   simp only [tyOK] at ho
   split at ho
   ·rename_i hu
    obtain ⟨b,rfl,_⟩:=DataW.trod_bool hu h
    exact ⟨b,by simp [CRel],trivial⟩
   ·cases ho
  | unit =>
   simp only [tyOK] at ho
   split at ho
   ·rename_i fs hu; exact strct hu ho
   ·cases ho
  | pair a b =>
   simp only [tyOK] at ho
   split at ho
   ·rename_i fs hu; exact strct hu ho
   ·cases ho
  | list e =>
   simp only [tyOK] at ho
   split at ho
   ·rename_i u hu
    simp only [Bool.and_eq_true] at ho
    obtain ⟨h1,h2,h3⟩:=ho
    have hes:=Nat.eq_of_beq_eq_true h2
    have hpos:0 < e.sz:=by simpa [Nat.blt_eq] using h3
    rcases DataW.trod_slice hu h with ⟨rfl,_⟩ | ⟨ad,len,cap,elems,rest,m,_,rfl,_,_,hb1,hb2,hel,h6,_⟩
    ·exact ⟨[],by simp only [CRel]; exact ⟨none,0,rfl,Nat.le_refl _,fun h => by simp at h⟩,by simp [wfD]⟩
    ·obtain ⟨xs,h7,h8⟩:=zww (p:=fun i (x:e.T) => ∃ es,CRel w (fun b => b < w.heap.size) e x es ∧ wfD e x ∧ ∀ (j:Nat) (u:Value),es[j]? = some u → w.cell? (ad.add (i * e.sz + j)) = some u) (n:=len) (fun i hi => by
      have h8:=h6 i hi
      rw [List.getElem?_eq_getElem (by omega),Option.bind_eq_some_iff] at h8
      obtain ⟨es,h9,h10⟩:=h8
      obtain ⟨x,h11,h12⟩:=zp3 h1 hes h10
      obtain ⟨_,h13⟩:=cells?_spec h9
      exact ⟨x,es,h11,h12,fun j v hj => by have:=h13 j v hj; rw [add_add,hes] at this; exact this⟩)
     refine ⟨xs,?_,by rw [h7]; omega,fun x hx => ?_⟩
     ·simp only [CRel]
      refine ⟨some ad,cap,by rw [h7],by rw [h7]; exact hb1,fun h0 => ⟨ad,rfl,?_,fun i x hx => ?_⟩⟩
      ·obtain ⟨es,h9,_,h10⟩:=h8 0 xs[0] (List.getElem?_eq_getElem h0)
       have h11:=h9.length
       have h12:0 < es.length:=by omega
       have:=cell?_lt (h10 0 es[0] (List.getElem?_eq_getElem h12))
       rw [zij] at this; exact this
      ·obtain ⟨es,h9,_,h10⟩:=h8 i x hx
       exact ⟨es,h9,h10⟩
     ·obtain ⟨i,hi⟩:=List.mem_iff_getElem?.1 hx
      obtain ⟨es,_,h9,_⟩:=h8 i x hi
      exact h9
   ·cases ho
end
section
variable {H:Type} {enc:TypeId × Value → H} {P:Program} {w:World} {base:Nat} {spare:Nat → Bool} {held:Bool}
theorem zHA {n:Nat} {t:TypeId} (K:Kd) {v:Value} {d:DataW H} {ps:List MemPlace} (ho:tyOK P n t K = true) (hsz:P.cellsOf t = K.sz) (h:DataW.Trod enc P w base spare held t v d ps) {cs:List Value} (hcs:v.cells.toList = cs) :
  ∃ x:K.T,CRel w (fun b => b < w.heap.size ∧ ¬ False) K x cs ∧ wfD K x:=by
 obtain ⟨m,hm⟩:=h
 obtain ⟨x,hx,hw⟩:=zp3 ho hsz hm
 subst hcs
 exact ⟨x,CRel.mono (fun b hb => ⟨hb,id⟩) (fun _ _ => rfl) hx,hw⟩
end
def Kd.sx:Kd → Option Sx
 | .unit => some .nil
 | .pair a b => match b.sx with
  | some r => cond (decide (a.sz = 1) && !(match a with | .pair _ _ => true | _ => false)) (some (.dat a r)) none
  | none => none
 | _ => none
abbrev boolR:Sx:=.grp (.dat .bool .nil) .nil
theorem specF {P:Program} {T:Tab} {f:FuncId} {fn:Func} {le:LE} {frz:List Nat} {ann:List Norm} {cuts:List (Nat × Norm)} {rv:List (Nat × Option (Nat × Bool))} (hT:TabOK P T) (hmix:P.follows .mixedOrders = true) (hf:P.funcs[f]? = some fn)
  (h:okCk P fn T frz ann cuts (le.rt.args.length + le.D.len) le.ok = true) (hrv:lightRes P fn.results.toList = some rv) (hy:∀ p,le.ey (le.yb p) = p) (hD:∀ xd,(enX le.D xd 0).2 = [])
  (hrun:∀ xa xd y,le.fn (le.xb (xa,xd)) = some y → ∃ Z,le.toLF.go T Z (irOf P fn frz ann cuts) rv xa xd = some y):FnSpec P f le:=by
 obtain ⟨h1,h2,h3,h4,h5,h6⟩:=zws h
 obtain ⟨j,hj⟩:=zwq h3
 exact fn_spec hT hmix hf (zwr h1) hj h4 h5 hrv hy hD h6 hrun
theorem zHB {P:Program} {f:FuncId} {D:Sx} {fl:Bool} {fn:D.T → Option boolR.T} (h:FnSpec P f ⟨.pure D boolR fl,fn⟩) {w:World} {vs:List Value} {x:D.T} {b:Bool}
  (hps:WX w (fun b => b < w.heap.size ∧ ¬ False) D x vs []) (hfn:fn x = some ((b,()),())) :
  Calls P f vs.toArray w fun e w' => e = .returned (.bool b) ∧ Below w.heap.size w w':=by
 refine Calls.mono (h w (fun _ => False) [] vs [] () x _ (fun _ h => h.elim) ⟨rfl,rfl⟩ List.nodup_nil (fun b hb => by cases hb) (hps.monoB fun b hb => ⟨hb.1,hb.2,fun h => by cases h⟩) hfn) fun e w' he => ?_
 obtain ⟨ur,qa,qr,rfl,hk,_,_,_,_,h6⟩:=he
 refine ⟨?_,⟨hk.os,hk.tape,hk.output,hk.size,fun k hk' => hk.kept k hk' (fun h => by cases h)⟩⟩
 obtain ⟨u1,u2,p1,p2,e1,_,⟨u,us',e2,h7,h8,_⟩,h9,_⟩:=h6
 simp only [CRel] at h7
 simp at h7 e2
 obtain ⟨rfl,rfl⟩:=e2
 subst h7; subst h9; subst h8
 have:ur = #[.bool b]:=Array.toList_inj.1 (by simpa using e1)
 subst this
 simp [resU]
end Go.Proofs.YtljojacnjjgceaaGreat.Den
namespace Go.Proofs.YtljojacnjjgceaaGreat.Den
open Go Go.RowKit
def zvb (Z:Nat):Tab:=Tab.of [(15,(zoL Z).te),(17,(zt4 Z).te),(18,(znn Z).te),(19,(zuC Z).te),(20,(zva Z).te)] []
def zvc:List Norm:=[]
noncomputable def zGf:C:=irOf Tryz.prog Tryz.f4 [] zvc []
def zvd:List (Nat × Option (Nat × Bool)):=[(2,none)]
abbrev zve:Sx:=.agg (.dat (Kd.list KN) (.dat (Kd.list Kd.bool) (.dat (Kd.list KW) (.dat (Kd.list (Kd.list (Kd.list I6))) .nil)))) .nil
abbrev zGg:Sx:=.grp (.dat Kd.bool .nil) .nil
abbrev zii:LF:=.pure zve zGg true
def zpA (Z:Nat) (x0:List NY) (x1:List Bool) (x2:List WY) (x3:List (List (List Int))):Option ((Bool × Unit) × Unit) :=
 Option.bind (zoW Z ((x0,x1,x2,x3,()),((1048576:Int),()),())) fun y_1 =>
 cond (decide (y_1.1.1 < (0:Int)))
 (some (((true,()),())))
 (Option.bind (zhP Z ((x0,x1,x2,x3,()),())) fun y_3 =>
 Option.bind (zjz Z ((y_3.1.1,y_3.1.2.1,y_3.1.2.2.1,y_3.1.2.2.2.1,()),())) fun y_4 =>
 Option.bind (zhP Z ((x0,x1,x2,x3,()),())) fun y_5 =>
 Option.bind (zkP Z ((y_5.1.1,y_5.1.2.1,y_5.1.2.2.1,y_5.1.2.2.2.1,()),())) fun y_6 =>
 cond (!y_6.1.1 == y_4.1.1)
 (some (((false,()),())))
 (Option.bind (zhP Z ((x0,x1,x2,x3,()),())) fun y_8 =>
 Option.bind (zpz Z ((y_5.1.1,y_5.1.2.1,y_5.1.2.2.1,y_5.1.2.2.2.1,()),(y_8.1.1,y_8.1.2.1,y_8.1.2.2.1,y_8.1.2.2.2.1,()),())) fun y_9 =>
 cond (!y_9.1.1)
 (some (((false,()),())))
 (some (((true,()),())))))
def zmb (Z:Nat) (z:(((List NY) × ((List Bool) × ((List WY) × ((List (List (List Int))) × Unit)))) × Unit)):Option ((Bool × Unit) × Unit):=zpA Z z.1.1 z.1.2.1 z.1.2.2.1 z.1.2.2.2.1
theorem zGh (Z:Nat) (xa:zii.rt.T) (xd:zii.D.T):zii.go (zvb Z) Z zGf zvd xa xd = zmb Z (zii.xb (xa,xd)):=by kernel_rfl
abbrev zvf (Z:Nat):LE:=⟨zii,zmb Z⟩
theorem zGi (Z:Nat):FnSpec Tryz.prog 4 (zvf Z):=specF (T:=zvb Z) (fn:=Tryz.f4) (le:=zvf Z) (frz:=[]) (ann:=zvc) (cuts:=[]) (rv:=zvd) (TabOK.of (entCons (zDq Z) (entCons (zEk Z) (entCons (zAa Z) (entCons (zFi Z) (entCons (zGe Z) entNil))))) (methNil)) mixed (by kernel_rfl) (by kernel_rfl) (by kernel_rfl) (fun _ => rfl) (fun _ => rfl) (fun xa xd y h => ⟨Z,(zGh Z xa xd).trans h⟩)
end Go.Proofs.YtljojacnjjgceaaGreat.Den
namespace Go.Proofs.YtljojacnjjgceaaGreat.Den
open Go
theorem w64_id {x:Int} (h1:-9223372036854775808 ≤ x) (h2:x ≤ 9223372036854775807):w64 x = x:=by
 unfold w64 IntKind.wrap
 simp only [show IntKind.i64.bits = 64 from rfl,show IntKind.i64.signed = true from rfl,Bool.true_and,decide_eq_true_eq]
 rw [show (2:Int) ^ 64 = 18446744073709551616 from by decide,show (2:Int) ^ (64 - 1) = 9223372036854775808 from by decide]
 split <;> omega
def Ret {R:Type} (o:Option R) (Q:R → Prop):Prop:=∃ r,o = some r ∧ Q r
section
variable {R S V:Type} {Q:R → Prop} {x y:Option R}
theorem Ret.ret {r:R} (h:Q r):Ret (some r) Q:=⟨r,rfl,h⟩
theorem Ret.mono {Q':R → Prop} (h:Ret x Q) (h2:∀ r,Q r → Q' r):Ret x Q':=by
 obtain ⟨r,h1,h3⟩:=h; exact ⟨r,h1,h2 r h3⟩
theorem Ret.bind {o:Option S} {k:S → Option R} {P:S → Prop} (h:Ret o P) (hk:∀ s,P s → Ret (k s) Q):Ret (o.bind k) Q:=by
 obtain ⟨s,h1,h2⟩:=h
 subst h1; exact hk s h2
theorem Ret.cond {b:Bool} (ht:b = true → Ret x Q) (hf:b = false → Ret y Q):Ret (cond b x y) Q:=by
 cases b
 ·exact hf rfl
 ·exact ht rfl
theorem Ret.tst {b:Bool} (hb:b = true) (h:Ret x Q):Ret (tst b x) Q:=by
 subst hb; exact h
theorem Ret.eq {r:R} (h:Ret x fun s => s = r):x = some r:=by
 obtain ⟨s,h1,h2⟩:=h; rw [h1,h2]
theorem Ret.of {r:R} (h:x = some r):Ret x fun s => s = r:=⟨r,h,rfl⟩
theorem Ret.loop {step:(V → Option R) → V → Option R} (I:Nat → V → Prop) (h:∀ (n:Nat) (v:V) (g:V → Option R),I n v → (∀ m v',m < n → I m v' → Ret (g v') Q) → Ret (step g v) Q) :
  ∀ (Z n:Nat) (v:V),I n v → n < Z → Ret (iter step Z v) Q
 | 0,n,v,_,h2 => by omega
 | Z + 1,n,v,h1,h2 => h n v _ h1 fun m v' h3 h4 => Ret.loop I h Z m v' h4 (by omega)
end
end Go.Proofs.YtljojacnjjgceaaGreat.Den
namespace Go.Proofs.YtljojacnjjgceaaGreat.Den
open Go
section
variable {R V α β:Type} {σ:Type}
def upGo (body:Nat → (σ → Option R) → σ → Option R) (fin:σ → Option R):Nat → Nat → σ → Option R
 | 0,_,s => fin s
 | d + 1,i,s => body i (upGo body fin d (i + 1)) s
def goL (b:α → (σ → Option R) → σ → Option R) (fin:σ → Option R):List α → σ → Option R
 | [],s => fin s
 | x :: r,s => b x (goL b fin r) s
theorem iter_up {st:(V → Option R) → V → Option R} {enc:Nat → σ → V} {body:Nat → (σ → Option R) → σ → Option R} {fin:σ → Option R} (n:Nat)
  (hs:∀ i s g,i < n → st g (enc i s) = body i (fun s' => g (enc (i + 1) s')) s) (he:∀ s g,st g (enc n s) = fin s) :
  ∀ (d i:Nat) (s:σ) (Z:Nat),i + d = n → d < Z → iter st Z (enc i s) = upGo body fin d i s
 | 0,i,s,Z + 1,hi,hf => by
  obtain rfl:i = n:=by omega
  rw [iter,he]; rfl
 | d + 1,i,s,Z + 1,hi,hf => by
  rw [iter,hs i s _ (by omega)]
  show body i _ s = body i _ s
  congr 1
  funext s'
  exact iter_up n hs he d (i + 1) s' Z (by omega) (by omega)
theorem z8 {l:List α} {i:Nat} (d:α) (h:i < l.length):l.drop i = l.getD i d :: l.drop (i + 1):=by
 rw [List.drop_eq_getElem_cons h,List.getD_eq_getElem?_getD,List.getElem?_eq_getElem h]; rfl
theorem zt {st:(V → Option R) → V → Option R} {enc:Nat → σ → V} (b:α → (σ → Option R) → σ → Option R) (fin:σ → Option R) (l:List α) (d0:α)
  (hs:∀ i s g,i < l.length → st g (enc i s) = b (l.getD i d0) (fun s' => g (enc (i + 1) s')) s) (he:∀ s g,st g (enc l.length s) = fin s)
  (Z:Nat) (s:σ) (hf:l.length < Z):iter st Z (enc 0 s) = goL b fin l s:=by
 rw [iter_up (body:=fun i => b (l.getD i d0)) (fin:=fin) l.length hs he l.length 0 s Z (by omega) hf]
 have:∀ (d i:Nat) (s:σ),i + d = l.length → upGo (fun i => b (l.getD i d0)) fin d i s = goL b fin (l.drop i) s:=by
  intro d
  induction d with
  | zero => intro i s h; rw [List.drop_eq_nil_of_le (by omega)]; rfl
  | succ d ih =>
   intro i s h
   rw [z8 d0 (show i < l.length by omega)]
   show b _ _ s = b _ _ s
   congr 1
   funext s'
   exact ih (i + 1) s' (by omega)
 exact this l.length 0 s (by omega)
theorem zp4 {st:(V → Option R) → V → Option R} {enc:Nat → σ → V} (b:α → β → (σ → Option R) → σ → Option R) (fin:σ → Option R) (l:List α) (d0:α) (p0:β) (key:α → β)
  (hs:∀ i s g,i < l.length → st g (enc i s) = b (l.getD i d0) (if i = 0 then p0 else key (l.getD (i - 1) d0)) (fun s' => g (enc (i + 1) s')) s) (he:∀ s g,st g (enc l.length s) = fin s)
  (Z:Nat) (s:σ) (hf:l.length < Z):iter st Z (enc 0 s) = goL (fun x k (ps:β × σ) => b x ps.1 (fun s' => k (key x,s')) ps.2) (fun ps => fin ps.2) l (p0,s):=by
 rw [iter_up (body:=fun i => b (l.getD i d0) (if i = 0 then p0 else key (l.getD (i - 1) d0))) (fin:=fin) l.length hs he l.length 0 s Z (by omega) hf]
 have:∀ (d i:Nat) (s:σ),i + d = l.length → upGo (fun i => b (l.getD i d0) (if i = 0 then p0 else key (l.getD (i - 1) d0))) fin d i s
   = goL (fun x k (ps:β × σ) => b x ps.1 (fun s' => k (key x,s')) ps.2) (fun ps => fin ps.2) (l.drop i) (if i = 0 then p0 else key (l.getD (i - 1) d0),s):=by
  intro d
  induction d with
  | zero => intro i s h; rw [List.drop_eq_nil_of_le (by omega)]; rfl
  | succ d ih =>
   intro i s h
   rw [z8 d0 (show i < l.length by omega)]
   show b _ _ _ s = b _ _ _ s
   congr 1
   funext s'
   have:=ih (i + 1) s' (by omega)
   simpa using this
 exact this l.length 0 s (by omega)
theorem all_go {b:α → (σ → Option R) → σ → Option R} {fin:σ → Option R} (p:α → Bool) (r:R) (h:∀ x k s,b x k s = cond (p x) (k s) (some r)) :
  ∀ (l:List α) (s:σ),goL b fin l s = cond (l.all p) (fin s) (some r)
 | [],s => rfl
 | x :: l,s => by
  show b x _ s = _
  rw [h,all_go p r h l s,List.all_cons]
  cases p x <;> rfl
theorem fold_go {b:α → (σ → Option R) → σ → Option R} {fin:σ → Option R} (u:σ → α → σ) (h:∀ x k s,b x k s = k (u s x)) :
  ∀ (l:List α) (s:σ),goL b fin l s = fin (l.foldl u s)
 | [],s => rfl
 | x :: l,s => by
  show b x _ s = _
  rw [h,fold_go u h l]; rfl
theorem zHC {out:List β} {i:Nat} {y:β} (h:i < out.length) (r:List β):(out.set i y).take (i + 1) ++ r = out.take i ++ y :: r:=by
 rw [List.take_succ_eq_append_getElem (by simpa using h),List.getElem_set_self,List.take_set_of_le (Nat.le_refl i),List.append_assoc]; rfl
theorem zwy {st:(V → Option R) → V → Option R} {enc:Nat → List β → V} (fin:List β → Option R) (l:List α) (d0:α) (h:α → β)
  (hs:∀ i out g,i < l.length → out.length = l.length → st g (enc i out) = g (enc (i + 1) (out.set i (h (l.getD i d0))))) (he:∀ out g,st g (enc l.length out) = fin out) :
  ∀ (d i:Nat) (out:List β) (Z:Nat),i + d = l.length → out.length = l.length → d < Z → iter st Z (enc i out) = fin (out.take i ++ (l.drop i).map h)
 | 0,i,out,Z + 1,hi,ho,hf => by
  obtain rfl:i = l.length:=by omega
  rw [iter,he,List.drop_eq_nil_of_le (Nat.le_refl _),← ho,List.take_length]; simp
 | d + 1,i,out,Z + 1,hi,ho,hf => by
  rw [iter,hs i out _ (by omega) ho,zwy fin l d0 h hs he d (i + 1) _ Z (by omega) (by simpa using ho) (by omega),zHC (by omega),z8 d0 (show i < l.length by omega)]
  rfl
theorem zaz {st:(V → Option R) → V → Option R} {enc:Nat → List β → V} (fin:List β → Option R) (l:List α) (d0:α) (h:α → β)
  (hs:∀ i out g,i < l.length → out.length = l.length → st g (enc i out) = g (enc (i + 1) (out.set i (h (l.getD i d0))))) (he:∀ out g,st g (enc l.length out) = fin out)
  (Z:Nat) (z:β) (hf:l.length < Z):iter st Z (enc 0 (List.replicate l.length z)) = fin (l.map h):=by
 rw [zwy fin l d0 h hs he l.length 0 _ Z (by omega) (by simp) hf]; rfl
theorem zaA {st:(V → Option R) → V → Option R} {enc:Nat → V} (r:Option R) (n:Nat)
  (hs:∀ i g,i < n → st g (enc i) = g (enc (i + 1))) (he:∀ g,st g (enc n) = r):∀ (d i Z:Nat),i + d = n → d < Z → iter st Z (enc i) = r
 | 0,i,Z + 1,hi,hf => by
  obtain rfl:i = n:=by omega
  rw [iter,he]
 | d + 1,i,Z + 1,hi,hf => by
  rw [iter,hs i _ (by omega),zaA r n hs he d (i + 1) Z (by omega) (by omega)]
end
theorem w64_up {i:Nat} (h:i < 4294967296):w64 ((i:Int) + 1) = ((i + 1:Nat):Int):=by rw [w64_id] <;> omega
theorem w64_dn {i:Nat} (h0:i ≠ 0) (h:i < 4294967296):w64 ((i:Int) - 1) = ((i - 1:Nat):Int):=by rw [w64_id] <;> omega
theorem lt_cast {i n:Nat} (h:i < n):(i:Int) < (n:Int):=by omega
theorem zb {n:Nat}:¬ ((n:Int) < (n:Int)):=by omega
theorem le_cast {i:Nat}:(0:Int) ≤ (i:Int):=by omega
theorem zp5 {i:Nat} (h:i = 0):¬ ((i:Int) > 0):=by omega
theorem zp6 {i:Nat} (h:i ≠ 0):(i:Int) > 0:=by omega
end Go.Proofs.YtljojacnjjgceaaGreat.Den
namespace Go.Proofs.YtljojacnjjgceaaGreat.Den
open Go Go.RowKit
abbrev Knot:=Int × Int × Unit
theorem in_eq (f:Nat) (n lo hi:Int):zf f ((n,()),(lo,()),(hi,()),()) = some ((decide (lo ≤ n ∧ n ≤ hi),()),()):=by
 unfold zf zqy
 by_cases h:lo ≤ n
 ·simp [h]
 ·simp [h]
def okGo (all:Int):List Knot → Int → Int → Bool
 | [],_,sum => sum == all
 | k :: r,before,sum => if k.1 ≤ before ∨ 128 ≤ k.1 ∨ k.2.1 < 1 ∨ 2000 < k.2.1 ∨ (k.1 < 64 ∧ w64 (all.tdiv 8) < k.2.1) then false else okGo all r k.1 (w64 (sum + k.2.1))
def okB (ks:List Knot) (all:Int):Bool:=if all < 0 ∨ 2000 < all then false else okGo all ks 0 0
theorem zeN {α:Type} {ks:List α} {i:Nat} (d:α) (h:i < ks.length):ks.drop i = ks.getD i d :: ks.drop (i + 1):=by
 rw [List.drop_eq_getElem_cons h,List.getD_eq_getElem?_getD,List.getElem?_eq_getElem h]; rfl
theorem zvg (f:Nat) (ks:List Knot) (all:Int) (hl:ks.length < 4294967296):∀ (d i:Nat) (before sum:Int) (Z:Nat),i + d = ks.length → (i = 0 → before = 0) → (0 < i → before = (ks.getD (i - 1) (0,0,())).1 ∧ 1 ≤ before) → d < Z →
  iter (ziY f) Z ((i:Int),sum,ks,all) = some ((okGo all (ks.drop i) before sum,()),())
 | 0,i,before,sum,Z + 1,hi,hb0,hb1,hf => by
  rw [iter]
  show zfb f _ _ = _
  unfold zfb
  have h1:¬ ((i:Int) < (ks.length:Int)):=by omega
  have h2:ks.drop i = []:=List.drop_eq_nil_of_le (by omega)
  simp [h1,h2,okGo,zz_eq]
 | d + 1,i,before,sum,Z + 1,hi,hb0,hb1,hf => by
  rw [iter]
  show zfb f _ _ = _
  unfold zfb
  have h1:(i:Int) < (ks.length:Int):=by omega
  have h2:(0:Int) ≤ (i:Int):=by omega
  have h3:w64 ((i:Int) + 1) = (i:Int) + 1:=by rw [w64_id] <;> omega
  have ih:∀ sum,1 ≤ (ks.getD i (0,0,())).1 → iter (ziY f) Z ((i:Int) + 1,sum,ks,all) = some ((okGo all (ks.drop (i + 1)) (ks.getD i (0,0,())).1 sum,()),()):=fun sum h => by
   exact_mod_cast zvg f ks all hl d (i + 1) _ sum Z (by omega) (by omega) (fun _ => ⟨rfl,h⟩) (by omega)
  rw [zeN (0,0,()) (show i < ks.length by omega)]
  simp only [h1,h2,h3,zz_eq,Int.toNat_natCast,decide_true,cond_true,in_eq,Option.bind_some]
  have hpos:(decide ((i:Int) > 0) = true → 0 < i ∧ (0:Int) ≤ w64 ((i:Int) - 1) ∧ w64 ((i:Int) - 1) < (ks.length:Int) ∧ (w64 ((i:Int) - 1)).toNat = i - 1):=by
   intro h
   have h0:0 < i:=by simpa using h
   have e:w64 ((i:Int) - 1) = ((i - 1:Nat):Int):=by rw [w64_id] <;> omega
   rw [e]; omega
  obtain ⟨k,hk⟩:∃ k:Knot,ks.getD i (0,0,()) = k:=⟨_,rfl⟩
  simp only [hk] at ih ⊢
  unfold okGo
  by_cases c1:1 ≤ k.1 ∧ k.1 ≤ 127
  ·by_cases c2:1 ≤ k.2.1 ∧ k.2.1 ≤ 2000
   ·have d2:¬ 128 ≤ k.1:=by omega
    have d3:¬ k.2.1 < 1:=by omega
    have d4:¬ 2000 < k.2.1:=by omega
    have ih':=fun s => ih s c1.1
    simp only [c1,c2,and_self,decide_true,Bool.not_true,cond_false,d2,d3,d4,false_or]
    cases hz:decide ((i:Int) > 0) with
    | true =>
     obtain ⟨g0,g1,g2,g3⟩:=hpos hz
     obtain ⟨g4,g5⟩:=hb1 g0
     simp only [cond_true,g1,g2,g3,decide_true,← g4]
     by_cases c3:k.1 ≤ before
     ·simp [c3]
     ·by_cases c5:k.1 < 64
      ·by_cases c6:w64 (all.tdiv 8) < k.2.1
       ·simp [c3,c5,c6]
       ·simp [c3,c5,c6,ih']
      ·simp [c3,c5,ih']
    | false =>
     have g0:i = 0:=by have:¬ (i:Int) > 0:=of_decide_eq_false hz; omega
     have g1:=hb0 g0
     have c3:¬ k.1 ≤ before:=by omega
     by_cases c5:k.1 < 64
     ·by_cases c6:w64 (all.tdiv 8) < k.2.1
      ·simp [c3,c5,c6]
      ·simp [c3,c5,c6,ih']
     ·simp [c3,c5,ih']
   ·have:k.1 ≤ before ∨ 128 ≤ k.1 ∨ k.2.1 < 1 ∨ 2000 < k.2.1 ∨ (k.1 < 64 ∧ w64 (all.tdiv 8) < k.2.1):=by omega
    simp [c1,c2,this]
  ·have hbp:0 ≤ before:=by
    rcases Nat.eq_zero_or_pos i with h | h
    ·rw [hb0 h]; omega
    ·have:=(hb1 h).2; omega
   have:k.1 ≤ before ∨ 128 ≤ k.1 ∨ k.2.1 < 1 ∨ 2000 < k.2.1 ∨ (k.1 < 64 ∧ w64 (all.tdiv 8) < k.2.1):=by omega
   simp [c1,this]
theorem zwz (f:Nat) (ks:List Knot) (all:Int) (hl:ks.length < 4294967296) (hf:ks.length < f):zcM f ((ks,all,()),()) = some ((okB ks all,()),()):=by
 unfold zcM zmQ okB
 simp only [in_eq,Option.bind_some]
 by_cases c:0 ≤ all ∧ all ≤ 2000
 ·have c1:¬ (all < 0 ∨ 2000 < all):=by omega
  have:=zvg f ks all hl ks.length 0 0 0 f (by omega) (fun _ => rfl) (by omega) hf
  simp only [c,c1,and_self,decide_true,Bool.not_true,cond_false,if_false]
  simpa using this
 ·have c1:all < 0 ∨ 2000 < all:=by omega
  simp [c,c1]
def isum (l:List Int):Int:=l.foldl (fun s x => w64 (s + x)) 0
def rng (x:Int):Bool:=decide (0 ≤ x ∧ x ≤ 2000)
theorem isum_eq (f:Nat) (l:List Int) (hl:l.length < 4294967296) (hf:l.length < f):zao f ((l,()),()) = some ((isum l,()),()):=by
 show iter (ziN f) f ((0:Int),l,(0:Int)) = _
 refine (zt (st:=ziN f) (enc:=fun i s => ((i:Int),l,s)) (fun x k s => k (w64 (s + x))) (fun s => some ((s,()),())) l 0 ?_ ?_ f 0 hf).trans (fold_go (fun s x => w64 (s + x)) (fun _ _ _ => rfl) l 0)
 ·intro i s g hi
  show zeX f g _ = _
  unfold zeX
  simp only [zz_eq,lt_cast hi,le_cast,decide_true,cond_true,Int.toNat_natCast,w64_up (Nat.lt_trans hi hl)]
 ·intro s g
  show zeX f g _ = _
  unfold zeX
  simp only [zz_eq,zb,decide_false,cond_false]
def rowB (row:List Int):Bool:=decide (row.length = 8) && (row.all rng && decide (isum row ≤ 2000))
def roughB (rs:List (List Int)):Bool:=decide (rs.length = 3) && rs.all fun row => rowB row && (isum row == isum (rs.getD 0 []))
theorem three {α:Type} {rs:List α} (h:rs.length = 3):∃ a b c,rs = [a,b,c]:=by
 match rs,h with
 | [a,b,c],_ => exact ⟨a,b,c,rfl⟩
theorem zp7 (f:Nat) (rs:List (List Int)) (hf:8 < f) (hr:∀ r ∈ rs,r.length < f ∧ r.length < 4294967296):zcH f ((rs,()),()) = some ((roughB rs,()),()):=by
 show ziP f (iter (ziO f) f) rs = _
 unfold ziP
 by_cases h:rs.length = 3
 ·have e:(zz rs.length != (3:Int)) = false:=by simp [zz_eq,h]
  rw [e,cond_false]
  have:=zt (st:=ziO f) (enc:=fun i (s:Unit) => ((i:Int),rs)) (fun row k s => cond (rowB row && (isum row == isum (rs.getD 0 []))) (k s) (some ((false,()),()))) (fun s => some ((true,()),())) rs [] ?_ ?_ f () (by omega)
  ·refine this.trans ?_
   rw [all_go _ _ (fun _ _ _ => rfl)]
   unfold roughB
   simp only [h,decide_true,Bool.true_and]
   cases (rs.all fun row => rowB row && (isum row == isum (rs.getD 0 []))) <;> rfl
  ·intro i s g hi
   show zcG f _ g _ = _
   unfold zcG
   have l3:(i:Int) < 3:=by omega
   simp only [zz_eq,lt_cast hi,l3,le_cast,decide_true,cond_true,Int.toNat_natCast]
   obtain ⟨x,hx⟩:∃ x:List Int,rs.getD i [] = x:=⟨_,rfl⟩
   simp only [hx]
   by_cases c1:x.length = 8
   ·have e8:((x.length:Int) != 8) = false:=by simp [c1]
    rw [e8,cond_false]
    have:=zt (st:=zmN f g) (enc:=fun k (s:Unit) => ((k:Int),(i:Int),rs)) (fun y k s => cond (rng y) (k s) (some ((false,()),()))) (fun s => cond (isum x == isum (rs.getD 0 []) && decide (isum x ≤ 2000)) (g (((i + 1:Nat):Int),rs)) (some ((false,()),()))) x 0 ?_ ?_ f () (by omega)
    ·refine this.trans ?_
     rw [all_go _ _ (fun _ _ _ => rfl)]
     unfold rowB
     simp only [c1,decide_true,Bool.true_and]
     cases x.all rng <;> cases (isum x == isum (rs.getD 0 [])) <;> cases decide (isum x ≤ 2000) <;> rfl
    ·intro k s g' hk
     show zcF f _ g' _ = _
     unfold zcF
     have l8:(k:Int) < 8:=by omega
     simp only [zz_eq,lt_cast hi,lt_cast hk,l8,le_cast,decide_true,cond_true,Int.toNat_natCast,hx,in_eq,Option.bind_some,w64_up (show k < 4294967296 by omega)]
     unfold rng
     cases decide (0 ≤ x.getD k 0 ∧ x.getD k 0 ≤ 2000) <;> rfl
    ·intro s g'
     show zcF f _ g' _ = _
     unfold zcF
     have l8:¬ ((x.length:Int) < 8):=by omega
     have l0:(0:Int) < (rs.length:Int):=by omega
     have ix:zao f ((x,()),()) = some ((isum x,()),()):=isum_eq f x (by omega) (by omega)
     simp only [zz_eq,l8,decide_false,cond_false,lt_cast hi,l0,le_cast,decide_true,cond_true,Int.toNat_natCast,hx,ix,Option.bind_some,w64_up (show i < 4294967296 by omega)]
     obtain ⟨g1,g2⟩:(rs.getD 0 []).length < f ∧ (rs.getD 0 []).length < 4294967296:=by
      obtain ⟨a,b,c,rfl⟩:=three h
      exact hr a (by simp)
     have i0:zao f ((rs.getD 0 [],()),()) = some ((isum (rs.getD 0 []),()),()):=isum_eq f _ g2 g1
     simp only [Int.toNat_zero,i0,Option.bind_some]
     by_cases c3:isum x = isum (rs.getD 0 [])
     ·simp only [c3,bne_self_eq_false,cond_false,beq_self_eq_true,Bool.true_and]
      by_cases c:isum (rs.getD 0 []) ≤ 2000
      ·have:¬ isum (rs.getD 0 []) > 2000:=by omega
       simp only [c,this,decide_true,decide_false,cond_true,cond_false]
      ·have:isum (rs.getD 0 []) > 2000:=by omega
       simp only [c,this,decide_true,decide_false,cond_true,cond_false]
     ·have c4:(isum x == isum (rs.getD 0 [])) = false:=by simpa using c3
      simp only [bne,c4,Bool.not_false,Bool.false_and,cond_true,cond_false]
   ·have e8:((x.length:Int) != 8) = true:=by simp; omega
    rw [e8,cond_true]
    unfold rowB
    simp [c1]
  ·intro s g
   show zcG f _ g _ = _
   unfold zcG
   have l3:¬ ((rs.length:Int) < 3):=by omega
   simp only [l3,decide_false,cond_false]
 ·have e:(zz rs.length != (3:Int)) = true:=by simp [zz_eq]; omega
  rw [e,cond_true]
  unfold roughB
  simp [h]
def fewGo:List Int → Int → Bool
 | [],_ => true
 | x :: r,p => decide (p < x ∧ x ≤ 63) && fewGo r x
def fewB (l:List Int):Bool:=decide (l.length ≤ 6) && fewGo l (-1)
theorem zwA (f:Nat) (l:List Int) (hl:l.length < 4294967296) (hf:l.length < f):ze1 f ((l,()),()) = some ((fewB l,()),()):=by
 show iter (ziR f) f ((0:Int),l) = _
 refine (zp4 (st:=ziR f) (enc:=fun i (s:Unit) => ((i:Int),l)) (fun x p k s => cond (decide (p < x ∧ 0 ≤ x ∧ x ≤ 63)) (k s) (some ((false,()),()))) (fun s => some ((decide (l.length ≤ 6),()),())) l 0 (-1) id ?_ ?_ f () hf).trans ?_
 ·intro i s g hi
  show ze0 f g _ = _
  unfold ze0
  simp only [zz_eq,lt_cast hi,le_cast,decide_true,cond_true,Int.toNat_natCast,w64_up (show i < 4294967296 by omega),in_eq,Option.bind_some,id]
  obtain ⟨x,hx⟩:∃ x:Int,l.getD i 0 = x:=⟨_,rfl⟩
  simp only [hx]
  by_cases c1:0 ≤ x ∧ x ≤ 63
  ·by_cases z:i = 0
   ·have:-1 < x ∧ 0 ≤ x ∧ x ≤ 63:=by omega
    simp only [zp5 z,c1,this,z,and_self,if_true,decide_true,decide_false,cond_true,cond_false,Bool.not_true]
    subst z; rfl
   ·have g1:i - 1 < l.length:=by omega
    simp only [zp6 z,w64_dn z (show i < 4294967296 by omega),lt_cast g1,le_cast,c1,z,and_self,if_false,decide_true,decide_false,cond_true,cond_false,Bool.not_true,Int.toNat_natCast]
    obtain ⟨y,hy⟩:∃ y:Int,l.getD (i - 1) 0 = y:=⟨_,rfl⟩
    simp only [hy]
    by_cases c2:y ≥ x
    ·have:¬ (y < x ∧ True):=fun h => by have:=h.1; omega
     simp only [c2,this,and_self,and_true,true_and,and_false,false_and,decide_true,decide_false,cond_true,cond_false]
    ·have:(y < x ∧ True):=⟨by omega,trivial⟩
     simp only [c2,this,and_self,and_true,true_and,and_false,false_and,decide_true,decide_false,cond_true,cond_false]
  ·have:∀ p:Int,¬ (p < x ∧ 0 ≤ x ∧ x ≤ 63):=fun p h => c1 h.2
   simp only [c1,this,and_self,and_true,true_and,and_false,false_and,decide_true,decide_false,cond_true,cond_false,Bool.not_false]
 ·intro s g
  show ze0 f g _ = _
  unfold ze0
  have:((l.length:Int) ≤ 6) = (l.length ≤ 6):=by apply propext; omega
  simp only [zz_eq,zb,decide_false,cond_false,this]
 ·have:∀ (q:Bool) (l:List Int) (p:Int),-1 ≤ p → goL (R:=((Bool × Unit) × Unit)) (fun x k (ps:Int × Unit) => cond (decide (ps.1 < x ∧ 0 ≤ x ∧ x ≤ 63)) (k (id x,ps.2)) (some ((false,()),()))) (fun s => some ((q,()),())) l (p,()) = some ((q && fewGo l p,()),()):=by
   intro q l
   induction l with
   | nil => intro p _; cases q <;> rfl
   | cons x l ih =>
    intro p hp
    show cond _ (goL _ _ l (x,())) _ = _
    unfold fewGo
    by_cases c:p < x ∧ x ≤ 63
    ·have:p < x ∧ 0 ≤ x ∧ x ≤ 63:=by omega
     rw [ih x (by omega)]
     simp only [c,this,and_self,decide_true,cond_true,Bool.true_and]
    ·have:¬ (p < x ∧ 0 ≤ x ∧ x ≤ 63):=by omega
     simp only [c,this,decide_false,cond_false,Bool.false_and,Bool.and_false]
  unfold fewB
  exact this _ l (-1) (by omega)
def topGo (all:Int):List Knot → Int → Int → Bool
 | [],_,s => decide (s ≤ all)
 | x :: r,p,s => decide (p < x.1 ∧ x.1 ≤ 63 ∧ 1 ≤ x.2.1 ∧ x.2.1 ≤ 2000) && topGo all r x.1 (w64 (s + x.2.1))
def topB (l:List Knot) (lost all:Int):Bool:=decide (l.length ≤ 4 ∧ 0 ≤ lost ∧ lost ≤ 2000 ∧ 0 ≤ all ∧ all ≤ 2000) && topGo all l (-1) (lost * 5)
def tsum (l:List Knot):Int:=l.foldl (fun s x => w64 (s + x.2.1)) 0
theorem tsum_eq (f:Nat) (l:List Knot) (hl:l.length < 4294967296) (hf:l.length < f):ziU f ((l,()),()) = some ((tsum l,()),()):=by
 show iter (ziT f) f ((0:Int),l,(0:Int)) = _
 refine (zt (st:=ziT f) (enc:=fun i s => ((i:Int),l,s)) (fun (x:Knot) k s => k (w64 (s + x.2.1))) (fun s => some ((s,()),())) l (0,0,()) ?_ ?_ f 0 hf).trans (fold_go (fun s x => w64 (s + x.2.1)) (fun _ _ _ => rfl) l 0)
 ·intro i s g hi
  show ze4 f g _ = _
  unfold ze4
  simp only [zz_eq,lt_cast hi,le_cast,decide_true,cond_true,Int.toNat_natCast,w64_up (Nat.lt_trans hi hl)]
 ·intro s g
  show ze4 f g _ = _
  unfold ze4
  simp only [zz_eq,zb,decide_false,cond_false]
def topAsc:List Knot → Int → Bool
 | [],_ => true
 | x :: r,p => decide (p < x.1 ∧ x.1 ≤ 63 ∧ 1 ≤ x.2.1 ∧ x.2.1 ≤ 2000) && topAsc r x.1
def psum:List Knot → Int
 | [] => 0
 | x :: r => x.2.1 + psum r
theorem zwB (all:Int):∀ (l:List Knot) (p s:Int),0 ≤ s → s + 2000 * l.length ≤ 1000000000000 → topGo all l p s = (topAsc l p && decide (s + psum l ≤ all))
 | [],p,s,_,_ => by simp [topGo,topAsc,psum]
 | x :: l,p,s,h0,h1 => by
  unfold topGo topAsc psum
  simp only [List.length_cons] at h1
  by_cases c:p < x.1 ∧ x.1 ≤ 63 ∧ 1 ≤ x.2.1 ∧ x.2.1 ≤ 2000
  ·have e:w64 (s + x.2.1) = s + x.2.1:=by rw [w64_id] <;> omega
   rw [e,zwB all l x.1 _ (by omega) (by omega)]
   simp only [c,and_self,decide_true,Bool.true_and,Int.add_assoc]
  ·simp only [c,decide_false,Bool.false_and]
theorem tsum_go:∀ (l:List Knot) (p s:Int),0 ≤ s → s + 2000 * l.length ≤ 1000000000000 → topAsc l p = true → l.foldl (fun s x => w64 (s + x.2.1)) s = s + psum l ∧ 0 ≤ psum l ∧ psum l ≤ 2000 * l.length
 | [],p,s,_,_,_ => by simp [psum]
 | x :: l,p,s,h0,h1,h2 => by
  unfold topAsc at h2
  simp only [Bool.and_eq_true,decide_eq_true_eq] at h2
  simp only [List.length_cons] at h1 ⊢
  have e:w64 (s + x.2.1) = s + x.2.1:=by rw [w64_id] <;> omega
  obtain ⟨a,b,c⟩:=tsum_go l x.1 (s + x.2.1) (by omega) (by omega) h2.2
  unfold psum
  simp only [List.foldl_cons,e,a]
  omega
theorem zwC (f:Nat) (l:List Knot) (lost all:Int) (hl:l.length < 4294967296) (hf:l.length < f):ze8 f ((l,lost,all,()),()) = some ((topB l lost all,()),()):=by
 show iter (ziW f) f ((0:Int),l,lost,all) = _
 refine (zp4 (st:=ziW f) (enc:=fun i (s:Unit) => ((i:Int),l,lost,all)) (fun x p k s => cond (decide (p < x.1 ∧ 0 ≤ x.1 ∧ x.1 ≤ 63 ∧ 1 ≤ x.2.1 ∧ x.2.1 ≤ 2000)) (k s) (some ((false,()),()))) (fun s => some ((decide (l.length ≤ 4 ∧ 0 ≤ lost ∧ lost ≤ 2000 ∧ 0 ≤ all ∧ all ≤ 2000) && decide (w64 (tsum l + w64 (5 * lost)) ≤ all),()),())) l (0,0,()) (-1) (fun x => x.1) ?_ ?_ f () hf).trans ?_
 ·intro i s g hi
  show ze7 f g _ = _
  unfold ze7
  simp only [zz_eq,lt_cast hi,le_cast,decide_true,cond_true,Int.toNat_natCast,w64_up (show i < 4294967296 by omega),in_eq,Option.bind_some]
  obtain ⟨x,hx⟩:∃ x:Knot,l.getD i (0,0,()) = x:=⟨_,rfl⟩
  simp only [hx]
  by_cases c1:0 ≤ x.1 ∧ x.1 ≤ 63
  ·by_cases c3:1 ≤ x.2.1 ∧ x.2.1 ≤ 2000
   ·by_cases z:i = 0
    ·have:-1 < x.1 ∧ 0 ≤ x.1 ∧ x.1 ≤ 63 ∧ 1 ≤ x.2.1 ∧ x.2.1 ≤ 2000:=by omega
     simp only [zp5 z,c1,c3,this,z,and_self,if_true,decide_true,decide_false,cond_true,cond_false,Bool.not_true]
     subst z; rfl
    ·have g1:i - 1 < l.length:=by omega
     simp only [zp6 z,w64_dn z (show i < 4294967296 by omega),lt_cast g1,le_cast,c1,c3,z,and_self,if_false,decide_true,decide_false,cond_true,cond_false,Bool.not_true,Int.toNat_natCast]
     obtain ⟨y,hy⟩:∃ y:Knot,l.getD (i - 1) (0,0,()) = y:=⟨_,rfl⟩
     simp only [hy]
     by_cases c2:y.1 ≥ x.1
     ·have:¬ (y.1 < x.1 ∧ True):=fun h => by have:=h.1; omega
      simp only [c2,this,and_self,and_true,true_and,and_false,false_and,decide_true,decide_false,cond_true,cond_false]
     ·have:(y.1 < x.1 ∧ True):=⟨by omega,trivial⟩
      simp only [c2,this,and_self,and_true,true_and,and_false,false_and,decide_true,decide_false,cond_true,cond_false]
   ·have:∀ p:Int,¬ (p < x.1 ∧ 0 ≤ x.1 ∧ x.1 ≤ 63 ∧ 1 ≤ x.2.1 ∧ x.2.1 ≤ 2000):=fun p h => c3 h.2.2.2
    simp only [c1,c3,this,and_self,and_true,true_and,and_false,false_and,decide_true,decide_false,cond_true,cond_false,Bool.not_false,Bool.not_true]
  ·have:∀ p:Int,¬ (p < x.1 ∧ 0 ≤ x.1 ∧ x.1 ≤ 63 ∧ 1 ≤ x.2.1 ∧ x.2.1 ≤ 2000):=fun p h => c1 ⟨h.2.1,h.2.2.1⟩
   simp only [c1,this,and_self,and_true,true_and,and_false,false_and,decide_true,decide_false,cond_true,cond_false,Bool.not_false]
 ·intro s g
  show ze7 f g _ = _
  unfold ze7
  simp only [zz_eq,zb,decide_false,cond_false,in_eq,Option.bind_some,tsum_eq f l hl hf]
  by_cases h1:l.length ≤ 4
  ·have e1:((l.length:Int) ≤ 4):=by omega
   by_cases h2:0 ≤ all ∧ all ≤ 2000
   ·by_cases h3:0 ≤ lost ∧ lost ≤ 2000
    ·simp only [h1,e1,h2,h3,and_self,decide_true,cond_true,Bool.true_and]
    ·have:¬ (l.length ≤ 4 ∧ 0 ≤ lost ∧ lost ≤ 2000 ∧ 0 ≤ all ∧ all ≤ 2000):=by omega
     rw [decide_eq_false this]
     simp only [e1,h2,h3,and_self,decide_true,cond_true,decide_false,cond_false,Bool.false_and]
   ·have:¬ (l.length ≤ 4 ∧ 0 ≤ lost ∧ lost ≤ 2000 ∧ 0 ≤ all ∧ all ≤ 2000):=by omega
    rw [decide_eq_false this]
    simp only [e1,h2,and_self,decide_true,cond_true,decide_false,cond_false,Bool.false_and]
  ·have e1:¬ ((l.length:Int) ≤ 4):=by omega
   have:¬ (l.length ≤ 4 ∧ 0 ≤ lost ∧ lost ≤ 2000 ∧ 0 ≤ all ∧ all ≤ 2000):=by omega
   simp only [e1,this,and_self,decide_true,cond_true,decide_false,cond_false,Bool.false_and]
 ·have:∀ (q:Bool) (l:List Knot) (p:Int),-1 ≤ p → goL (R:=((Bool × Unit) × Unit)) (fun (x:Knot) k (ps:Int × Unit) => cond (decide (ps.1 < x.1 ∧ 0 ≤ x.1 ∧ x.1 ≤ 63 ∧ 1 ≤ x.2.1 ∧ x.2.1 ≤ 2000)) (k (x.1,ps.2)) (some ((false,()),()))) (fun s => some ((q,()),())) l (p,()) = some ((topAsc l p && q,()),()):=by
   intro q l
   induction l with
   | nil => intro p _; rfl
   | cons x l ih =>
    intro p hp
    show cond _ (goL _ _ l (x.1,())) _ = _
    unfold topAsc
    by_cases c:p < x.1 ∧ x.1 ≤ 63 ∧ 1 ≤ x.2.1 ∧ x.2.1 ≤ 2000
    ·have:p < x.1 ∧ 0 ≤ x.1 ∧ x.1 ≤ 63 ∧ 1 ≤ x.2.1 ∧ x.2.1 ≤ 2000:=by omega
     rw [ih x.1 (by omega)]
     simp only [c,this,and_self,decide_true,cond_true,Bool.true_and]
    ·have:¬ (p < x.1 ∧ 0 ≤ x.1 ∧ x.1 ≤ 63 ∧ 1 ≤ x.2.1 ∧ x.2.1 ≤ 2000):=by omega
     simp only [c,this,decide_false,cond_false,Bool.false_and,Bool.and_false]
  refine (this _ l (-1) (by omega)).trans ?_
  unfold topB
  by_cases h:l.length ≤ 4 ∧ 0 ≤ lost ∧ lost ≤ 2000 ∧ 0 ≤ all ∧ all ≤ 2000
  ·rw [zwB all l (-1) (lost * 5) (by omega) (by omega)]
   simp only [h,and_self,decide_true,Bool.true_and]
   cases ht:topAsc l (-1)
   ·rfl
   ·obtain ⟨a,b,c⟩:=tsum_go l (-1) 0 (by omega) (by omega) ht
    have e:w64 (tsum l + w64 (5 * lost)) = lost * 5 + psum l:=by
     have e1:tsum l = psum l:=by unfold tsum; rw [a]; omega
     rw [e1,w64_id (x:=5 * lost) (by omega) (by omega),w64_id (by omega) (by omega)]; omega
    rw [e]
  ·simp only [h,decide_false,Bool.false_and,Bool.and_false]
def allR (rs:List (List Int)):Int:=cond (roughB rs) (isum (rs.getD 0 [])) (-1)
theorem zHD (f:Nat) (rs:List (List Int)) (hf:8 < f) (hr:∀ r ∈ rs,r.length < f ∧ r.length < 4294967296):zmS f ((rs,()),()) = some ((allR rs,()),()):=by
 show zmR f rs = _
 unfold zmR allR
 rw [zp7 f rs hf hr,Option.bind_some]
 cases h:roughB rs
 ·rfl
 ·have h':=h
  unfold roughB at h'
  simp only [Bool.and_eq_true,decide_eq_true_eq] at h'
  obtain ⟨h3,h4⟩:=h'
  obtain ⟨a,b,c,rfl⟩:=three h3
  have:=hr a (by simp)
  simp only [zz_eq,Bool.not_true,cond_false,List.length_cons,List.length_nil,Int.toNat_zero,List.getD_cons_zero,isum_eq f a this.2 this.1,cond_true,Option.bind_some]
  rfl
def sumB (rs:List (List Int)) (ms:List Int) (ps:List Knot) (lost tall:Int) (ks:List Knot) (rall:Int):Bool :=
 roughB rs && (fewB ms && (topB ps lost tall && (okB ks rall && ((allR rs == tall) && ((tall == rall) && (decide ((ms.length:Int) > 0) == decide (tall > 0)))))))
theorem zHE (f:Nat) (rs:List (List Int)) (ms:List Int) (ps:List Knot) (lost tall:Int) (ks:List Knot) (rall:Int) (hf:8 < f)
  (hr:∀ r ∈ rs,r.length < f ∧ r.length < 4294967296) (hm:ms.length < 4294967296 ∧ ms.length < f) (hp:ps.length < 4294967296 ∧ ps.length < f) (hk:ks.length < 4294967296 ∧ ks.length < f) :
  ziZ f ((rs,ms,ps,lost,tall,ks,rall,()),()) = some ((sumB rs ms ps lost tall ks rall,()),()):=by
 show zmT f rs ms ps lost tall ks rall = _
 unfold zmT sumB
 simp only [zp7 f rs hf hr,zwA f ms hm.1 hm.2,zwC f ps lost tall hp.1 hp.2,zwz f ks rall hk.1 hk.2,zHD f rs hf hr,Option.bind_some,zz_eq]
 cases roughB rs <;> cases fewB ms <;> cases topB ps lost tall <;> cases okB ks rall <;> cases allR rs == tall <;> cases tall == rall <;> rfl
def thingB (t:Int):Bool:=decide (0 ≤ t ∧ t ≤ 63)
theorem zeO (f:Nat) (n:Int):zf f ((n,()),((0:Int),()),((63:Int),()),()) = some ((thingB n,()),()):=in_eq f n 0 63
def mark (t:Int):Int:=cond (thingB t) (Int.tmod (w64 (w64 (t * 37) + 11)) 64) (-1)
theorem zHF (f:Nat) (t:Int):zm1 f ((t,()),()) = some ((mark t,()),()):=by
 show zm0 f t = _
 unfold zm0 mark
 rw [zeO,Option.bind_some]
 cases thingB t <;> rfl
theorem six {ms:List Int} (h:fewB ms = true):ms.length ≤ 6:=by
 unfold fewB at h
 simp only [Bool.and_eq_true,decide_eq_true_eq] at h
 exact h.1
def pl (i:Nat) (t:Int):Nat:=match i with
 | 0 => ((3 * t + t / 8) % 8).toNat
 | 1 => ((5 * t + t / 16 + 1) % 8).toNat
 | _ => ((t + t / 4 + 2) % 8).toNat
theorem pl_lt (i:Nat) (t:Int):pl i t < 8:=by
 unfold pl; split <;> omega
theorem tmod8 {x:Int} (h:0 ≤ x):Int.tmod x 8 = x % 8:=Int.tmod_eq_emod_of_nonneg h
theorem tdivP {x y:Int} (h:0 ≤ x):Int.tdiv x y = x / y:=Int.tdiv_eq_ediv_of_nonneg h
theorem zeP {t:Int} (h:thingB t = true):0 ≤ t ∧ t ≤ 63:=by unfold thingB at h; simpa using h
theorem zp8 (f:Nat) (i:Nat) (t:Int) (hi:i < 3) (ht:thingB t = true):za0 f ((((i:Nat):Int),()),(t,()),()) = some (((pl i t:Int),()),()):=by
 have h:=zeP ht
 show zmX f (i:Int) t = _
 unfold zmX pl
 match i,hi with
 | 0,_ =>
  simp only [List.length_cons,List.length_nil,Int.natCast_zero,Int.toNat_zero,List.getD_cons_zero]
  have e1:w64 (t * 3) = t * 3:=by rw [w64_id] <;> omega
  have e2:w64 (Int.tdiv t 8) = t / 8:=by rw [tdivP h.1,w64_id] <;> omega
  have e3:w64 (t * 3 + t / 8) = t * 3 + t / 8:=by rw [w64_id] <;> omega
  have e4:w64 (t * 3 + t / 8 + 0) = t * 3 + t / 8:=by rw [w64_id] <;> omega
  rw [e1,e2,e3,e4,tmod8 (by omega)]
  have e5:(t * 3 + t / 8) % 8 = (((3 * t + t / 8) % 8).toNat:Int):=by omega
  rw [e5]; rfl
 | 1,_ =>
  simp only [List.length_cons,List.length_nil]
  have e1:w64 (t * 5) = t * 5:=by rw [w64_id] <;> omega
  have e2:w64 (Int.tdiv t 16) = t / 16:=by rw [tdivP h.1,w64_id] <;> omega
  have e3:w64 (t * 5 + t / 16) = t * 5 + t / 16:=by rw [w64_id] <;> omega
  have e4:w64 (t * 5 + t / 16 + 1) = t * 5 + t / 16 + 1:=by rw [w64_id] <;> omega
  have g1:List.getD [(3:Int),(5:Int),(1:Int)] (Int.toNat ((1:Nat):Int)) 0 = 5:=rfl
  have g2:List.getD [(8:Int),(16:Int),(4:Int)] (Int.toNat ((1:Nat):Int)) 0 = 16:=rfl
  rw [g1,g2,e1,e2,e3,show ((1:Nat):Int) = 1 from rfl,e4,tmod8 (by omega)]
  have e5:(t * 5 + t / 16 + 1) % 8 = (((5 * t + t / 16 + 1) % 8).toNat:Int):=by omega
  rw [e5]; rfl
 | 2,_ =>
  simp only [List.length_cons,List.length_nil]
  have e1:w64 (t * 1) = t:=by rw [w64_id] <;> omega
  have e2:w64 (Int.tdiv t 4) = t / 4:=by rw [tdivP h.1,w64_id] <;> omega
  have e3:w64 (t + t / 4) = t + t / 4:=by rw [w64_id] <;> omega
  have e4:w64 (t + t / 4 + 2) = t + t / 4 + 2:=by rw [w64_id] <;> omega
  have g1:List.getD [(3:Int),(5:Int),(1:Int)] (Int.toNat ((2:Nat):Int)) 0 = 1:=rfl
  have g2:List.getD [(8:Int),(16:Int),(4:Int)] (Int.toNat ((2:Nat):Int)) 0 = 4:=rfl
  rw [g1,g2,e1,e2,e3,show ((2:Nat):Int) = 2 from rfl,e4,tmod8 (by omega)]
  have e5:(t + t / 4 + 2) % 8 = (((t + t / 4 + 2) % 8).toNat:Int):=by omega
  rw [e5]; rfl
theorem zmB {rs:List (List Int)} (h:roughB rs = true):∃ a b c,rs = [a,b,c] ∧ rowB a = true ∧ rowB b = true ∧ rowB c = true ∧ isum b = isum a ∧ isum c = isum a:=by
 unfold roughB at h
 simp only [Bool.and_eq_true,decide_eq_true_eq] at h
 obtain ⟨h3,h4⟩:=h
 obtain ⟨a,b,c,rfl⟩:=three h3
 simp only [List.all_cons,List.all_nil,Bool.and_eq_true,List.getD_cons_zero,beq_iff_eq] at h4
 exact ⟨a,b,c,rfl,h4.1.1,h4.2.1.1,h4.2.2.1.1,h4.2.1.2,h4.2.2.1.2⟩
theorem row_len {a:List Int} (h:rowB a = true):a.length = 8:=by
 unfold rowB at h
 simp only [Bool.and_eq_true,decide_eq_true_eq] at h
 exact h.1
def GoodK (ks:List Knot):Prop:=∀ k ∈ ks,1 ≤ k.1 ∧ k.1 ≤ 127 ∧ 1 ≤ k.2.1 ∧ k.2.1 ≤ 2000
theorem zwD {all:Int}:∀ {ks:List Knot} {before sum:Int},0 ≤ before → okGo all ks before sum = true → GoodK ks
 | [],_,_,_,_ => fun k hk => by cases hk
 | k :: r,before,sum,hb,h => by
  unfold okGo at h
  split at h
  ·cases h
  ·rename_i c
   have ih:=zwD (by omega) h
   intro k' hk'
   rcases List.mem_cons.1 hk' with rfl | hk'
   ·omega
   ·exact ih k' hk'
theorem zmC {ks:List Knot} {all:Int} (h:okB ks all = true):GoodK ks:=by
 unfold okB at h
 split at h
 ·cases h
 ·exact zwD (Int.le_refl _) h
def numsGo:List Knot → List Int → List Int
 | [],a => a
 | k :: r,a => numsGo r (a.set k.1.toNat (w64 (a.getD k.1.toNat 0 + k.2.1)))
def zeros:List Int:=List.replicate 128 0
theorem ziF:∀ {ks:List Knot} {a:List Int},(numsGo ks a).length = a.length
 | [],a => rfl
 | k :: r,a => by rw [numsGo,ziF]; simp
def sq1 (all:Int) (n:Nat) (a:List Int):List Int :=
 if 0 < w64 (a.getD (2 * n) 0 + a.getD (2 * n + 1) 0) ∧ w64 (w64 (a.getD (2 * n) 0 + a.getD (2 * n + 1) 0) + a.getD n 0) ≤ w64 (all.tdiv 8) then
  ((a.set n (w64 (a.getD n 0 + w64 (a.getD (2 * n) 0 + a.getD (2 * n + 1) 0)))).set (2 * n) 0).set (2 * n + 1) 0
 else a
def sqGo (all:Int):Nat → List Int → List Int
 | 0,a => a
 | n + 1,a => sqGo all n (sq1 all (n + 1) a)
theorem sq1_len {all:Int} {n:Nat} {a:List Int}:(sq1 all n a).length = a.length:=by
 unfold sq1; split <;> simp
theorem zmD {all:Int}:∀ {n:Nat} {a:List Int},(sqGo all n a).length = a.length
 | 0,a => rfl
 | n + 1,a => by rw [sqGo,zmD,sq1_len]
def listGo:Nat → List Int → List Knot
 | _,[] => []
 | i,x :: r => if 0 < x then ((i:Int),x,()) :: listGo (i + 1) r else listGo (i + 1) r
theorem zwE:∀ {i:Nat} {l:List Int},(listGo i l).length ≤ l.length
 | _,[] => by simp [listGo]
 | i,x :: r => by
  unfold listGo
  have:=zwE (i:=i + 1) (l:=r)
  split <;> simp <;> omega
theorem zvh (f:Nat) (ks:List Knot) (hl:ks.length < 4294967296) (hg:GoodK ks):∀ (d i:Nat) (a:List Int) (Z:Nat),i + d = ks.length → a.length = 128 → d < Z →
  iter (zi9 f) Z ((i:Int),ks,a) = some ((numsGo (ks.drop i) a,()),())
 | 0,i,a,Z + 1,hi,ha,hf => by
  rw [iter]
  show zfr f _ _ = _
  unfold zfr
  have h1:¬ ((i:Int) < (ks.length:Int)):=by omega
  have h2:ks.drop i = []:=List.drop_eq_nil_of_le (by omega)
  simp [h1,h2,numsGo,zz_eq]
 | d + 1,i,a,Z + 1,hi,ha,hf => by
  rw [iter]
  show zfr f _ _ = _
  unfold zfr
  have h1:(i:Int) < (ks.length:Int):=by omega
  have h2:(0:Int) ≤ (i:Int):=by omega
  have h3:w64 ((i:Int) + 1) = (i:Int) + 1:=by rw [w64_id] <;> omega
  have ih:∀ a:List Int,a.length = 128 → iter (zi9 f) Z ((i:Int) + 1,ks,a) = some ((numsGo (ks.drop (i + 1)) a,()),()):=fun a ha => by
   exact_mod_cast zvh f ks hl hg d (i + 1) a Z (by omega) ha (by omega)
  have hk:=hg (ks.getD i (0,0,())) (by
   rw [List.getD_eq_getElem?_getD,List.getElem?_eq_getElem (by omega)]; exact List.getElem_mem _)
  rw [zeN (0,0,()) (show i < ks.length by omega)]
  simp only [h1,h2,h3,zz_eq,Int.toNat_natCast,decide_true,cond_true]
  obtain ⟨k,hk'⟩:∃ k:Knot,ks.getD i (0,0,()) = k:=⟨_,rfl⟩
  simp only [hk'] at hk ⊢
  have c1:0 ≤ k.1:=by omega
  have c2:k.1 < ((a.length:Nat):Int):=by omega
  have c3:k.1.toNat < a.length:=by omega
  simp only [c1,c2,c3,decide_true,cond_true]
  rw [ih _ (by simpa using ha)]
  rfl
theorem zHG (f:Nat) (ks:List Knot) (hl:ks.length < 4294967296) (hg:GoodK ks) (hf:ks.length < f):zfs f ((ks,()),()) = some ((numsGo ks zeros,()),()):=by
 unfold zfs zm9
 have:=zvh f ks hl hg ks.length 0 zeros f (by omega) (by simp [zeros]) hf
 simpa [zeros] using this
theorem tdiv2 (n:Nat):Int.tdiv (2 * (n:Int)) 2 = n:=by
 rw [Int.tdiv_eq_ediv_of_nonneg (by omega)]; omega
theorem zvi (f:Nat) (all:Int):∀ (n:Nat) (a:List Int) (Z:Nat),n ≤ 63 → a.length = 128 → n < Z →
  iter (zjd f) Z (2 * (n:Int),all,a) = some (sqGo all n a,())
 | 0,a,Z + 1,hn,ha,hf => by
  rw [iter]
  show zfz f _ _ = _
  unfold zfz
  simp [sqGo]
 | n + 1,a,Z + 1,hn,ha,hf => by
  rw [iter]
  show zfz f _ _ = _
  unfold zfz
  have ih:∀ a:List Int,a.length = 128 → iter (zjd f) Z (2 * (n:Int),all,a) = some (sqGo all n a,()):=fun a ha =>
   zvi f all n a Z (by omega) ha (by omega)
  have h1:(2 * ((n + 1:Nat):Int)) ≥ 2:=by omega
  have h2:(0:Int) ≤ 2 * ((n + 1:Nat):Int):=by omega
  have h3:2 * ((n + 1:Nat):Int) < 128:=by omega
  have h4:w64 (2 * ((n + 1:Nat):Int) + 1) = ((2 * (n + 1) + 1:Nat):Int):=by rw [w64_id] <;> omega
  have h5:w64 (Int.tdiv (2 * ((n + 1:Nat):Int)) 2) = ((n + 1:Nat):Int):=by rw [tdiv2,w64_id] <;> omega
  have h6:w64 (2 * ((n + 1:Nat):Int) - 2) = 2 * (n:Int):=by rw [w64_id] <;> omega
  have h7:(2 * ((n + 1:Nat):Int)).toNat = 2 * (n + 1):=by omega
  have l1:2 * (n + 1) < 128:=by omega
  have l2:2 * (n + 1) + 1 < 128:=by omega
  have l3:n + 1 < 128:=by omega
  have l4:((2 * (n + 1) + 1:Nat):Int) < 128:=by omega
  have l5:((n + 1:Nat):Int) < 128:=by omega
  simp only [h1,h2,h4,h5,h6,h7,zz_eq,List.length_set,ha,Int.toNat_natCast,Int.natCast_nonneg,decide_true,cond_true,l1,l2,l3,show (((128:Nat):Int)) = 128 from rfl,h3,l4,l5]
  unfold sqGo sq1
  by_cases c1:0 < w64 (a.getD (2 * (n + 1)) 0 + a.getD (2 * (n + 1) + 1) 0)
  ·by_cases c2:w64 (w64 (a.getD (2 * (n + 1)) 0 + a.getD (2 * (n + 1) + 1) 0) + a.getD (n + 1) 0) ≤ w64 (all.tdiv 8)
   ·rw [if_pos ⟨c1,c2⟩]
    simp only [c1,c2,gt_iff_lt,decide_true,cond_true]
    exact ih _ (by simpa using ha)
   ·rw [if_neg (fun h => c2 h.2)]
    simp only [c1,c2,gt_iff_lt,decide_true,decide_false,cond_true,cond_false]
    exact ih _ ha
  ·rw [if_neg (fun h => c1 h.1)]
   simp only [c1,gt_iff_lt,decide_false,cond_false]
   exact ih _ ha
theorem zHH (f:Nat) (a:List Int) (all:Int) (ha:a.length = 128) (hf:63 < f):zfA f (a,(),(all,()),()) = some (sqGo all 63 a,()):=by
 unfold zfA znb
 have:=zvi f all 63 a f (by omega) ha hf
 have e:w64 ((zz a.length) - 2) = 2 * ((63:Nat):Int):=by rw [zz_eq,ha,w64_id] <;> omega
 simp only [e]
 exact this
theorem zvj (f:Nat) (a:List Int) (ha:a.length = 128):∀ (d i:Nat) (out:List Knot) (Z:Nat),i + d = 128 → out.length ≤ i → d < Z →
  iter (zjb f) Z ((i:Int),a,out) = some ((out ++ listGo i (a.drop i),()),())
 | 0,i,out,Z + 1,hi,ho,hf => by
  rw [iter]
  show zfv f _ _ = _
  unfold zfv
  have h1:¬ ((i:Int) < (a.length:Int)):=by omega
  have h2:a.drop i = []:=List.drop_eq_nil_of_le (by omega)
  simp [h1,h2,listGo,zz_eq]
 | d + 1,i,out,Z + 1,hi,ho,hf => by
  rw [iter]
  show zfv f _ _ = _
  unfold zfv
  have h1:(i:Int) < (a.length:Int):=by omega
  have h2:(0:Int) ≤ (i:Int):=by omega
  have h3:w64 ((i:Int) + 1) = (i:Int) + 1:=by rw [w64_id] <;> omega
  have ih:∀ out:List Knot,out.length ≤ i + 1 → iter (zjb f) Z ((i:Int) + 1,a,out) = some ((out ++ listGo (i + 1) (a.drop (i + 1)),()),()):=fun out ho => by
   exact_mod_cast zvj f a ha d (i + 1) out Z (by omega) ho (by omega)
  have h4:out.length + 1 < LIM:=by simp only [LIM]; omega
  rw [zeN 0 (show i < a.length by omega)]
  simp only [h1,h2,h3,zz_eq,Int.toNat_natCast,decide_true,cond_true,listGo,List.length_singleton,h4]
  by_cases c:0 < a.getD i 0
  ·simp only [c,gt_iff_lt,decide_true,cond_true,if_true]
   rw [ih _ (by simp; omega)]
   simp
  ·simp only [c,gt_iff_lt,decide_false,cond_false,if_false]
   exact ih _ (by omega)
theorem zHI (f:Nat) (a:List Int) (ha:a.length = 128) (hf:128 < f):zfw f ((a,()),()) = some ((listGo 1 (a.drop 1),()),()):=by
 unfold zfw zna
 have:=zvj f a ha 127 1 [] f (by omega) (by simp) (by omega)
 simpa using this
def addB (ks:List Knot) (all t:Int):Bool:=okB ks all && decide (0 ≤ t ∧ t ≤ 63 ∧ all < 2000)
def addS (ks:List Knot) (all t:Int):List Knot:=listGo 1 ((sqGo (w64 (all + 1)) 63 ((numsGo ks zeros).set (64 + t).toNat (w64 ((numsGo ks zeros).getD (64 + t).toNat 0 + 1)))).drop 1)
theorem zHJ (f:Nat) (ks:List Knot) (all t:Int) (hl:ks.length < 4294967296) (hf:ks.length < f) (hf2:128 < f) :
  zfB f ((ks,all,()),(t,()),()) = some (if addB ks all t = true then ((addS ks all t,w64 (all + 1),()),(true,()),()) else (([],0,()),(false,()),())):=by
 unfold zfB zrp addB addS
 simp only [zwz f ks all hl hf,Option.bind_some,in_eq]
 by_cases c:okB ks all = true
 ·by_cases c2:0 ≤ t ∧ t ≤ 63
  ·by_cases c3:all ≥ 2000
   ·have c4:¬ all < 2000:=by omega
    simp [c,c2,c3,c4]
   ·have c4:all < 2000:=by omega
    have e1:w64 (64 + t) = 64 + t:=by rw [w64_id] <;> omega
    have hn:(numsGo ks zeros).length = 128:=by rw [ziF]; simp [zeros]
    have e2:0 ≤ 64 + t:=by omega
    have e3:64 + t < ((128:Nat):Int):=by omega
    have e4:(64 + t).toNat < 128:=by omega
    simp only [c,c2,c3,c4,and_self,decide_true,decide_false,Bool.not_true,cond_false,zHG f ks hl (zmC c) hf,Option.bind_some,e1,zz_eq,hn,e2,e3,e4,cond_true,Bool.and_true]
    rw [zHH f _ _ (by simpa using hn) (by omega)]
    simp only [Option.bind_some]
    rw [zHI f _ (by rw [zmD]; simpa using hn) hf2]
    simp
  ·have:¬ (0 ≤ t ∧ t ≤ 63 ∧ all < 2000):=by omega
   simp [c,c2,this]
 ·simp [c]
def sumK (ka:List Knot) (kb:List Knot) (all:Int):List Knot:=listGo 0 (sqGo all 63 (numsGo kb (numsGo ka zeros)))
theorem ziG:∀ {ks:List Knot} {a:List Int},GoodK ks → (numsGo ks a).getD 0 0 = a.getD 0 0
 | [],a,_ => rfl
 | k :: r,a,hg => by
  have hk:=hg k (by simp)
  rw [numsGo,ziG fun x hx => hg x (by simp [hx])]
  simp only [List.getD_eq_getElem?_getD]
  rw [List.getElem?_set_ne (by omega)]
theorem zHK {all:Int} {n:Nat} {a:List Int} (hn:0 < n):(sq1 all n a).getD 0 0 = a.getD 0 0:=by
 unfold sq1
 split
 ·simp only [List.getD_eq_getElem?_getD]
  rw [List.getElem?_set_ne (by omega),List.getElem?_set_ne (by omega),List.getElem?_set_ne (by omega)]
 ·rfl
theorem zp9 {all:Int}:∀ {n:Nat} {a:List Int},(sqGo all n a).getD 0 0 = a.getD 0 0
 | 0,a => rfl
 | n + 1,a => by rw [sqGo,zp9,zHK (by omega)]
theorem zwF {a:List Int} (h:a.getD 0 0 ≤ 0):listGo 0 a = listGo 1 (a.drop 1):=by
 cases a with
 | nil => rfl
 | cons x r =>
  have:¬ 0 < x:=by simpa using h
  simp [listGo,this]
theorem okB_all {ks:List Knot} {all:Int} (h:okB ks all = true):0 ≤ all ∧ all ≤ 2000:=by
 unfold okB at h
 split at h
 ·cases h
 ·omega
theorem zwG {ks:List Knot} {all t:Int} (h:addB ks all t = true):addS ks all t = sumK ks [(64 + t,1,())] (all + 1) ∧ w64 (all + 1) = all + 1:=by
 unfold addB at h
 simp only [Bool.and_eq_true,decide_eq_true_eq] at h
 have b:=okB_all h.1
 have e:w64 (all + 1) = all + 1:=by rw [w64_id] <;> omega
 refine ⟨?_,e⟩
 unfold addS sumK
 rw [e]
 have g1:GoodK [((64 + t,1,()):Knot)]:=fun k hk => by
  simp only [List.mem_singleton] at hk
  subst hk
  show 1 ≤ 64 + t ∧ 64 + t ≤ 127 ∧ (1:Int) ≤ 1 ∧ (1:Int) ≤ 2000
  omega
 rw [← zwF]
 ·rfl
 ·rw [zp9]
  have:=ziG (ks:=[((64 + t,1,()):Knot)]) (a:=numsGo ks zeros) g1
  rw [ziG (zmC h.1)] at this
  show (numsGo [((64 + t,1,()):Knot)] (numsGo ks zeros)).getD 0 0 ≤ 0
  rw [this]; decide
theorem zHL {ks:List Knot} {all t:Int}:(addS ks all t).length ≤ 127:=by
 unfold addS
 refine Nat.le_trans zwE ?_
 rw [List.length_drop,zmD,List.length_set,ziF]
 simp [zeros]
def Bytes (b:List Int):Prop:=b.length ≤ 2000 ∧ ∀ x ∈ b,0 ≤ x ∧ x ≤ 255
theorem Bytes.getD {b:List Int} (h:Bytes b) (i:Nat):0 ≤ b.getD i 0 ∧ b.getD i 0 ≤ 255:=by
 rw [List.getD_eq_getElem?_getD]
 cases hi:b[i]? with
 | none => simp
 | some x => simpa using h.2 x (List.mem_of_getElem? hi)
def Rd (b:List Int) (p q:Int) (s:List Int × Int × Unit):Prop:=s.1 = b ∧ p ≤ s.2.1 ∧ s.2.1 ≤ q
theorem Rd.trans {b:List Int} {p q r:Int} {s t:List Int × Int × Unit} (h1:Rd b p q s) (h2:Rd b s.2.1 (s.2.1 + r) t):Rd b p (q + r) t:=⟨h2.1,by have:=h1.2; have:=h2.2; omega,by have:=h1.2; have:=h2.2; omega⟩
def add1 (l:List Int) (i:Nat) (n:Int):List Int:=l.set i (w64 (l.getD i 0 + n))
def roughAdd (rs:List (List Int)) (t n:Int):List (List Int) × Bool :=
 cond (roughB rs && (thingB t && decide (0 ≤ n ∧ n ≤ w64 (2000 - isum (rs.getD 0 []))))) ([add1 (rs.getD 0 []) (pl 0 t) n,add1 (rs.getD 1 []) (pl 1 t) n,add1 (rs.getD 2 []) (pl 2 t) n],true) ([],false)
theorem copy_eq (f:Nat) (a b c:List Int) (ha:a.length = 8) (hb:b.length = 8) (hc:c.length = 8):zmW f (([a,b,c],()),()) = some (([a,b,c],()),()):=by
 show zfc f a b c = _
 unfold zfc
 simp only [ha,hb,hc,LIM,List.nil_append]
 rfl
theorem zHM (f:Nat) (rs:List (List Int)) (t n:Int) (hf:8 < f) (hr:∀ r ∈ rs,r.length < f ∧ r.length < 4294967296):zmZ f ((rs,()),(t,()),(n,()),()) = some (((roughAdd rs t n).1,()),((roughAdd rs t n).2,()),()):=by
 show zmY f rs t n = _
 unfold zmY roughAdd
 simp only [zp7 f rs hf hr,zeO,Option.bind_some]
 cases h:roughB rs
 ·rfl
 cases ht:thingB t
 ·rfl
 obtain ⟨a,b,c,rfl,ha,hb,hc,-,-⟩:=zmB h
 have l0:=row_len ha
 have l1:=row_len hb
 have l2:=row_len hc
 have i0:=isum_eq f a (by omega) (by omega)
 have g0:decide ((0:Int) < zz ([a,b,c]:List (List Int)).length) = true:=rfl
 have g1:([a,b,c]:List (List Int)).getD (Int.toNat 0) [] = a:=rfl
 simp only [Bool.not_true,cond_false,g0,cond_true,g1,i0,in_eq,Option.bind_some,List.getD_cons_zero,Bool.true_and]
 by_cases cn:0 ≤ n ∧ n ≤ w64 (2000 - isum a)
 ·have p0:=zp8 f 0 t (by omega) ht
  have p1:=zp8 f 1 t (by omega) ht
  have p2:=zp8 f 2 t (by omega) ht
  rw [show ((0:Nat):Int) = 0 from rfl] at p0
  rw [show ((1:Nat):Int) = 1 from rfl] at p1
  rw [show ((2:Nat):Int) = 2 from rfl] at p2
  have q0:=pl_lt 0 t
  have q1:=pl_lt 1 t
  have q2:=pl_lt 2 t
  have d1:([a,b,c]:List (List Int)).getD 1 [] = b:=rfl
  have d2:([a,b,c]:List (List Int)).getD 2 [] = c:=rfl
  have z0:(pl 0 t:Int) < 8:=by omega
  have z1:(pl 1 t:Int) < 8:=by omega
  have z2:(pl 2 t:Int) < 8:=by omega
  simp only [cn,and_self,decide_true,Bool.not_true,cond_false,copy_eq f a b c l0 l1 l2,p0,p1,p2,Option.bind_some,List.getD_cons_zero,d1,d2,zz_eq,l0,l1,l2,le_cast,show ((8:Nat):Int) = 8 from rfl,z0,z1,z2,q0,q1,q2,Int.toNat_natCast,cond_true]
  rfl
 ·simp only [cn,decide_false,Bool.not_false,cond_true,cond_false]
def putM (m:Int):List Int → Bool → List Int
 | [],done => cond done [] [m]
 | x :: r,done => cond (!done && decide (x ≥ m)) (m :: cond (x != m) (x :: putM m r true) (putM m r true)) (cond (x != m) (x :: putM m r done) (putM m r done))
def few6 (l:List Int) (m:Int):List Int:=(putM m l false).take 6
theorem zHN {l:List Int}:List.take (Int.toNat (if (6:Int) < zz l.length then (6:Int) else zz l.length) - 0) (List.drop 0 l) = l.take 6:=by
 rw [List.drop_zero,Nat.sub_zero]
 split
 ·rfl
 ·rename_i h
  rw [zz_eq] at h
  rw [zz_eq,Int.toNat_natCast,List.take_of_length_le (Nat.le_refl _),List.take_of_length_le (by omega)]
theorem min_nn {n:Nat}:(0:Int) ≤ if (6:Int) < zz n then (6:Int) else zz n:=by
 have:=zz_eq n
 split <;> omega
theorem min_le {n:Nat}:(if (6:Int) < zz n then (6:Int) else zz n) ≤ zz n:=by split <;> omega
theorem zwH (f:Nat) (l:List Int) (m:Int) (hl:l.length < 100000000):∀ (d i:Nat) (done:Bool) (out:List Int) (Z:Nat),i + d = l.length → out.length ≤ 2 * i → d < Z →
  iter (zfg f) Z ((i:Int),l,done,m,out) = some (((out ++ putM m (l.drop i) done).take 6,()),())
 | 0,i,done,out,Z + 1,hi,ho,hf => by
  rw [iter]
  show zff f _ _ = _
  unfold zff
  obtain rfl:i = l.length:=by omega
  have h1:out.length + 1 < LIM:=by simp only [LIM]; omega
  simp only [zHN,min_nn,min_le,h1,decide_true,cond_true]
  simp only [zz_eq,zb,decide_false,cond_false,List.drop_eq_nil_of_le (Nat.le_refl _)]
  cases done
  ·rfl
  ·simp only [putM,cond_true,Bool.not_true,cond_false,List.append_nil]
 | d + 1,i,done,out,Z + 1,hi,ho,hf => by
  rw [iter]
  show zff f _ _ = _
  unfold zff
  have hlt:i < l.length:=by omega
  have ih:∀ done (out:List Int),out.length ≤ 2 * (i + 1) → iter (zfg f) Z (((i + 1:Nat):Int),l,done,m,out) = some (((out ++ putM m (l.drop (i + 1)) done).take 6,()),()):=fun done out h =>
   zwH f l m hl d (i + 1) done out Z (by omega) h (by omega)
  have h1:out.length + 1 < LIM:=by simp only [LIM]; omega
  have h2:out.length + 1 + 1 < LIM:=by simp only [LIM]; omega
  simp only [zz_eq,lt_cast hlt,le_cast,decide_true,cond_true,Int.toNat_natCast,w64_up (show i < 4294967296 by omega),h1,List.length_append,List.length_singleton,h2]
  rw [z8 0 hlt]
  obtain ⟨x,hx⟩:∃ x:Int,l.getD i 0 = x:=⟨_,rfl⟩
  simp only [hx]
  have e1:=ih true (out ++ [m] ++ [x]) (by simp; omega)
  have e2:=ih true (out ++ [m]) (by simp; omega)
  have e3:=ih done (out ++ [x]) (by simp; omega)
  have e4:=ih done out (by omega)
  simp only [e1,e2,e3,e4]
  simp only [putM,List.append_assoc,List.singleton_append,List.cons_append,List.nil_append]
  cases done
  ·by_cases c:x ≥ m
   ·simp only [c,decide_true,Bool.not_false,Bool.true_and,cond_true]
    cases (x != m) <;> rfl
   ·simp only [c,decide_false,Bool.not_false,Bool.true_and,cond_true,cond_false]
    cases (x != m) <;> rfl
  ·simp only [Bool.not_true,Bool.false_and,cond_false]
   cases (x != m) <;> rfl
theorem zHO (f:Nat) (l:List Int) (m:Int) (hl:l.length < 100000000) (hf:l.length < f):zi1 f ((l,()),(m,()),()) = some ((few6 l m,()),()):=by
 show iter (zfg f) f ((0:Int),l,false,m,[]) = _
 exact (zwH f l m hl l.length 0 false [] f (by omega) (by simp) hf).trans rfl
def fewAdd (ms:List Int) (t:Int):List Int × Bool:=cond (fewB ms && thingB t) (few6 ms (mark t),true) ([],false)
theorem zHP (f:Nat) (l:List Int) (t:Int) (hl:l.length < 100000000) (hf:l.length < f):zm3 f ((l,()),(t,()),()) = some (((fewAdd l t).1,()),((fewAdd l t).2,()),()):=by
 show zm2 f l t = _
 unfold zm2 fewAdd
 simp only [zwA f l (by omega) hf,zeO,zHF,zHO f l _ hl hf,Option.bind_some]
 cases fewB l <;> cases thingB t <;> rfl
theorem zHQ (l:List Int) (m:Int):(few6 l m).length ≤ 6:=by unfold few6; rw [List.length_take]; omega
def putP (t n:Int):List Knot → Bool → List Knot
 | [],done => cond done [] [(t,n,())]
 | x :: r,done => cond (!done && decide (x.1 ≥ t)) (cond (x.1 == t) ((t,w64 (n + x.2.1),()) :: putP t n r true) ((t,n,()) :: (x.1,x.2.1,()) :: putP t n r true)) ((x.1,x.2.1,()) :: putP t n r done)
theorem zeQ (t n:Int):∀ (l:List Knot) (done:Bool),(putP t n l done).length ≤ l.length + 1
 | [],done => by cases done <;> simp [putP]
 | x :: r,done => by
  have h1:=zeQ t n r true
  have h2:=zeQ t n r done
  have h3:∀ (l:List Knot),(putP t n l true).length = l.length:=by
   intro l
   induction l with
   | nil => rfl
   | cons x l ih => simp [putP,ih]
  unfold putP
  cases (!done && decide (x.1 ≥ t)) <;> cases (x.1 == t) <;> simp only [cond_true,cond_false,List.length_cons,h3] <;> omega
theorem zwI (f:Nat) (l:List Knot) (t n:Int) (hl:l.length < 100000000):∀ (d i:Nat) (done:Bool) (out:List Knot) (Z:Nat),i + d = l.length → out.length ≤ 2 * i → d < Z →
  iter (zfk f) Z ((i:Int),l,done,t,n,out) = some ((out ++ putP t n (l.drop i) done,()),())
 | 0,i,done,out,Z + 1,hi,ho,hf => by
  rw [iter]
  show zfj f _ _ = _
  unfold zfj
  obtain rfl:i = l.length:=by omega
  have h1:out.length + 1 < LIM:=by simp only [LIM]; omega
  simp only [h1,decide_true,cond_true]
  simp only [zz_eq,zb,decide_false,cond_false,List.drop_eq_nil_of_le (Nat.le_refl _)]
  cases done
  ·rfl
  ·simp only [putP,cond_true,Bool.not_true,cond_false,List.append_nil]
 | d + 1,i,done,out,Z + 1,hi,ho,hf => by
  rw [iter]
  show zfj f _ _ = _
  unfold zfj
  have hlt:i < l.length:=by omega
  have ih:∀ done (out:List Knot),out.length ≤ 2 * (i + 1) → iter (zfk f) Z (((i + 1:Nat):Int),l,done,t,n,out) = some ((out ++ putP t n (l.drop (i + 1)) done,()),()):=fun done out h =>
   zwI f l t n hl d (i + 1) done out Z (by omega) h (by omega)
  have h1:out.length + 1 < LIM:=by simp only [LIM]; omega
  have h2:out.length + 1 + 1 < LIM:=by simp only [LIM]; omega
  simp only [zz_eq,lt_cast hlt,le_cast,decide_true,cond_true,Int.toNat_natCast,w64_up (show i < 4294967296 by omega),h1,List.length_append,List.length_singleton,h2]
  rw [z8 (0,0,()) hlt]
  obtain ⟨x,hx⟩:∃ x:Knot,l.getD i (0,0,()) = x:=⟨_,rfl⟩
  simp only [hx]
  have e1:=ih true (out ++ [(t,n,())] ++ [(x.1,x.2.1,())]) (by simp; omega)
  have e2:=ih true (out ++ [(t,w64 (n + x.2.1),())]) (by simp; omega)
  have e3:=ih done (out ++ [(x.1,x.2.1,())]) (by simp; omega)
  simp only [e1,e2,e3]
  simp only [putP,List.append_assoc,List.singleton_append,List.cons_append,List.nil_append]
  cases done
  ·by_cases c:x.1 ≥ t
   ·simp only [c,decide_true,Bool.not_false,Bool.true_and,cond_true]
    cases (x.1 == t) <;> rfl
   ·simp only [c,decide_false,Bool.not_false,Bool.true_and,cond_true,cond_false]
  ·simp only [Bool.not_true,Bool.false_and,cond_false]
theorem zHR (f:Nat) (l:List Knot) (t n:Int) (hl:l.length < 100000000) (hf:l.length < f):zi3 f ((l,()),(t,n,()),()) = some ((putP t n l false,()),()):=by
 show iter (zfk f) f ((0:Int),l,false,t,n,[]) = _
 exact (zwI f l t n hl l.length 0 false [] f (by omega) (by simp) hf).trans rfl
def cntGe (m:Int) (l:List Knot):Int:=l.foldl (fun n x => cond (decide (x.2.1 ≥ m)) (w64 (n + 1)) n) 0
def over3 (l:List Knot):Int:=l.foldl (fun b x => cond (decide (cntGe x.2.1 l > 4)) (if x.2.1 > b then x.2.1 else b) b) 0
theorem zHS (f:Nat) (l:List Knot) (hl:l.length < 100000000) (hf:l.length < f):zi5 f ((l,()),()) = some ((over3 l,()),()):=by
 show iter (zi4 f) f ((0:Int),l,(0:Int)) = _
 refine (zt (st:=zi4 f) (enc:=fun i (b:Int) => ((i:Int),l,b)) (fun (x:Knot) k b => k (cond (decide (cntGe x.2.1 l > 4)) (if x.2.1 > b then x.2.1 else b) b)) (fun b => some ((b,()),())) l (0,0,()) ?_ ?_ f 0 hf).trans (fold_go (fun b x => cond (decide (cntGe x.2.1 l > 4)) (if x.2.1 > b then x.2.1 else b) b) (fun _ _ _ => rfl) l 0)
 ·intro i b g hi
  show zcS f _ g _ = _
  unfold zcS
  simp only [zz_eq,lt_cast hi,decide_true,cond_true]
  refine (zt (st:=zm4 f g) (enc:=fun k (n:Int) => ((k:Int),l,(i:Int),n,b)) (fun (y:Knot) k n => k (cond (decide (y.2.1 ≥ (l.getD i (0,0,())).2.1)) (w64 (n + 1)) n))
   (fun n => g (((i + 1:Nat):Int),l,cond (decide (n > 4)) (if (l.getD i (0,0,())).2.1 > b then (l.getD i (0,0,())).2.1 else b) b)) l (0,0,()) ?_ ?_ f 0 hf).trans (fold_go (fun n y => cond (decide (y.2.1 ≥ (l.getD i (0,0,())).2.1)) (w64 (n + 1)) n) (fun _ _ _ => rfl) l 0)
  ·intro k n g2 hk
   show zcR f g g2 _ = _
   unfold zcR
   simp only [zz_eq,lt_cast hi,lt_cast hk,le_cast,decide_true,cond_true,Int.toNat_natCast,w64_up (show k < 4294967296 by omega)]
   cases decide ((l.getD k (0,0,())).2.1 ≥ (l.getD i (0,0,())).2.1) <;> rfl
  ·intro n g2
   show zcR f g g2 _ = _
   unfold zcR
   simp only [zz_eq,zb,lt_cast hi,le_cast,decide_true,decide_false,cond_true,cond_false,Int.toNat_natCast,w64_up (show i < 4294967296 by omega)]
   cases decide (n > 4) <;> rfl
 ·intro b g
  show zcS f _ g _ = _
  unfold zcS
  simp only [zz_eq,zb,decide_false,cond_false]
def less3 (m:Int):List Knot → List Knot
 | [] => []
 | x :: r => cond (decide (x.2.1 > m)) ((x.1,w64 (x.2.1 - m),()) :: less3 m r) (less3 m r)
theorem zwJ (m:Int):∀ (l:List Knot),(less3 m l).length ≤ l.length
 | [] => Nat.le_refl _
 | x :: r => by
  have:=zwJ m r
  unfold less3
  cases decide (x.2.1 > m) <;> simp only [cond_true,cond_false,List.length_cons] <;> omega
theorem zwK (f:Nat) (l:List Knot) (m:Int) (hl:l.length < 100000000):∀ (d i:Nat) (out:List Knot) (Z:Nat),i + d = l.length → out.length ≤ i → d < Z →
  iter (zfo f) Z ((i:Int),l,m,out) = some ((out ++ less3 m (l.drop i),()),())
 | 0,i,out,Z + 1,hi,ho,hf => by
  rw [iter]
  show zfn f _ _ = _
  unfold zfn
  obtain rfl:i = l.length:=by omega
  simp only [zz_eq,zb,decide_false,cond_false,List.drop_eq_nil_of_le (Nat.le_refl _),less3,List.append_nil]
 | d + 1,i,out,Z + 1,hi,ho,hf => by
  rw [iter]
  show zfn f _ _ = _
  unfold zfn
  have hlt:i < l.length:=by omega
  have ih:∀ (out:List Knot),out.length ≤ i + 1 → iter (zfo f) Z (((i + 1:Nat):Int),l,m,out) = some ((out ++ less3 m (l.drop (i + 1)),()),()):=fun out h =>
   zwK f l m hl d (i + 1) out Z (by omega) h (by omega)
  have h1:out.length + 1 < LIM:=by simp only [LIM]; omega
  simp only [zz_eq,lt_cast hlt,le_cast,decide_true,cond_true,Int.toNat_natCast,w64_up (show i < 4294967296 by omega),h1]
  rw [z8 (0,0,()) hlt]
  obtain ⟨x,hx⟩:∃ x:Knot,l.getD i (0,0,()) = x:=⟨_,rfl⟩
  simp only [hx]
  have e1:=ih (out ++ [(x.1,w64 (x.2.1 - m),())]) (by simp; omega)
  have e2:=ih out (by omega)
  simp only [e1,e2]
  simp only [less3,List.append_assoc,List.singleton_append,List.cons_append,List.nil_append]
  cases decide (x.2.1 > m) <;> rfl
theorem zHT (f:Nat) (l:List Knot) (m:Int) (hl:l.length < 100000000) (hf:l.length < f):zi7 f ((l,()),(m,()),()) = some ((less3 m l,()),()):=by
 show iter (zfo f) f ((0:Int),l,m,[]) = _
 exact (zwK f l m hl l.length 0 [] f (by omega) (by simp) hf).trans rfl
abbrev TopD:=List Knot × Int × Int × Unit
def cut3 (l:List Knot) (lost all:Int):TopD:=(less3 (over3 l) l,w64 (lost + over3 l),all,())
theorem zHU (f:Nat) (l:List Knot) (lost all:Int) (hl:l.length < 100000000) (hf:l.length < f):zm6 f ((l,lost,all,()),()) = some (cut3 l lost all,()):=by
 show zm5 f l lost all = _
 unfold zm5
 simp only [zHS f l hl hf,zHT f l _ hl hf,Option.bind_some]
 rfl
def noTop:TopD:=([],0,0,())
def topAdd (ps:List Knot) (lost all t:Int):TopD × Bool:=cond (topB ps lost all && (thingB t && decide (all < 2000))) (cut3 (putP t 1 ps false) lost (w64 (all + 1)),true) (noTop,false)
theorem zHV (f:Nat) (ps:List Knot) (lost all t:Int) (hl:ps.length < 10000000) (hf:ps.length + 1 < f):zm8 f ((ps,lost,all,()),(t,()),()) = some ((topAdd ps lost all t).1,((topAdd ps lost all t).2,()),()):=by
 show zm7 f ps lost all t = _
 have h1:=zeQ t 1 ps false
 unfold zm7 topAdd
 simp only [zwC f ps lost all (by omega) (by omega),zeO,Option.bind_some,zHR f ps t 1 (by omega) (by omega),zHU f (putP t 1 ps false) lost _ (by omega) (by omega)]
 have:decide (all ≥ 2000) = !decide (all < 2000):=by
  by_cases h:all < 2000
  ·have:¬ all ≥ 2000:=by omega
   simp [h,this]
  ·have:all ≥ 2000:=by omega
   simp [h,this]
 rw [this]
 cases topB ps lost all <;> cases thingB t <;> cases decide (all < 2000) <;> rfl
theorem four {ps:List Knot} {l a:Int} (h:topB ps l a = true):ps.length ≤ 4 ∧ 0 ≤ l ∧ l ≤ 2000 ∧ 0 ≤ a ∧ a ≤ 2000:=by
 unfold topB at h
 simp only [Bool.and_eq_true,decide_eq_true_eq] at h
 exact h.1
abbrev SumD:=List (List Int) × List Int × List Knot × Int × Int × List Knot × Int × Unit
def noSum:SumD:=([],[],[],0,0,[],0,())
def sumNew:SumD:=([List.replicate 8 0,List.replicate 8 0,List.replicate 8 0],[],[],0,0,[],0,())
def sumBD (s:SumD):Bool:=sumB s.1 s.2.1 s.2.2.1 s.2.2.2.1 s.2.2.2.2.1 s.2.2.2.2.2.1 s.2.2.2.2.2.2.1
def rankAdd (ks:List Knot) (all t:Int):(List Knot × Int × Unit) × Bool:=cond (addB ks all t) ((addS ks all t,w64 (all + 1),()),true) (([],0,()),false)
theorem zHW (f:Nat) (ks:List Knot) (all t:Int) (hl:ks.length < 4294967296) (hf:ks.length < f) (hf2:128 < f) :
  zfB f ((ks,all,()),(t,()),()) = some ((rankAdd ks all t).1,((rankAdd ks all t).2,()),()):=by
 rw [zHJ f ks all t hl hf hf2]; unfold rankAdd
 cases addB ks all t <;> rfl
structure SmallS (s:SumD) (n:Nat):Prop where
 rows:s.1.length ≤ n
 row:∀ r ∈ s.1,r.length ≤ n
 marks:s.2.1.length ≤ n
 pairs:s.2.2.1.length ≤ n
 knots:s.2.2.2.2.2.1.length ≤ n
theorem zHX (f:Nat) (s:SumD) {n:Nat} (hs:SmallS s n) (hn:n < 4294967296) (hf:8 < f) (hnf:n < f):ziZ f (s,()) = some ((sumBD s,()),()) :=
 zHE f s.1 s.2.1 s.2.2.1 s.2.2.2.1 s.2.2.2.2.1 s.2.2.2.2.2.1 s.2.2.2.2.2.2.1 hf (fun r hr => by have:=hs.row r hr; omega) (by have:=hs.marks; omega) (by have:=hs.pairs; omega) (by have:=hs.knots; omega)
def sumAdd (s:SumD) (t:Int):SumD × Bool:=cond (sumBD s && (thingB t && decide (s.2.2.2.2.1 < 2000)))
 (((roughAdd s.1 t 1).1,(fewAdd s.2.1 t).1,(topAdd s.2.2.1 s.2.2.2.1 s.2.2.2.2.1 t).1.1,(topAdd s.2.2.1 s.2.2.2.1 s.2.2.2.2.1 t).1.2.1,(topAdd s.2.2.1 s.2.2.2.1 s.2.2.2.2.1 t).1.2.2.1,(rankAdd s.2.2.2.2.2.1 s.2.2.2.2.2.2.1 t).1.1,(rankAdd s.2.2.2.2.2.1 s.2.2.2.2.2.2.1 t).1.2.1,()),true) (noSum,false)
theorem zHY (f:Nat) (s:SumD) (t:Int) {n:Nat} (hs:SmallS s n) (hn:n < 1000000) (hnf:n + 1 < f) (hf:128 < f):zcX f (s,(t,()),()) = some ((sumAdd s t).1,((sumAdd s t).2,()),()):=by
 obtain ⟨rs,ms,ps,lost,tall,ks,rall,⟨⟩⟩:=s
 have e0:=zHX f (rs,ms,ps,lost,tall,ks,rall,()) hs (by omega) (by omega) (by omega)
 have h1:=hs.rows; have h2:=hs.row; have h3:=hs.marks; have h4:=hs.pairs; have h5:=hs.knots
 simp only at h1 h2 h3 h4 h5
 show znc f rs ms ps lost tall ks rall t = _
 unfold znc sumAdd
 simp only [e0,zeO,Option.bind_some,zHM f rs t 1 (by omega) (fun r hr => by have:=h2 r hr; omega),zHP f ms t (by omega) (by omega),zHV f ps lost tall t (by omega) (by omega),zHW f ks rall t (by omega) (by omega) (by omega)]
 have:decide (tall ≥ 2000) = !decide (tall < 2000):=by
  by_cases h:tall < 2000
  ·have:¬ tall ≥ 2000:=by omega
   simp [h,this]
  ·have:tall ≥ 2000:=by omega
   simp [h,this]
 rw [this]
 cases sumBD (rs,ms,ps,lost,tall,ks,rall,()) <;> cases thingB t <;> cases decide (tall < 2000) <;> rfl
theorem zHZ {rs:List (List Int)} {t n:Int}:(roughAdd rs t n).1.length ≤ 8 ∧ ∀ r ∈ (roughAdd rs t n).1,r.length ≤ 8:=by
 unfold roughAdd
 cases h:roughB rs
 ·simp
 obtain ⟨a,b,c,rfl,ha,hb,hc,-,-⟩:=zmB h
 have l0:=row_len ha
 have l1:=row_len hb
 have l2:=row_len hc
 generalize (thingB t && _) = q
 cases q
 ·simp
 ·simp only [Bool.and_self,cond_true]
  refine ⟨by simp,fun r hr => ?_⟩
  simp only [List.mem_cons,List.not_mem_nil,or_false] at hr
  rcases hr with rfl | rfl | rfl <;> simp [add1,l0,l1,l2]
theorem zH0 {ms:List Int} {t:Int}:(fewAdd ms t).1.length ≤ 6:=by
 unfold fewAdd
 cases (fewB ms && thingB t)
 ·exact Nat.zero_le _
 ·exact zHQ _ _
theorem zH1 {ps:List Knot} {l a t:Int}:(topAdd ps l a t).1.1.length ≤ 5:=by
 unfold topAdd
 cases h:topB ps l a
 ·exact Nat.zero_le _
 have:=four h
 have h1:=zeQ t 1 ps false
 cases (thingB t && decide (a < 2000))
 ·exact Nat.zero_le _
 ·have:=zwJ (over3 (putP t 1 ps false)) (putP t 1 ps false)
  show (less3 (over3 (putP t 1 ps false)) (putP t 1 ps false)).length ≤ 5
  omega
theorem zH2 {ks:List Knot} {a t:Int}:(rankAdd ks a t).1.1.length ≤ 128:=by
 unfold rankAdd
 cases addB ks a t
 ·exact Nat.zero_le _
 ·have:=zHL (ks:=ks) (all:=a) (t:=t)
  simp only [cond_true]
  omega
theorem zwL:SmallS sumNew 128:=⟨by decide,by decide,by decide,by decide,by decide⟩
theorem zwM:SmallS noSum 128:=⟨by decide,by decide,by decide,by decide,by decide⟩
theorem zH3 {rs:List (List Int)} {ms:List Int} {ps ks:List Knot} {l a r:Int} {n:Nat} (h1:rs.length ≤ n) (h2:∀ r ∈ rs,r.length ≤ n) (h3:ms.length ≤ n) (h4:ps.length ≤ n) (h5:ks.length ≤ n):SmallS (rs,ms,ps,l,a,ks,r,()) n:=⟨h1,h2,h3,h4,h5⟩
theorem zwN (s:SumD) (t:Int):SmallS (sumAdd s t).1 128:=by
 unfold sumAdd
 cases (sumBD s && (thingB t && decide (s.2.2.2.2.1 < 2000)))
 ·exact zwM
 ·have r:=zHZ (rs:=s.1) (t:=t) (n:=1)
  have m:=zH0 (ms:=s.2.1) (t:=t)
  have p:=zH1 (ps:=s.2.2.1) (l:=s.2.2.2.1) (a:=s.2.2.2.2.1) (t:=t)
  have k:=zH2 (ks:=s.2.2.2.2.2.1) (a:=s.2.2.2.2.2.2.1) (t:=t)
  exact zH3 (Nat.le_trans r.1 (by omega)) (fun q hq => Nat.le_trans (r.2 q hq) (by omega)) (Nat.le_trans m (by omega)) (Nat.le_trans p (by omega)) k
def sumOfGo:List Int → SumD → SumD × Bool
 | [],s => (s,true)
 | t :: r,s => cond (sumAdd s t).2 (sumOfGo r (sumAdd s t).1) (noSum,false)
def sumOf (l:List Int):SumD × Bool:=sumOfGo l sumNew
theorem zwO:∀ (l:List Int) (s:SumD),SmallS s 128 → SmallS (sumOfGo l s).1 128
 | [],s,h => h
 | t :: r,s,h => by
  unfold sumOfGo
  cases (sumAdd s t).2
  ·exact zwM
  ·exact zwO r _ (zwN s t)
theorem zmE (l:List Int):SmallS (sumOf l).1 128:=zwO l _ zwL
theorem zH4 (f:Nat):zmU f () = some (sumNew,()):=rfl
theorem zH5 (f:Nat) (l:List Int) (hl:l.length < 1000000000) (hfl:l.length < f) (hf:200 < f):zjh f ((l,()),()) = some ((sumOf l).1,((sumOf l).2,()),()):=by
 show zjg f (iter (zjf f) f) l = _
 unfold zjg
 simp only [zH4,Option.bind_some]
 refine (zt (st:=zjf f) (enc:=fun i (s:SumD) => ((i:Int),l,s.1,s.2.1,s.2.2.1,s.2.2.2.1,s.2.2.2.2.1,s.2.2.2.2.2.1,s.2.2.2.2.2.2.1,(0:Int),(0:Int),(0:Int))) (fun (x:Int) c (s:SumD) => (zcX f (s,(x,()),())).bind fun y => cond (!y.2.1.1) (some (noSum,(false,()),())) (c y.1))
   (fun s => some (s,(true,()),())) l 0 ?_ ?_ f sumNew hfl).trans ?_
 ·intro i s g hi
  show zfE f g _ = _
  unfold zfE
  simp only [zz_eq,lt_cast hi,le_cast,decide_true,cond_true,Int.toNat_natCast,w64_up (show i < 4294967296 by omega)]
  rfl
 ·intro s g
  show zfE f g _ = _
  unfold zfE
  simp only [zz_eq,zb,decide_false,cond_false]
 ·have:∀ (l:List Int) (s:SumD),SmallS s 128 → goL (R:=SumD × ((Bool × Unit) × Unit)) (fun (x:Int) c (s:SumD) => (zcX f (s,(x,()),())).bind fun y => cond (!y.2.1.1) (some (noSum,(false,()),())) (c y.1))
    (fun s => some (s,(true,()),())) l s = some ((sumOfGo l s).1,((sumOfGo l s).2,()),()):=by
   intro l
   induction l with
   | nil => intro s _; rfl
   | cons x l ih =>
    intro s hs
    show (zcX f (s,(x,()),())).bind _ = _
    rw [zHY f s x hs (by omega) (by omega) (by omega),Option.bind_some]
    unfold sumOfGo
    cases (sumAdd s x).2
    ·rfl
    ·exact ih _ (zwN s x)
  exact this l sumNew zwL
theorem SmallS.mono {s:SumD} {n m:Nat} (h:SmallS s n) (hm:n ≤ m):SmallS s m :=
 ⟨Nat.le_trans h.rows hm,fun r hr => Nat.le_trans (h.row r hr) hm,Nat.le_trans h.marks hm,Nat.le_trans h.pairs hm,Nat.le_trans h.knots hm⟩
theorem SmallS.all {s:SumD} {n:Nat} (h:SmallS s n) (a:Int):SmallS (s.1,s.2.1,s.2.2.1,s.2.2.2.1,a,s.2.2.2.2.2.1,s.2.2.2.2.2.2.1,()) n:=⟨h.rows,h.row,h.marks,h.pairs,h.knots⟩
theorem SmallS.rough {s u:SumD} {n:Nat} (h:SmallS s n) (hu:SmallS u n):SmallS (u.1,s.2.1,s.2.2.1,s.2.2.2.1,s.2.2.2.2.1,s.2.2.2.2.2.1,s.2.2.2.2.2.2.1,()) n:=⟨hu.rows,hu.row,h.marks,h.pairs,h.knots⟩
theorem zH6:sumBD sumNew = true:=by decide +kernel
def Sl (n₀:Nat) (W:World) (v:Value) (xs:List Int):Prop:=∃ (p:Option Addr) (cap:Nat),v = .slice p xs.length cap ∧ xs.length ≤ cap ∧
 (xs = [] ∨ ∃ b o,p = some ⟨b,o,none⟩ ∧ b < n₀ ∧ ∀ j,j < xs.length → W.cell? ⟨b,o + j,none⟩ = some (.int .i64 (xs.getD j 0)))
theorem ziE:∀ {f:Nat},mergeM f [] [] = []
 | 0 => rfl
 | f + 1 => rfl
theorem Sl.zero {n₀:Nat} {W:World} {p:Option Addr} {xs:List Int} (h:xs.length ≤ 0):Sl n₀ W (.slice p xs.length 0) xs :=
 ⟨p,0,rfl,h,.inl (List.length_eq_zero_iff.1 (by omega))⟩
theorem Sl.slice {n₀:Nat} {W:World} {v:Value} {xs:List Int} (h:Sl n₀ W v xs):∃ p c,v = .slice p xs.length c:=by
 obtain ⟨p,c,e,_⟩:=h; exact ⟨p,c,e⟩
theorem Sl.cons {n₀:Nat} {W:World} {v:Value} {x:Int} {xs:List Int} (h:Sl n₀ W v (x :: xs)):∃ b o c,v = .slice (some ⟨b,o,none⟩) (xs.length + 1) c ∧ xs.length + 1 ≤ c ∧ b < n₀ ∧ W.cell? ⟨b,o,none⟩ = some (.int .i64 x) ∧
  Sl n₀ W (.slice (some ⟨b,o + 1,none⟩) xs.length (c - 1)) xs:=by
 obtain ⟨p,c,e,hc,h⟩:=h
 rcases h with h | ⟨b,o,rfl,hb,hx⟩
 ·cases h
 ·simp only [List.length_cons] at hc hx
  refine ⟨b,o,c,e,hc,hb,hx 0 (by omega),_,_,rfl,by omega,?_⟩
  cases xs with
  | nil => exact .inl rfl
  | cons y ys => exact .inr ⟨b,o + 1,rfl,hb,fun j hj => by
    have:=hx (j + 1) (by omega)
    rw [show o + (j + 1) = o + 1 + j from by omega,List.getD_cons_succ] at this
    exact this⟩
theorem Sl.form {n₀:Nat} {W:World} {v:Value} {xs:List Int} (h:Sl n₀ W v xs):∃ p c,v = .slice p xs.length c:=h.slice
def spanG:Nat → Int → Int → Int × Int
 | 0,l,h => (l - 64,h - 64)
 | n + 1,l,h => if l < 64 then spanG n (2 * l) (2 * h + 1) else (l - 64,h - 64)
def span (a:Int):Int × Int:=spanG 63 a a
def wsum (p:Nat → Bool):Nat → List Int → Int
 | _,[] => 0
 | i,x :: r => (if p i = true then x else 0) + wsum p (i + 1) r
def ksum (p:Nat → Bool):List Knot → Int
 | [] => 0
 | k :: r => (if p k.1.toNat = true then k.2.1 else 0) + ksum p r
abbrev yes:Nat → Bool:=fun _ => true
theorem ziH (p:Nat → Bool) (x:Int):∀ {l:List Int} {i j:Nat},j < l.length → wsum p i (l.set j x) = wsum p i l + (if p (i + j) = true then x - l.getD j 0 else 0)
 | [],i,j,h => by simp at h
 | y :: l,i,0,h => by
  simp only [List.set_cons_zero,wsum,Nat.add_zero,List.getD_cons_zero]
  split <;> omega
 | y :: l,i,j + 1,h => by
  simp only [List.set_cons_succ,wsum,List.getD_cons_succ]
  rw [ziH p x (by simpa using h),show i + 1 + j = i + (j + 1) from by omega]
  omega
theorem zcB {l:List Int} {i j:Nat} {x:Int} (h:i < l.length):(l.set i x).getD j 0 = if i = j then x else l.getD j 0:=by
 simp only [List.getD_eq_getElem?_getD]
 by_cases e:i = j
 ·subst e; rw [List.getElem?_set_self h,if_pos rfl]; rfl
 ·rw [List.getElem?_set_ne e,if_neg e]
theorem zqa {p:Nat → Bool}:∀ {l:List Int} {i:Nat},(∀ j,0 ≤ l.getD j 0) → 0 ≤ wsum p i l
 | [],i,h => Int.le_refl _
 | x :: l,i,h => by
  have h0:0 ≤ x:=h 0
  have:=zqa (p:=p) (l:=l) (i:=i + 1) fun j => h (j + 1)
  simp only [wsum]; split <;> omega
theorem zmF:∀ {l:List Int} {i j:Nat},(∀ j,0 ≤ l.getD j 0) → l.getD j 0 ≤ wsum yes i l
 | [],i,j,h => by simp [wsum]
 | x :: l,i,0,h => by
  have:=zqa (p:=yes) (l:=l) (i:=i + 1) fun j => h (j + 1)
  simp only [wsum,List.getD_cons_zero,if_true]; omega
 | x :: l,i,j + 1,h => by
  have h0:0 ≤ x:=h 0
  have:=zmF (l:=l) (i:=i + 1) (j:=j) fun j => h (j + 1)
  simp only [wsum,List.getD_cons_succ,if_true]; omega
theorem zwP:∀ {l:List Int} {i j k:Nat},j < k → (∀ j,0 ≤ l.getD j 0) → l.getD j 0 + l.getD k 0 ≤ wsum yes i l
 | [],i,j,k,hjk,h => by simp [wsum]
 | x :: l,i,0,k + 1,hjk,h => by
  have:=zmF (l:=l) (i:=i + 1) (j:=k) fun j => h (j + 1)
  simp only [wsum,List.getD_cons_zero,List.getD_cons_succ,if_true]; omega
 | x :: l,i,j + 1,k + 1,hjk,h => by
  have h0:0 ≤ x:=h 0
  have:=zwP (l:=l) (i:=i + 1) (j:=j) (k:=k) (by omega) fun j => h (j + 1)
  simp only [wsum,List.getD_cons_succ,if_true]; omega
theorem zwQ:∀ {l:List Int} {i j:Nat},wsum (fun k => k == i + j) i l = l.getD j 0
 | [],i,j => by simp [wsum]
 | x :: l,i,0 => by
  have:∀ {l:List Int} {k:Nat},i < k → wsum (fun m => m == i + 0) k l = 0:=by
   intro l
   induction l with
   | nil => intro k _; rfl
   | cons y l ih =>
    intro k hk
    have e:(k == i + 0) = false:=by simp; omega
    show (if (k == i + 0) = true then y else 0) + wsum (fun m => m == i + 0) (k + 1) l = 0
    rw [e,ih (by omega)]; rfl
  simp only [wsum,List.getD_cons_zero]
  rw [this (by omega)]
  simp
 | x :: l,i,j + 1 => by
  simp only [wsum,List.getD_cons_succ]
  have e:∀ k,(k == i + (j + 1)) = (k == i + 1 + j):=fun k => by rw [show i + (j + 1) = i + 1 + j from by omega]
  have:(i == i + (j + 1)) = false:=by simp
  simp only [this]
  rw [show (fun k => k == i + (j + 1)) = fun k => k == i + 1 + j from funext e,zwQ]
  simp
structure NumsP (a:List Int) (top:Int):Prop where
 len:a.length = 128
 nn:∀ j,0 ≤ a.getD j 0
 top:wsum yes 0 a ≤ top
theorem zwR (p:Nat → Bool):wsum p 0 zeros = 0:=by
 have:∀ (n i:Nat),wsum p i (List.replicate n (0:Int)) = 0:=by
  intro n
  induction n with
  | zero => intro i; rfl
  | succ n ih => intro i; simp [List.replicate_succ,wsum,ih]
 exact this 128 0
theorem zeros_p:NumsP zeros 0 where
 len:=List.length_replicate ..
 nn j:=by
  simp only [zeros,List.getD_eq_getElem?_getD,List.getElem?_replicate]
  split <;> simp
 top:=by rw [zwR]; exact Int.le_refl _
theorem zqb:∀ {ks:List Knot} {a:List Int} {top:Int},GoodK ks → NumsP a top → 0 ≤ top → top + ksum yes ks ≤ 1000000000000 →
  NumsP (numsGo ks a) (top + ksum yes ks) ∧ ∀ p,wsum p 0 (numsGo ks a) = wsum p 0 a + ksum p ks
 | [],a,top,hg,ha,h0,ht => ⟨by simpa [numsGo,ksum] using ha,fun p => by simp [numsGo,ksum]⟩
 | k :: r,a,top,hg,ha,h0,ht => by
  have hk:=hg k (by simp)
  have hkr:∀ {r:List Knot},GoodK r → 0 ≤ ksum yes r:=by
   intro r
   induction r with
   | nil => intro _; exact Int.le_refl _
   | cons x r ih => intro hg; have:=ih fun y hy => hg y (by simp [hy]); have:=hg x (by simp); simp only [ksum,if_true]; omega
  have hr:=hkr (r:=r) fun y hy => hg y (by simp [hy])
  simp only [ksum,if_true] at ht
  have hle:=zmF (l:=a) (i:=0) (j:=k.1.toNat) ha.nn
  have h1:=ha.nn k.1.toNat
  have h2:=ha.top
  have hlen:=ha.len
  have e:w64 (a.getD k.1.toNat 0 + k.2.1) = a.getD k.1.toNat 0 + k.2.1:=by rw [w64_id] <;> omega
  have hs:∀ p,wsum p 0 (a.set k.1.toNat (a.getD k.1.toNat 0 + k.2.1)) = wsum p 0 a + (if p k.1.toNat = true then k.2.1 else 0):=fun p => by
   rw [ziH p _ (by omega),Nat.zero_add]; split <;> omega
  have ha':NumsP (a.set k.1.toNat (a.getD k.1.toNat 0 + k.2.1)) (top + k.2.1):={
   len:=by simpa using hlen
   nn:=fun j => by
    rw [zcB (by omega)]
    split
    ·omega
    ·exact ha.nn j
   top:=by rw [hs]; simp only [if_true]; omega }
  have ih:=zqb (ks:=r) (a:=a.set k.1.toNat (a.getD k.1.toNat 0 + k.2.1)) (top:=top + k.2.1) (fun y hy => hg y (by simp [hy])) ha' (by omega) (by omega)
  simp only [numsGo,ksum,e,if_true]
  refine ⟨?_,fun p => by rw [ih.2 p,hs p]; omega⟩
  rw [← Int.add_assoc]; exact ih.1
theorem sq1_sum {a:List Int} {top all:Int} {n:Nat} (ha:NumsP a top) (ht:top ≤ 1000000000000) (h1:1 ≤ n) (h2:n ≤ 63) :
  NumsP (sq1 all n a) top ∧ (∃ l h:Int,0 ≤ l ∧ 0 ≤ h ∧ ∀ p,wsum p 0 (sq1 all n a) = wsum p 0 a + (if p n = true then l + h else 0) - (if p (2 * n) = true then l else 0) - (if p (2 * n + 1) = true then h else 0)) ∧
   ((∀ j,1 ≤ j → j < 64 → a.getD j 0 ≤ w64 (all.tdiv 8)) → 0 ≤ w64 (all.tdiv 8) → ∀ j,1 ≤ j → j < 64 → (sq1 all n a).getD j 0 ≤ w64 (all.tdiv 8)):=by
 have hlen:=ha.len
 have hl:=ha.nn (2 * n)
 have hh:=ha.nn (2 * n + 1)
 have hn:=ha.nn n
 have htop:=ha.top
 have b1:=zwP (l:=a) (i:=0) (j:=2 * n) (k:=2 * n + 1) (by omega) ha.nn
 have b2:=zmF (l:=a) (i:=0) (j:=n) ha.nn
 have e1:w64 (a.getD (2 * n) 0 + a.getD (2 * n + 1) 0) = a.getD (2 * n) 0 + a.getD (2 * n + 1) 0:=by rw [w64_id] <;> omega
 have e2:w64 (a.getD (2 * n) 0 + a.getD (2 * n + 1) 0 + a.getD n 0) = a.getD (2 * n) 0 + a.getD (2 * n + 1) 0 + a.getD n 0:=by rw [w64_id] <;> omega
 have e3:w64 (a.getD n 0 + (a.getD (2 * n) 0 + a.getD (2 * n + 1) 0)) = a.getD n 0 + (a.getD (2 * n) 0 + a.getD (2 * n + 1) 0):=by rw [w64_id] <;> omega
 unfold sq1
 rw [e1,e2,e3]
 split
 ·rename_i hc
  have g1:∀ j,(((a.set n (a.getD n 0 + (a.getD (2 * n) 0 + a.getD (2 * n + 1) 0))).set (2 * n) 0).set (2 * n + 1) 0).getD j 0 = if 2 * n + 1 = j then 0 else if 2 * n = j then 0 else if n = j then a.getD n 0 + (a.getD (2 * n) 0 + a.getD (2 * n + 1) 0) else a.getD j 0:=fun j => by
   rw [zcB (by first | omega | (simp only [List.length_set]; omega)),zcB (by first | omega | (simp only [List.length_set]; omega)),zcB (by omega)]
  have hs:∀ p,wsum p 0 (((a.set n (a.getD n 0 + (a.getD (2 * n) 0 + a.getD (2 * n + 1) 0))).set (2 * n) 0).set (2 * n + 1) 0) =
    wsum p 0 a + (if p n = true then a.getD (2 * n) 0 + a.getD (2 * n + 1) 0 else 0) - (if p (2 * n) = true then a.getD (2 * n) 0 else 0) - (if p (2 * n + 1) = true then a.getD (2 * n + 1) 0 else 0):=by
   intro p
   rw [ziH p 0 (by first | omega | (simp only [List.length_set]; omega)),ziH p 0 (by first | omega | (simp only [List.length_set]; omega)),ziH p _ (by omega),zcB (by first | omega | (simp only [List.length_set]; omega)),zcB (by first | omega | (simp only [List.length_set]; omega)),zcB (by first | omega | (simp only [List.length_set]; omega))]
   rw [if_neg (show ¬ 2 * n = 2 * n + 1 by omega),if_neg (show ¬ n = 2 * n + 1 by omega),if_neg (show ¬ n = 2 * n by omega)]
   simp only [Nat.zero_add]
   split <;> split <;> split <;> omega
  refine ⟨⟨by simpa using hlen,fun j => ?_,?_⟩,⟨_,_,hl,hh,hs⟩,fun hb h0 j hj1 hj2 => ?_⟩
  ·rw [g1]; repeat' split
   all_goals first | omega | exact ha.nn j
  ·rw [hs]; simp only [if_true]; omega
  ·rw [g1]; repeat' split
   all_goals first | omega | exact hb j hj1 hj2
 ·exact ⟨ha,⟨0,0,Int.le_refl _,Int.le_refl _,fun p => by simp⟩,fun hb _ => hb⟩
theorem zwS {all top:Int} (ht:top ≤ 1000000000000):∀ {n:Nat} {a:List Int},n ≤ 63 → NumsP a top → NumsP (sqGo all n a) top ∧
   (∀ p:Nat → Bool,(∀ m,1 ≤ m → m ≤ 63 → p m = true → p (2 * m) = true ∧ p (2 * m + 1) = true) → wsum p 0 (sqGo all n a) ≤ wsum p 0 a) ∧
   (∀ p:Nat → Bool,(∀ m,1 ≤ m → m ≤ 63 → p (2 * m) = true ∨ p (2 * m + 1) = true → p m = true) → wsum p 0 a ≤ wsum p 0 (sqGo all n a)) ∧
   ((∀ j,1 ≤ j → j < 64 → a.getD j 0 ≤ w64 (all.tdiv 8)) → 0 ≤ w64 (all.tdiv 8) → ∀ j,1 ≤ j → j < 64 → (sqGo all n a).getD j 0 ≤ w64 (all.tdiv 8))
 | 0,a,hn,ha => ⟨ha,fun p _ => Int.le_refl _,fun p _ => Int.le_refl _,fun hb _ => hb⟩
 | n + 1,a,hn,ha => by
  obtain ⟨h1,⟨l,h,hl,hh,hs⟩,h3⟩:=sq1_sum (all:=all) (n:=n + 1) ha ht (by omega) (by omega)
  obtain ⟨i1,i2,i3,i4⟩:=zwS ht (n:=n) (by omega) h1
  refine ⟨i1,fun p hp => Int.le_trans (i2 p hp) ?_,fun p hp => Int.le_trans ?_ (i3 p hp),fun hb h0 => i4 (h3 hb h0) h0⟩
  ·rw [hs p]
   have:=hp (n + 1) (by omega) (by omega)
   by_cases c:p (n + 1) = true
   ·obtain ⟨c1,c2⟩:=this c
    simp only [c,c1,c2,if_true]; omega
   ·rw [if_neg c]
    split <;> split <;> omega
  ·rw [hs p]
   have:=hp (n + 1) (by omega) (by omega)
   by_cases c:p (n + 1) = true
   ·simp only [c,if_true]
    split <;> split <;> omega
   ·have c1:¬ p (2 * (n + 1)) = true:=fun h => c (this (.inl h))
    have c2:¬ p (2 * (n + 1) + 1) = true:=fun h => c (this (.inr h))
    simp only [c,c1,c2]; simp
theorem zwT {p:Nat → Bool}:∀ {l:List Int} {i:Nat},(∀ j,0 ≤ l.getD j 0) → ksum p (listGo i l) = wsum p i l
 | [],i,h => rfl
 | x :: l,i,h => by
  have h0:0 ≤ x:=h 0
  have ih:=zwT (p:=p) (l:=l) (i:=i + 1) fun j => h (j + 1)
  unfold listGo
  split
  ·simp only [ksum,wsum,ih,Int.toNat_natCast]
  ·have:x = 0:=by omega
   subst this
   simp [wsum,ih]
theorem ok_list {all:Int} (hall:all ≤ 2000):∀ {l:List Int} {i:Nat} {before sum:Int},before < i → 1 ≤ i → i + l.length ≤ 128 → (∀ j,0 ≤ l.getD j 0) → (∀ j,i + j < 64 → l.getD j 0 ≤ w64 (all.tdiv 8)) →
  0 ≤ sum → sum + wsum yes i l = all → okGo all (listGo i l) before sum = true
 | [],i,before,sum,h1,h2,h3,h4,h5,h6,h7 => by
  simp only [wsum] at h7
  simp [listGo,okGo]; omega
 | x :: l,i,before,sum,h1,h2,h3,h4,h5,h6,h7 => by
  have hx:0 ≤ x:=h4 0
  have hw:=zqa (p:=yes) (l:=l) (i:=i + 1) fun j => h4 (j + 1)
  simp only [wsum,if_true] at h7
  simp only [List.length_cons] at h3
  have ih:=fun (b s:Int) (hb:b < ((i + 1:Nat):Int)) (hs:0 ≤ s) (e:s + wsum yes (i + 1) l = all) => ok_list hall (l:=l) (i:=i + 1) (before:=b) (sum:=s) hb (by omega) (by omega) (fun j => h4 (j + 1)) (fun j hj => h5 (j + 1) (by omega)) hs e
  unfold listGo
  split
  ·unfold okGo
   have e:w64 (sum + x) = sum + x:=by rw [w64_id] <;> omega
   have h50:i < 64 → x ≤ w64 (all.tdiv 8):=fun h => h5 0 (by omega)
   rw [if_neg (by
    show ¬ ((i:Int) ≤ before ∨ 128 ≤ (i:Int) ∨ x < 1 ∨ 2000 < x ∨ ((i:Int) < 64 ∧ w64 (all.tdiv 8) < x))
    rintro (h | h | h | h | ⟨h,h'⟩)
    ·omega
    ·omega
    ·omega
    ·omega
    ·have:=h50 (by omega); omega),e]
   exact ih _ _ (by show (i:Int) < ((i + 1:Nat):Int); omega) (by omega) (by omega)
  ·have:x = 0:=by omega
   exact ih _ _ (by omega) h6 (by omega)
theorem w64_div {all:Int} (h0:0 ≤ all) (h1:all ≤ 2000):w64 (all.tdiv 8) = all / 8:=by
 rw [Int.tdiv_eq_ediv_of_nonneg h0,w64_id] <;> omega
theorem zwU {all:Int} (hall:0 ≤ all) (hall2:all ≤ 2000):∀ {ks:List Knot} {before sum:Int},0 ≤ before → before ≤ 127 → 0 ≤ sum → sum + 2000 * (127 - before) ≤ 1000000 → okGo all ks before sum = true →
  sum + ksum yes ks = all ∧ (∀ j:Nat,(j:Int) ≤ before → ksum (fun k => k == j) ks = 0) ∧ (∀ j:Nat,j < 64 → ksum (fun k => k == j) ks ≤ all / 8) ∧ (ks.length:Int) ≤ 127 - before
 | [],before,sum,h0,h1,h2,h3,h => by
  simp [okGo] at h
  subst h
  refine ⟨by simp [ksum],fun j _ => rfl,fun j _ => ?_,by simp; omega⟩
  show (0:Int) ≤ _; omega
 | k :: r,before,sum,h0,h1,h2,h3,h => by
  unfold okGo at h
  split at h
  ·cases h
  ·rename_i c
   have e:w64 (sum + k.2.1) = sum + k.2.1:=by rw [w64_id] <;> omega
   rw [e] at h
   have hd:=w64_div hall hall2
   obtain ⟨i1,i2,i3,i4⟩:=zwU hall hall2 (by omega) (by omega) (by omega) (by omega) h
   refine ⟨by simp only [ksum,if_true]; omega,fun j hj => ?_,fun j hj => ?_,by simp; omega⟩
   ·have:¬ (k.1.toNat == j) = true:=by simp; omega
    simp only [ksum,this]
    rw [i2 j (by omega)]; simp
   ·by_cases cj:k.1.toNat = j
    ·have:(k.1.toNat == j) = true:=by simp [cj]
     simp only [ksum,this,if_true]
     rw [i2 j (by omega)]
     omega
    ·have:¬ (k.1.toNat == j) = true:=by simpa using cj
     simp only [ksum,this]
     have:=i3 j hj
     simp; omega
structure InForm (ks:List Knot) (all:Int):Prop where
 good:GoodK ks
 lo:0 ≤ all
 hi:all ≤ 2000
 sum:ksum yes ks = all
 part:∀ j:Nat,j < 64 → ksum (fun k => k == j) ks ≤ all / 8
 len:ks.length ≤ 127
theorem zH7 {ks:List Knot} {all:Int} (h:okB ks all = true):InForm ks all:=by
 have hg:=zmC h
 have ha:=okB_all h
 unfold okB at h
 rw [if_neg (by omega)] at h
 obtain ⟨h1,_,h3,h4⟩:=zwU ha.1 ha.2 (Int.le_refl 0) (by omega) (Int.le_refl 0) (by omega) h
 exact ⟨hg,ha.1,ha.2,by omega,h3,by omega⟩
theorem zH8 {ka kb:List Knot} {alla allb:Int} (fa:InForm ka alla) (gb:GoodK kb) (sb:ksum yes kb = allb) (b0:0 ≤ allb) (pb:∀ j:Nat,j < 64 → ksum (fun k => k == j) kb ≤ allb / 8) (hs:alla + allb ≤ 2000) :
  okB (sumK ka kb (alla + allb)) (alla + allb) = true ∧
  (∀ p:Nat → Bool,(∀ m,1 ≤ m → m ≤ 63 → p m = true → p (2 * m) = true ∧ p (2 * m + 1) = true) → ksum p (sumK ka kb (alla + allb)) ≤ ksum p ka + ksum p kb) ∧
  (∀ p:Nat → Bool,(∀ m,1 ≤ m → m ≤ 63 → p (2 * m) = true ∨ p (2 * m + 1) = true → p m = true) → ksum p ka + ksum p kb ≤ ksum p (sumK ka kb (alla + allb))):=by
 have fa1:=fa.lo
 have fa2:=fa.sum
 obtain ⟨n1,w1⟩:=zqb (ks:=ka) fa.good zeros_p (Int.le_refl 0) (by omega)
 obtain ⟨n2,w2⟩:=zqb (ks:=kb) gb n1 (by omega) (by omega)
 have hw:∀ p,wsum p 0 (numsGo kb (numsGo ka zeros)) = ksum p ka + ksum p kb:=fun p => by rw [w2,w1,zwR]; omega
 obtain ⟨s1,s2,s3,s4⟩:=zwS (all:=alla + allb) (top:=0 + ksum yes ka + ksum yes kb) (by omega) (n:=63) (a:=numsGo kb (numsGo ka zeros)) (by omega) n2
 have hd:=w64_div (all:=alla + allb) (by omega) hs
 have hpart:∀ j,1 ≤ j → j < 64 → (numsGo kb (numsGo ka zeros)).getD j 0 ≤ w64 ((alla + allb).tdiv 8):=fun j hj1 hj2 => by
  have:=zwQ (l:=numsGo kb (numsGo ka zeros)) (i:=0) (j:=j)
  rw [Nat.zero_add,hw] at this
  rw [← this,hd]
  have:=fa.part j hj2
  have:=pb j hj2
  omega
 have s4':=s4 hpart (by rw [hd]; omega)
 have hk:∀ p,ksum p (sumK ka kb (alla + allb)) = wsum p 0 (sqGo (alla + allb) 63 (numsGo kb (numsGo ka zeros))):=fun p => zwT s1.nn
 refine ⟨?_,fun p hp => by rw [hk,← hw]; exact s2 p hp,fun p hp => by rw [hk,← hw]; exact s3 p hp⟩
 have hz:(sqGo (alla + allb) 63 (numsGo kb (numsGo ka zeros))).getD 0 0 = 0:=by
  rw [zp9,ziG gb,ziG fa.good]; decide
 have htot:wsum yes 0 (sqGo (alla + allb) 63 (numsGo kb (numsGo ka zeros))) = alla + allb:=by
  have h1:=s2 yes (fun _ _ _ _ => ⟨rfl,rfl⟩)
  have h2:=s3 yes (fun _ _ _ _ => rfl)
  have h3:=hw yes
  omega
 unfold okB sumK
 rw [if_neg (by omega),zwF (by omega)]
 obtain ⟨x,r,hxr⟩:∃ x r,sqGo (alla + allb) 63 (numsGo kb (numsGo ka zeros)) = x :: r:=by
  cases h:sqGo (alla + allb) 63 (numsGo kb (numsGo ka zeros)) with
  | nil => have:=s1.len; rw [h] at this; simp at this
  | cons x r => exact ⟨x,r,rfl⟩
 have hl:=s1.len
 have hnn:=s1.nn
 rw [hxr] at hz htot hl hnn s4' ⊢
 have hx:x = 0:=hz
 subst hx
 simp only [wsum,if_true,List.length_cons] at htot hl
 rw [List.drop_succ_cons,List.drop_zero]
 exact ok_list hs (by omega) (by omega) (by omega) (fun j => hnn (j + 1)) (fun j hj => s4' (j + 1) (by omega) (by omega)) (by omega) (by omega)
def plo (t:Int) (i:Nat):Bool:=decide ((span (i:Int)).2 ≤ t)
def phi (t:Int) (i:Nat):Bool:=decide ((span (i:Int)).1 ≤ t)
theorem zwV:∀ n:Nat,n < 64 → 1 ≤ n → (span ((2 * n:Nat):Int)).2 ≤ (span (n:Int)).2 ∧ (span ((2 * n + 1:Nat):Int)).2 ≤ (span (n:Int)).2 ∧ (span (n:Int)).1 ≤ (span ((2 * n:Nat):Int)).1 ∧ (span (n:Int)).1 ≤ (span ((2 * n + 1:Nat):Int)).1:=by
 decide +kernel
theorem zH9 (t:Int):∀ m,1 ≤ m → m ≤ 63 → plo t m = true → plo t (2 * m) = true ∧ plo t (2 * m + 1) = true:=fun m h1 h2 h => by
 have:=zwV m (by omega) h1
 unfold plo at h ⊢
 simp only [decide_eq_true_eq] at h ⊢
 omega
theorem zIa (t:Int):∀ m,1 ≤ m → m ≤ 63 → phi t (2 * m) = true ∨ phi t (2 * m + 1) = true → phi t m = true:=fun m h1 h2 h => by
 have:=zwV m (by omega) h1
 unfold phi at h ⊢
 simp only [decide_eq_true_eq] at h ⊢
 omega
theorem zwW (t:Int) (h0:0 ≤ t) (h1:t ≤ 63):span (64 + t) = (t,t):=by
 unfold span
 rw [show (63:Nat) = 62 + 1 from rfl,spanG,if_neg (by omega)]
 have:64 + t - 64 = t:=by omega
 rw [this]
theorem zIb {t:Int} (h0:0 ≤ t) (h1:t ≤ 63):GoodK [((64 + t,1,()):Knot)] ∧ ksum yes [((64 + t,1,()):Knot)] = 1 ∧ (∀ j:Nat,j < 64 → ksum (fun k => k == j) [((64 + t,1,()):Knot)] ≤ 1 / 8) ∧
  (∀ i:Int,ksum (plo i) [((64 + t,1,()):Knot)] = if t ≤ i then 1 else 0) ∧ (∀ i:Int,ksum (phi i) [((64 + t,1,()):Knot)] = if t ≤ i then 1 else 0):=by
 have e:(((64 + t).toNat:Nat):Int) = 64 + t:=by omega
 refine ⟨fun k hk => ?_,rfl,fun j hj => ?_,fun i => ?_,fun i => ?_⟩
 ·simp only [List.mem_singleton] at hk
  subst hk
  show 1 ≤ 64 + t ∧ 64 + t ≤ 127 ∧ (1:Int) ≤ 1 ∧ (1:Int) ≤ 2000
  omega
 ·have:((64 + t).toNat == j) = false:=by simp; omega
  simp [ksum,this]
 ·simp [ksum,plo,e,zwW t h0 h1]
 ·simp [ksum,phi,e,zwW t h0 h1]
theorem row_all {a:List Int} (h:rowB a = true):∀ x ∈ a,0 ≤ x ∧ x ≤ 2000:=by
 unfold rowB at h
 simp only [Bool.and_eq_true,List.all_eq_true] at h
 intro x hx
 have:=h.2.1 x hx
 unfold rng at this
 simpa using this
def ascN (p:Int → Bool):Nat → Int → List Int
 | 0,_ => []
 | d + 1,i => cond (p i) (i :: ascN p d (i + 1)) (ascN p d (i + 1))
def fst6 (p:Int → Bool):List Int:=(ascN p 64 0).take 6
theorem zqc {p q:Int → Bool}:∀ {d:Nat} {i:Int},(∀ k,i ≤ k → k < i + d → p k = q k) → ascN p d i = ascN q d i
 | 0,i,_ => rfl
 | d + 1,i,h => by
  unfold ascN
  rw [h i (Int.le_refl _) (by omega),zqc (d:=d) (i:=i + 1) fun k h1 h2 => h k (by omega) (by omega)]
theorem ziI {p:Int → Bool} {x:Int}:∀ {d:Nat} {i:Int},x ∈ ascN p d i ↔ i ≤ x ∧ x < i + d ∧ p x = true
 | 0,i => by simp [ascN]; omega
 | d + 1,i => by
  have ih:=ziI (p:=p) (x:=x) (d:=d) (i:=i + 1)
  unfold ascN
  cases hp:p i
  ·simp only [cond_false,ih]
   constructor
   ·rintro ⟨h1,h2,h3⟩; exact ⟨by omega,by omega,h3⟩
   ·rintro ⟨h1,h2,h3⟩
    have:x ≠ i:=fun h => by rw [h,hp] at h3; cases h3
    exact ⟨by omega,by omega,h3⟩
  ·simp only [cond_true,List.mem_cons,ih]
   constructor
   ·rintro (rfl | ⟨h1,h2,h3⟩)
    ·exact ⟨by omega,by omega,hp⟩
    ·exact ⟨by omega,by omega,h3⟩
   ·rintro ⟨h1,h2,h3⟩
    by_cases h:x = i
    ·exact .inl h
    ·exact .inr ⟨by omega,by omega,h3⟩
theorem ascN_go {p:Int → Bool}:∀ {d:Nat} {i b:Int},b < i → i + d ≤ 64 → fewGo (ascN p d i) b = true
 | 0,i,b,_,_ => rfl
 | d + 1,i,b,h,h2 => by
  unfold ascN
  cases p i
  ·exact ascN_go (by omega) (by omega)
  ·simp only [cond_true,fewGo,Bool.and_eq_true,decide_eq_true_eq]
   exact ⟨by omega,ascN_go (by omega) (by omega)⟩
theorem zwX:∀ {n:Nat} {l:List Int} {b:Int},fewGo l b = true → fewGo (l.take n) b = true
 | 0,l,b,_ => by simp [fewGo]
 | n + 1,[],b,_ => rfl
 | n + 1,x :: l,b,h => by
  simp only [fewGo,Bool.and_eq_true,List.take_succ_cons] at h ⊢
  exact ⟨h.1,zwX h.2⟩
theorem zeR:∀ {l:List Int} {b x:Int},fewGo l b = true → x ∈ l → b < x ∧ x ≤ 63
 | [],b,x,_,h => by cases h
 | y :: l,b,x,h,hx => by
  simp only [fewGo,Bool.and_eq_true,decide_eq_true_eq] at h
  rcases List.mem_cons.1 hx with rfl | hx
  ·exact h.1
  ·have:=zeR h.2 hx; omega
theorem zmG (p:Int → Bool):fewB (fst6 p) = true:=by
 unfold fewB fst6
 simp only [Bool.and_eq_true,decide_eq_true_eq]
 exact ⟨by rw [List.length_take]; omega,zwX (ascN_go (by omega) (by omega))⟩
theorem asc_of:∀ {d:Nat} {i b:Int} {l:List Int},fewGo l b = true → b + 1 = i → i + d = 64 → l = ascN (fun k => l.contains k) d i
 | 0,i,b,l,h,hb,hi => by
  cases l with
  | nil => rfl
  | cons x l => have:=zeR h (List.mem_cons_self ..); omega
 | d + 1,i,b,l,h,hb,hi => by
  unfold ascN
  by_cases hx:∃ r,l = i :: r
  ·obtain ⟨r,rfl⟩:=hx
   simp only [List.contains_cons,beq_self_eq_true,Bool.true_or,cond_true]
   simp only [fewGo,Bool.and_eq_true] at h
   have ih:=asc_of (d:=d) (i:=i + 1) h.2 rfl (by omega)
   conv => lhs; rw [ih]
   congr 1
   refine zqc fun k h1 h2 => ?_
   have:(k == i) = false:=by simpa using (by omega:k ≠ i)
   simp only [List.contains_cons,this,Bool.false_or]
  ·have hne:∀ y ∈ l,i < y:=by
    cases l with
    | nil => intro y hy; cases hy
    | cons x r =>
     have h1:=zeR h (List.mem_cons_self ..)
     have h2:x ≠ i:=fun e => hx ⟨r,by rw [e]⟩
     intro y hy
     simp only [fewGo,Bool.and_eq_true] at h
     rcases List.mem_cons.1 hy with rfl | hy
     ·omega
     ·have:=zeR h.2 hy; omega
   have hc:l.contains i = false:=by
    cases hl:l.contains i
    ·rfl
    ·have:=hne i (List.contains_iff_mem.1 hl); omega
   simp only [hc,cond_false]
   have h':fewGo l i = true:=by
    cases l with
    | nil => rfl
    | cons x r =>
     simp only [fewGo,Bool.and_eq_true,decide_eq_true_eq] at h ⊢
     exact ⟨⟨hne x (List.mem_cons_self ..),h.1.2⟩,h.2⟩
   exact asc_of (d:=d) (i:=i + 1) h' rfl (by omega)
theorem zwY {l:List Int} (h:fewB l = true):l = fst6 fun k => l.contains k:=by
 have h6:=six h
 unfold fewB at h
 simp only [Bool.and_eq_true] at h
 have:=asc_of (d:=64) (i:=0) h.2 rfl rfl
 unfold fst6
 rw [← this,List.take_of_length_le h6]
theorem cutM_ne {m:Int} {l:List Int} (h:∀ x ∈ l,m < x):cutM m l = l:=by
 cases l with
 | nil => rfl
 | cons x r =>
  have:=h x (List.mem_cons_self ..)
  have:(x == m) = false:=by simpa using (by omega:x ≠ m)
  simp only [cutM,this,cond_false]
theorem cutM_eq {m:Int} {l:List Int}:cutM m (m :: l) = l:=by simp [cutM]
theorem zqd {p q:Int → Bool}:∀ {d:Nat} {i:Int} {f:Nat},d ≤ f → mergeM f (ascN p d i) (ascN q d i) = ascN (fun k => p k || q k) d i
 | 0,i,f,h => ziE
 | d + 1,i,0,h => by omega
 | d + 1,i,f + 1,h => by
  have ih:=zqd (p:=p) (q:=q) (d:=d) (i:=i + 1) (f:=f) (by omega)
  have ih':=zqd (p:=p) (q:=q) (d:=d) (i:=i + 1) (f:=f + 1) (by omega)
  have gp:∀ x ∈ ascN p d (i + 1),i < x:=fun x hx => by have:=(ziI.1 hx).1; omega
  have gq:∀ x ∈ ascN q d (i + 1),i < x:=fun x hx => by have:=(ziI.1 hx).1; omega
  unfold ascN
  cases hp:p i <;> cases hq:q i <;> simp only [cond_true,cond_false,Bool.or_self,Bool.or_true,Bool.or_false,Bool.true_or,Bool.false_or]
  ·exact ih'
  ·have e:headM (ascN p d (i + 1)) (i :: ascN q d (i + 1)) = i:=by
    cases hl:ascN p d (i + 1) with
    | nil => rfl
    | cons x r =>
     have:i < x:=gp x (by rw [hl]; exact List.mem_cons_self ..)
     simp only [headM,this,if_true]
   show cond _ _ _ = _
   simp only [List.isEmpty_cons,Bool.and_false,cond_false,e,cutM_eq,cutM_ne gp,ih]
  ·have e:headM (i :: ascN p d (i + 1)) (ascN q d (i + 1)) = i:=by
    cases hl:ascN q d (i + 1) with
    | nil => rfl
    | cons x r =>
     have:¬ x < i:=by have:=gq x (by rw [hl]; exact List.mem_cons_self ..); omega
     simp only [headM,this,if_false]
   show cond _ _ _ = _
   simp only [List.isEmpty_cons,Bool.false_and,cond_false,e,cutM_eq,cutM_ne gq,ih]
  ·have e:headM (i :: ascN p d (i + 1)) (i :: ascN q d (i + 1)) = i:=by simp [headM]
   show cond _ _ _ = _
   simp only [List.isEmpty_cons,Bool.and_self,cond_false,e,cutM_eq,ih]
theorem zwZ:∀ {n f f' k k':Nat} {a b:List Int},n ≤ f → n ≤ f' → n ≤ k → n ≤ k' → (mergeM f a b).take n = (mergeM f' (a.take k) (b.take k')).take n
 | 0,_,_,_,_,_,_,_,_,_,_ => by simp
 | n + 1,f + 1,f' + 1,k + 1,k' + 1,a,b,h1,h2,h3,h4 => by
  have cut:∀ (m:Int) (a:List Int) (k:Nat),n + 1 ≤ k + 1 → ∃ k2,n ≤ k2 ∧ cutM m (a.take (k + 1)) = (cutM m a).take k2:=by
   intro m a k hk
   cases a with
   | nil => exact ⟨k,by omega,by simp [cutM]⟩
   | cons x r =>
    cases hx:x == m
    ·exact ⟨k + 1,by omega,by simp only [List.take_succ_cons,cutM,hx,cond_false]⟩
    ·exact ⟨k,by omega,by simp only [List.take_succ_cons,cutM,hx,cond_true]⟩
  have hh:headM (a.take (k + 1)) (b.take (k' + 1)) = headM a b:=by
   cases a <;> cases b <;> rfl
  have hb:((a.take (k + 1)).isEmpty && (b.take (k' + 1)).isEmpty) = (a.isEmpty && b.isEmpty):=by
   cases a <;> cases b <;> rfl
  obtain ⟨k2,g1,e1⟩:=cut (headM a b) a k h3
  obtain ⟨k3,g2,e2⟩:=cut (headM a b) b k' h4
  unfold mergeM
  rw [hb,hh,e1,e2]
  cases (a.isEmpty && b.isEmpty)
  ·simp only [cond_false,List.take_succ_cons]
   rw [zwZ (n:=n) (f:=f) (f':=f') (k:=k2) (k':=k3) (by omega) (by omega) g1 g2]
  ·rfl
theorem zIc (p q:Int → Bool):leastL (fst6 p) (fst6 q) = fst6 fun k => p k || q k:=by
 unfold leastL fst6
 rw [← zwZ (n:=6) (f:=64) (f':=12) (k:=6) (k':=6) (by omega) (by omega) (by omega) (by omega),zqd (Nat.le_refl _)]
theorem zqe {m:Int}:∀ {l:List Int},(∀ x ∈ l,m < x) → putM m l true = l
 | [],_ => rfl
 | x :: r,h => by
  have:(x != m) = true:=by simpa using (by have:=h x (List.mem_cons_self ..); omega:x ≠ m)
  unfold putM
  simp only [Bool.not_true,Bool.false_and,cond_false,this,cond_true,zqe fun y hy => h y (List.mem_cons_of_mem _ hy)]
theorem zqf:∀ {l:List Int} {f:Nat},l.length ≤ f → mergeM f l [] = l
 | [],f,_ => ziE
 | x :: r,0,h => by simp at h
 | x :: r,f + 1,h => by
  show cond _ _ _ = _
  simp only [List.isEmpty_cons,Bool.false_and,cond_false,headM,cutM_eq]
  rw [show cutM x ([]:List Int) = [] from rfl,zqf (by simpa using h)]
theorem zw0 {m:Int}:∀ {l:List Int} {b:Int} {f:Nat},fewGo l b = true → l.length + 1 ≤ f → putM m l false = mergeM f l [m]
 | [],b,0,_,h => by omega
 | [],b,f + 1,_,h => by
  show [m] = cond _ _ _
  simp only [List.isEmpty_cons,Bool.and_false,cond_false,headM,cutM_eq]
  rw [show cutM m ([]:List Int) = [] from rfl,ziE]
 | x :: r,b,0,_,h => by omega
 | x :: r,b,f + 1,hg,h => by
  simp only [fewGo,Bool.and_eq_true] at hg
  simp only [List.length_cons] at h
  have gr:∀ y ∈ r,x < y:=fun y hy => (zeR hg.2 hy).1
  unfold putM
  show _ = cond _ _ _
  simp only [List.isEmpty_cons,Bool.and_self,cond_false,headM,Bool.not_false,Bool.true_and]
  by_cases c1:x ≥ m
  ·by_cases c2:x = m
   ·subst c2
    have e:¬ x < x:=by omega
    simp only [c1,decide_true,cond_true,bne_self_eq_false,cond_false,zqe gr,e,if_false,cutM_eq]
    rw [zqf (by omega)]
   ·have e1:(x != m) = true:=by simpa using c2
    have e2:m < x:=by omega
    have e3:(x == m) = false:=by simpa using c2
    simp only [c1,decide_true,cond_true,e1,zqe (fun y hy => Int.lt_trans e2 (gr y hy)),e2,if_true,cutM_eq]
    rw [show cutM m (x :: r) = x :: r from by simp only [cutM,e3,cond_false],zqf (by simp; omega)]
  ·have e1:(x != m) = true:=by simpa using (by omega:x ≠ m)
   have e2:¬ m < x:=by omega
   have e3:(m == x) = false:=by simpa using (by omega:m ≠ x)
   simp only [c1,decide_false,cond_false,e1,cond_true,e2,if_false,cutM_eq]
   rw [show cutM x [m] = [m] from by simp only [cutM,e3,cond_false],zw0 (f:=f) hg.2 (by omega)]
theorem one_asc {m:Int}:∀ {d:Nat} {i:Int},i ≤ m → m < i + d → ascN (fun k => k == m) d i = [m]
 | 0,i,h1,h2 => by omega
 | d + 1,i,h1,h2 => by
  unfold ascN
  by_cases h:i = m
  ·subst h
   have none:∀ {d:Nat} {j:Int},i < j → ascN (fun k => k == i) d j = []:=by
    intro d
    induction d with
    | zero => intro j _; rfl
    | succ d ih =>
     intro j hj
     unfold ascN
     have:(j == i) = false:=by simpa using (by omega:j ≠ i)
     simp only [this,cond_false,ih (by omega:i < j + 1)]
   simp only [beq_self_eq_true,cond_true,none (by omega:i < i + 1)]
  ·have:(i == m) = false:=by simpa using h
   simp only [this,cond_false]
   exact one_asc (by omega) (by omega)
theorem zw1 {m:Int} (h0:0 ≤ m) (h1:m ≤ 63):fst6 (fun k => k == m) = [m]:=by
 unfold fst6
 rw [one_asc h0 (by omega)]; rfl
theorem zw2 {l:List Int} {m:Int} (h:fewB l = true) (h0:0 ≤ m) (h1:m ≤ 63):few6 l m = leastL l [m]:=by
 have h6:=six h
 unfold fewB at h
 simp only [Bool.and_eq_true] at h
 unfold few6 leastL
 rw [zw0 h.2 (f:=12) (by omega)]
theorem zId (p:Int → Bool) {m:Int} (h0:0 ≤ m) (h1:m ≤ 63):few6 (fst6 p) m = fst6 fun k => p k || k == m:=by
 rw [zw2 (zmG p) h0 h1,← zw1 h0 h1,zIc]
theorem zqg {t:Int} (h:thingB t = true):0 ≤ mark t ∧ mark t ≤ 63:=by
 have:=zeP h
 unfold mark
 rw [h,cond_true]
 have e1:w64 (t * 37) = t * 37:=by rw [w64_id] <;> omega
 have e2:w64 (t * 37 + 11) = t * 37 + 11:=by rw [w64_id] <;> omega
 rw [e1,e2,Int.tmod_eq_emod_of_nonneg (by omega)]
 omega
def revIns (key:Knot → Int) (x:Knot):List Knot → List Knot
 | [] => [x]
 | y :: r => cond (decide (key x < key y)) (y :: revIns key x r) (x :: y :: r)
def sortR (key:Knot → Int):List Knot → List Knot → List Knot
 | R,[] => R
 | R,x :: S => sortR key (revIns key x R) S
def isort (key:Knot → Int) (l:List Knot):List Knot:=(sortR key [] l).reverse
def kN (x:Knot):Int:=- x.2.1
theorem ziJ (key:Knot → Int) (x:Knot):∀ (R:List Knot),(revIns key x R).Perm (x :: R)
 | [] => List.Perm.refl _
 | y :: r => by
  unfold revIns
  cases decide (key x < key y)
  ·exact List.Perm.refl _
  ·exact ((ziJ key x r).cons y).trans (List.Perm.swap x y r)
theorem zw3 (key:Knot → Int):∀ (T R:List Knot),(sortR key R T).Perm (R ++ T)
 | [],R => by rw [List.append_nil]; exact List.Perm.refl _
 | x :: S,R => (zw3 key S (revIns key x R)).trans (((ziJ key x R).append_right S).trans (List.perm_middle (a:=x) (l₁:=R) (l₂:=S)).symm)
theorem ziK (key:Knot → Int) (l:List Knot):(isort key l).Perm l:=(List.reverse_perm _).trans (zw3 key l [])
theorem zw4 (key:Knot → Int) (x:Knot):∀ (R:List Knot),R.Pairwise (fun a b => key b ≤ key a) → (revIns key x R).Pairwise (fun a b => key b ≤ key a)
 | [],_ => by simp [revIns]
 | y :: r,h => by
  have h':=List.pairwise_cons.1 h
  unfold revIns
  by_cases c:key x < key y
  ·simp only [c,decide_true,cond_true]
   refine List.pairwise_cons.2 ⟨fun z hz => ?_,zw4 key x r h'.2⟩
   rcases List.mem_cons.1 ((ziJ key x r).mem_iff.1 hz) with rfl | hz
   ·omega
   ·exact h'.1 z hz
  ·simp only [c,decide_false,cond_false]
   refine List.pairwise_cons.2 ⟨fun z hz => ?_,h⟩
   rcases List.mem_cons.1 hz with rfl | hz
   ·omega
   ·have:=h'.1 z hz; omega
theorem zw5 (key:Knot → Int):∀ (T R:List Knot),R.Pairwise (fun a b => key b ≤ key a) → (sortR key R T).Pairwise (fun a b => key b ≤ key a)
 | [],R,h => h
 | x :: S,R,h => zw5 key S _ (zw4 key x R h)
theorem zw6 (key:Knot → Int) (l:List Knot):(isort key l).Pairwise (fun a b => key a ≤ key b):=by
 unfold isort
 rw [List.pairwise_reverse]
 exact zw5 key l [] List.Pairwise.nil
theorem zqh (key:Knot → Int) (l:List Knot):(isort key l).length = l.length:=(ziK key l).length_eq
def cntK:List Knot → Int → Int
 | [],_ => 0
 | x :: r,k => (if x.1 = k then x.2.1 else 0) + cntK r k
def SA (l:List Knot):Prop:=l.Pairwise fun a b => a.1 < b.1
def Pos (m:Int) (l:List Knot):Prop:=∀ x ∈ l,0 ≤ x.1 ∧ x.1 ≤ 63 ∧ 1 ≤ x.2.1 ∧ x.2.1 ≤ m
theorem zeS {l:List Knot} {k:Int} (h:∀ x ∈ l,x.1 ≠ k):cntK l k = 0:=by
 induction l with
 | nil => rfl
 | cons x r ih => simp only [cntK,h x (List.mem_cons_self ..),if_false,ih fun y hy => h y (List.mem_cons_of_mem _ hy)]; rfl
theorem zqi (t n:Int):∀ (l:List Knot),putP t n l true = l
 | [] => rfl
 | x :: r => by
  unfold putP
  rw [zqi t n r]; rfl
theorem zqj {m t n:Int} (ht:0 ≤ t ∧ t ≤ 63) (hn:1 ≤ n) (hm:n ≤ m) (hm2:m ≤ 1000000):∀ {l:List Knot} {p:Int},SA l → Pos m l → p < t → (∀ x ∈ l,p < x.1) →
  SA (putP t n l false) ∧ Pos (m + n) (putP t n l false) ∧ (∀ x ∈ putP t n l false,p < x.1) ∧ ∀ k,cntK (putP t n l false) k = cntK l k + if t = k then n else 0
 | [],p,_,_,h,_ => by
  refine ⟨List.pairwise_singleton _ _,fun x hx => ?_,fun x hx => ?_,fun k => ?_⟩
  ·rcases List.mem_singleton.1 hx with rfl
   exact ⟨ht.1,ht.2,hn,by show n ≤ _; omega⟩
  ·rcases List.mem_singleton.1 hx with rfl
   exact h
  ·show (if t = k then n else 0) + 0 = 0 + _; omega
 | x :: r,p,hs,hp,h,hpx => by
  have hs':=List.pairwise_cons.1 hs
  have px:=hp x (List.mem_cons_self ..)
  have pr:Pos m r:=fun y hy => hp y (List.mem_cons_of_mem _ hy)
  have p0:=hpx x (List.mem_cons_self ..)
  unfold putP
  simp only [zqi,Bool.not_false,Bool.true_and]
  by_cases c1:x.1 ≥ t
  ·by_cases c2:x.1 = t
   ·have e:w64 (n + x.2.1) = n + x.2.1:=by rw [w64_id] <;> omega
    have b:(x.1 == t) = true:=by simpa using c2
    simp only [c1,decide_true,cond_true,b,e]
    refine ⟨List.pairwise_cons.2 ⟨fun y hy => by have:=hs'.1 y hy; show t < y.1; omega,hs'.2⟩,fun y hy => ?_,fun y hy => ?_,fun k => ?_⟩
    ·rcases List.mem_cons.1 hy with rfl | hy
     ·exact ⟨ht.1,ht.2,by show 1 ≤ n + x.2.1; omega,by show n + x.2.1 ≤ _; omega⟩
     ·have:=pr y hy; exact ⟨this.1,this.2.1,this.2.2.1,by omega⟩
    ·rcases List.mem_cons.1 hy with rfl | hy
     ·exact h
     ·exact hpx y (List.mem_cons_of_mem _ hy)
    ·show (if t = k then n + x.2.1 else 0) + cntK r k = (if x.1 = k then x.2.1 else 0) + cntK r k + _
     rw [c2]; split <;> omega
   ·have b:(x.1 == t) = false:=by simpa using c2
    simp only [c1,decide_true,cond_true,b,cond_false]
    refine ⟨List.pairwise_cons.2 ⟨fun y hy => ?_,hs⟩,fun y hy => ?_,fun y hy => ?_,fun k => ?_⟩
    ·rcases List.mem_cons.1 hy with rfl | hy
     ·show t < x.1; omega
     ·have:=hs'.1 y hy; show t < y.1; omega
    ·rcases List.mem_cons.1 hy with rfl | hy
     ·exact ⟨ht.1,ht.2,hn,by show n ≤ _; omega⟩
     ·have:=hp y hy; exact ⟨this.1,this.2.1,this.2.2.1,by omega⟩
    ·rcases List.mem_cons.1 hy with rfl | hy
     ·exact h
     ·exact hpx y hy
    ·show (if t = k then n else 0) + ((if x.1 = k then x.2.1 else 0) + cntK r k) = (if x.1 = k then x.2.1 else 0) + cntK r k + _
     omega
  ·simp only [c1,decide_false,cond_false]
   obtain ⟨i1,i2,i3,i4⟩:=zqj (p:=x.1) ht hn hm hm2 hs'.2 pr (by omega) hs'.1
   refine ⟨List.pairwise_cons.2 ⟨i3,i1⟩,fun y hy => ?_,fun y hy => ?_,fun k => ?_⟩
   ·rcases List.mem_cons.1 hy with rfl | hy
    ·exact ⟨px.1,px.2.1,px.2.2.1,by show x.2.1 ≤ _; omega⟩
    ·exact i2 y hy
   ·rcases List.mem_cons.1 hy with rfl | hy
    ·exact p0
    ·have:=i3 y hy; omega
   ·show (if x.1 = k then x.2.1 else 0) + cntK (putP t n r false) k = (if x.1 = k then x.2.1 else 0) + cntK r k + _
    rw [i4]; omega
theorem Pos.mono {m n:Int} {l:List Knot} (h:Pos m l) (hm:m ≤ n):Pos n l:=fun x hx => by have:=h x hx; exact ⟨this.1,this.2.1,this.2.2.1,by omega⟩
theorem zw7 {all:Int} (h0:0 ≤ all) (h1:all ≤ 2000):∀ {l:List Knot} {p s:Int},-1 ≤ p → 0 ≤ s → s ≤ 100000 → l.length ≤ 8 → s + 2000 * l.length ≤ 1000000 → topGo all l p s = true → (∀ x ∈ l,p < x.1) ∧ SA l ∧ Pos 2000 l
 | [],_,_,_,_,_,_,_,_ => ⟨fun x hx => (by cases hx),List.Pairwise.nil,fun x hx => (by cases hx)⟩
 | x :: r,p,s,hp,hs,hs2,hl,hb,h => by
  simp only [topGo,Bool.and_eq_true,decide_eq_true_eq] at h
  simp only [List.length_cons] at hl hb
  obtain ⟨hx,hr⟩:=h
  have e:w64 (s + x.2.1) = s + x.2.1:=by rw [w64_id] <;> omega
  rw [e] at hr
  by_cases hb2:s + x.2.1 ≤ 100000
  ·obtain ⟨i1,i2,i3⟩:=zw7 h0 h1 (by omega) (by omega) hb2 (by omega) (by omega) hr
   refine ⟨fun y hy => ?_,List.pairwise_cons.2 ⟨i1,i2⟩,fun y hy => ?_⟩
   ·rcases List.mem_cons.1 hy with rfl | hy
    ·exact hx.1
    ·have:=i1 y hy; omega
   ·rcases List.mem_cons.1 hy with rfl | hy
    ·exact ⟨by omega,hx.2.1,hx.2.2.1,hx.2.2.2⟩
    ·exact i3 y hy
  ·exfalso
   have big:∀ (l:List Knot) (p s:Int),2000 < s → s + 2000 * l.length ≤ 1000000 → topGo all l p s = true → False:=by
    intro l
    induction l with
    | nil => intro p s hs _ h; simp only [topGo,decide_eq_true_eq] at h; omega
    | cons y l ih =>
     intro p s hs hb h
     simp only [topGo,Bool.and_eq_true,decide_eq_true_eq] at h
     simp only [List.length_cons] at hb
     have e:w64 (s + y.2.1) = s + y.2.1:=by rw [w64_id] <;> omega
     rw [e] at h
     exact ih y.1 (s + y.2.1) (by omega) (by omega) h.2
   exact big r x.1 (s + x.2.1) (by omega) (by omega) hr
theorem zw8 {l:List Knot} {lost all:Int} (h:topB l lost all = true):SA l ∧ Pos 2000 l ∧ l.length ≤ 4 ∧ 0 ≤ lost ∧ lost ≤ 2000 ∧ 0 ≤ all ∧ all ≤ 2000:=by
 have f:=four h
 unfold topB at h
 simp only [Bool.and_eq_true] at h
 have g:=zw7 f.2.2.2.1 f.2.2.2.2 (by omega) (by omega) (by omega) (by omega) (by omega) h.2
 exact ⟨g.2.1,g.2.2,f⟩
theorem zIe {m:Int} {l:List Knot} (hl:l.length < 1000):cntGe m l = ((l.countP fun x => decide (x.2.1 ≥ m)):Nat):=by
 have gen:∀ (l:List Knot) (n:Nat),n + l.length < 1000 → l.foldl (fun (n:Int) x => cond (decide (x.2.1 ≥ m)) (w64 (n + 1)) n) (n:Int) = ((n + l.countP fun x => decide (x.2.1 ≥ m):Nat):Int):=by
  intro l
  induction l with
  | nil => intro n _; rfl
  | cons x l ih =>
   intro n hn
   simp only [List.length_cons] at hn
   rw [List.foldl_cons,List.countP_cons]
   cases hc:decide (x.2.1 ≥ m)
   ·simp only [cond_false]
    rw [ih n (by omega)]; simp
   ·have e:w64 ((n:Int) + 1) = ((n + 1:Nat):Int):=by rw [w64_id] <;> omega
    simp only [cond_true,e]
    rw [ih (n + 1) (by omega)]; simp; omega
 have:=gen l 0 (by omega)
 simpa [cntGe] using this
theorem zqk (p:Knot → Bool):∀ (l:List Knot) (b:Int),(∀ x ∈ l,p x = true → x.2.1 ≤ l.foldl (fun b x => cond (p x) (if x.2.1 > b then x.2.1 else b) b) b) ∧ b ≤ l.foldl (fun b x => cond (p x) (if x.2.1 > b then x.2.1 else b) b) b ∧
  (l.foldl (fun b x => cond (p x) (if x.2.1 > b then x.2.1 else b) b) b = b ∨ ∃ x ∈ l,p x = true ∧ l.foldl (fun b x => cond (p x) (if x.2.1 > b then x.2.1 else b) b) b = x.2.1)
 | [],b => ⟨fun x hx => (by cases hx),Int.le_refl _,.inl rfl⟩
 | y :: l,b => by
  rw [List.foldl_cons]
  obtain ⟨i1,i2,i3⟩:=zqk p l (cond (p y) (if y.2.1 > b then y.2.1 else b) b)
  generalize l.foldl (fun b x => cond (p x) (if x.2.1 > b then x.2.1 else b) b) (cond (p y) (if y.2.1 > b then y.2.1 else b) b) = r at i1 i2 i3
  refine ⟨fun x hx hp => ?_,?_,?_⟩
  ·rcases List.mem_cons.1 hx with rfl | hx
   ·rw [hp,cond_true] at i2
    split at i2 <;> omega
   ·exact i1 x hx hp
  ·cases hp:p y
   ·rw [hp,cond_false] at i2; exact i2
   ·rw [hp,cond_true] at i2; split at i2 <;> omega
  ·rcases i3 with h | ⟨x,hx,h1,h2⟩
   ·cases hp:p y
    ·rw [hp,cond_false] at h; exact .inl h
    ·rw [hp,cond_true] at h
     by_cases hc:y.2.1 > b
     ·rw [if_pos hc] at h; exact .inr ⟨y,List.mem_cons_self ..,hp,h⟩
     ·rw [if_neg hc] at h; exact .inl h
   ·exact .inr ⟨x,List.mem_cons_of_mem _ hx,h1,h2⟩
theorem zw9 {l:List Knot} (hl:l.length < 1000):over3 l = l.foldl (fun b x => cond (decide (4 < l.countP fun y => decide (y.2.1 ≥ x.2.1))) (if x.2.1 > b then x.2.1 else b) b) 0:=by
 unfold over3
 congr 1
 funext b x
 congr 1
 rw [zIe hl]
 exact decide_eq_decide.2 (by omega)
theorem zxa {l:List Knot} (h:l.length ≤ 4):over3 l = 0:=by
 rw [zw9 (by omega)]
 have g:=zqk (fun x => decide (4 < l.countP fun y => decide (y.2.1 ≥ x.2.1))) l 0
 rcases g.2.2 with h' | ⟨x,_,h1,_⟩
 ·exact h'
 ·have:=List.countP_le_length (p:=fun y:Knot => decide (y.2.1 ≥ x.2.1)) (l:=l)
  have:=of_decide_eq_true h1
  omega
theorem fifth {l:List Knot} {m:Int} (hp:Pos m l) {a0 a1 a2 a3 a4:Knot} {r:List Knot} (h:isort kN l = a0 :: a1 :: a2 :: a3 :: a4 :: r) (hl:l.length < 1000) :
  over3 l = a4.2.1 ∧ 5 ≤ (l.countP fun y => decide (y.2.1 ≥ a4.2.1)) ∧ (l.countP fun y => decide (a4.2.1 < y.2.1)) ≤ 4 ∧ 1 ≤ a4.2.1:=by
 have pm:=ziK kN l
 have up:=zw6 kN l
 rw [h] at pm up
 simp only [List.pairwise_cons] at up
 obtain ⟨u0,u1,u2,u3,u4,-⟩:=up
 have m4:a4 ∈ l:=pm.mem_iff.1 (by simp)
 have p4:=hp a4 m4
 have g0:a0.2.1 ≥ a4.2.1:=by have:=u0 a4 (by simp); unfold kN at this; omega
 have g1:a1.2.1 ≥ a4.2.1:=by have:=u1 a4 (by simp); unfold kN at this; omega
 have g2:a2.2.1 ≥ a4.2.1:=by have:=u2 a4 (by simp); unfold kN at this; omega
 have g3:a3.2.1 ≥ a4.2.1:=by have:=u3 a4 (by simp); unfold kN at this; omega
 have gr:∀ y ∈ r,y.2.1 ≤ a4.2.1:=fun y hy => by have:=u4 y hy; unfold kN at this; omega
 have c5:5 ≤ (l.countP fun y => decide (y.2.1 ≥ a4.2.1)):=by
  rw [← pm.countP_eq]
  simp only [List.countP_cons,g0,g1,g2,g3,Int.le_refl,ge_iff_le,decide_true,if_true]
  omega
 have top4:∀ v:Int,a4.2.1 < v → (l.countP fun y => decide (v ≤ y.2.1)) ≤ 4:=fun v hv => by
  rw [← pm.countP_eq]
  have z:(r.countP fun y => decide (v ≤ y.2.1)) = 0:=by
   rw [List.countP_eq_zero]
   intro y hy
   have:=gr y hy
   simp; omega
  have z4:¬ v ≤ a4.2.1:=by omega
  simp only [List.countP_cons,z,z4,decide_false]
  have:∀ b:Bool,(if b = true then 1 else 0) ≤ 1:=fun b => by cases b <;> simp
  have h0:=this (decide (v ≤ a0.2.1))
  have h1:=this (decide (v ≤ a1.2.1))
  have h2:=this (decide (v ≤ a2.2.1))
  have h3:=this (decide (v ≤ a3.2.1))
  simp only [Bool.false_eq_true,if_false]
  omega
 refine ⟨?_,c5,?_,p4.2.2.1⟩
 ·rw [zw9 hl]
  have g:=zqk (fun x => decide (4 < l.countP fun y => decide (y.2.1 ≥ x.2.1))) l 0
  generalize l.foldl (fun b x => cond (decide (4 < l.countP fun y => decide (y.2.1 ≥ x.2.1))) (if x.2.1 > b then x.2.1 else b) b) 0 = w at g
  have lo:=g.1 a4 m4 (decide_eq_true (by omega))
  rcases g.2.2 with h' | ⟨x,_,h1,h2⟩
  ·omega
  ·have h3:4 < l.countP fun y => decide (y.2.1 ≥ x.2.1):=of_decide_eq_true h1
   by_cases hx:a4.2.1 < x.2.1
   ·have h4:(l.countP fun y => decide (y.2.1 ≥ x.2.1)) ≤ 4:=top4 x.2.1 hx
    omega
   ·omega
 ·have:=top4 (a4.2.1 + 1) (by omega)
  exact this
theorem zql:∀ {l:List Knot},Pos 1000000 l → less3 0 l = l
 | [],_ => rfl
 | x :: r,h => by
  have px:=h x (List.mem_cons_self ..)
  have e:w64 (x.2.1 - 0) = x.2.1:=by rw [w64_id] <;> omega
  have c:decide (x.2.1 > 0) = true:=decide_eq_true (by omega)
  unfold less3
  rw [c,e,cond_true,zql fun y hy => h y (List.mem_cons_of_mem _ hy)]
def In2k (l:List Int):Prop:=∀ x ∈ l,0 ≤ x ∧ x ≤ 2000
theorem zxb {l:List Int} (h:In2k l) (hl:l.length ≤ 1000):isum l = l.sum:=by
 have gen:∀ (l:List Int) (s:Int),In2k l → 0 ≤ s → s + 2000 * l.length ≤ 4000000 → l.foldl (fun s x => w64 (s + x)) s = s + l.sum:=by
  intro l
  induction l with
  | nil => intro s _ _ _; simp
  | cons x l ih =>
   intro s h h0 hb
   have hx:=h x (List.mem_cons_self ..)
   simp only [List.length_cons] at hb
   have e:w64 (s + x) = s + x:=by rw [w64_id] <;> omega
   rw [List.foldl_cons,e,ih (s + x) (fun y hy => h y (List.mem_cons_of_mem _ hy)) (by omega) (by omega),List.sum_cons]; omega
 unfold isum
 rw [gen l 0 h (by omega) (by omega)]; omega
theorem sum_set:∀ {l:List Int} {i:Nat} {v:Int},i < l.length → (l.set i v).sum = l.sum - l.getD i 0 + v
 | [],i,v,h => by simp at h
 | x :: l,0,v,_ => by simp [List.sum_cons]; omega
 | x :: l,i + 1,v,h => by
  have:=sum_set (l:=l) (i:=i) (v:=v) (by simpa using h)
  rw [List.set_cons_succ,List.sum_cons,List.sum_cons,this,List.getD_cons_succ]; omega
theorem sum_nn:∀ {l:List Int},(∀ x ∈ l,0 ≤ x) → 0 ≤ l.sum
 | [],_ => by simp
 | x :: l,h => by
  have h1:=h x (List.mem_cons_self ..)
  have h2:=sum_nn fun y hy => h y (List.mem_cons_of_mem _ hy)
  rw [List.sum_cons]; omega
theorem le_sum:∀ {l:List Int},(∀ x ∈ l,0 ≤ x) → ∀ x ∈ l,x ≤ l.sum
 | y :: l,h,x,hx => by
  have h1:=h y (List.mem_cons_self ..)
  have h2:=sum_nn fun z hz => h z (List.mem_cons_of_mem _ hz)
  rw [List.sum_cons]
  rcases List.mem_cons.1 hx with rfl | hx
  ·omega
  ·have:=le_sum (fun z hz => h z (List.mem_cons_of_mem _ hz)) x hx; omega
theorem zIf {l:List Int} {i:Nat} (h:i < l.length):l.getD i 0 ∈ l:=by
 rw [List.getD_eq_getElem?_getD,List.getElem?_eq_getElem h]; exact List.getElem_mem h
theorem zIg {l:List Int} {i j:Nat} {x:Int} (h:i < l.length):(l.set i x).getD j 0 = if i = j then x else l.getD j 0:=by
 rw [List.getD_eq_getElem?_getD,List.getElem?_set]
 split
 ·simp [h]
 ·rw [List.getD_eq_getElem?_getD]
theorem rowB_of {l:List Int} (h8:l.length = 8) (hn:∀ x ∈ l,0 ≤ x) (hs:l.sum ≤ 2000):rowB l = true ∧ isum l = l.sum:=by
 have h2:In2k l:=fun x hx => ⟨hn x hx,by have:=le_sum hn x hx; omega⟩
 have e:=zxb h2 (by omega)
 refine ⟨?_,e⟩
 unfold rowB
 simp only [h8,e,hs,decide_true,Bool.true_and,Bool.and_true,List.all_eq_true]
 intro x hx
 exact decide_eq_true (h2 x hx)
theorem zxc {l:List Int} (h:rowB l = true):l.length = 8 ∧ In2k l ∧ isum l = l.sum ∧ 0 ≤ l.sum ∧ l.sum ≤ 2000:=by
 have h8:=row_len h
 have h2:In2k l:=row_all h
 have e:=zxb h2 (by omega)
 refine ⟨h8,h2,e,sum_nn fun x hx => (h2 x hx).1,?_⟩
 unfold rowB at h
 simp only [Bool.and_eq_true,decide_eq_true_eq] at h
 omega
theorem zqm {a:List Int} {i:Nat} {n:Int} (h:rowB a = true) (hi:i < 8) (h0:0 ≤ n) (hs:isum a + n ≤ 2000) :
  rowB (add1 a i n) = true ∧ isum (add1 a i n) = isum a + n ∧ ∀ j,(add1 a i n).getD j 0 = a.getD j 0 + if i = j then n else 0:=by
 obtain ⟨h8,h2,e,s0,s1⟩:=zxc h
 have hil:i < a.length:=by omega
 have hx:=h2 _ (zIf hil)
 have ew:w64 (a.getD i 0 + n) = a.getD i 0 + n:=by rw [w64_id] <;> omega
 have es:(add1 a i n).sum = a.sum + n:=by
  unfold add1
  rw [sum_set hil,ew]; omega
 have r:=rowB_of (l:=add1 a i n) (by unfold add1; rw [List.length_set]; exact h8) (fun x hx' => by
  unfold add1 at hx'
  rw [ew] at hx'
  rcases List.mem_or_eq_of_mem_set hx' with h' | h'
  ·exact (h2 x h').1
  ·omega) (by omega)
 refine ⟨r.1,by rw [r.2,es,e],fun j => ?_⟩
 unfold add1
 rw [zIg hil,ew]
 split
 ·rename_i h; subst h; rfl
 ·omega
theorem zIh {a b c:List Int} (ha:rowB a = true) (hb:rowB b = true) (hc:rowB c = true) (h1:isum b = isum a) (h2:isum c = isum a):roughB [a,b,c] = true:=by
 unfold roughB
 simp [ha,hb,hc,h1,h2]
theorem allR_eq {rs:List (List Int)} (h:roughB rs = true):allR rs = isum (rs.getD 0 []):=by unfold allR; rw [h]; rfl
def cell (rs:List (List Int)) (i j:Nat):Int:=(rs.getD i []).getD j 0
theorem zxd {rs:List (List Int)} {t n:Int} (h:roughB rs = true) (ht:thingB t = true) (h0:0 ≤ n) (hs:allR rs + n ≤ 2000) :
  (roughAdd rs t n).2 = true ∧ roughB (roughAdd rs t n).1 = true ∧ allR (roughAdd rs t n).1 = allR rs + n ∧ ∀ i,i < 3 → ∀ j,cell (roughAdd rs t n).1 i j = cell rs i j + if pl i t = j then n else 0:=by
 rw [allR_eq h] at hs ⊢
 obtain ⟨a,b,c,rfl,ha,hb,hc,e1,e2⟩:=zmB h
 rw [List.getD_cons_zero] at hs ⊢
 have sa:=zxc ha
 have ew:w64 (2000 - isum a) = 2000 - isum a:=by rw [w64_id] <;> omega
 have cn:0 ≤ n ∧ n ≤ w64 (2000 - isum a):=by rw [ew]; omega
 obtain ⟨a1,a2,a3⟩:=zqm ha (pl_lt 0 t) h0 hs
 obtain ⟨b1,b2,b3⟩:=zqm hb (pl_lt 1 t) h0 (by omega)
 obtain ⟨c1,c2,c3⟩:=zqm hc (pl_lt 2 t) h0 (by omega)
 have er:roughAdd [a,b,c] t n = ([add1 a (pl 0 t) n,add1 b (pl 1 t) n,add1 c (pl 2 t) n],true):=by
  unfold roughAdd
  simp only [h,ht,List.getD_cons_zero,cn,and_self,decide_true,Bool.and_self,cond_true]
  rfl
 rw [er]
 have hB:=zIh a1 b1 c1 (by omega) (by omega)
 refine ⟨rfl,hB,by rw [allR_eq hB]; exact a2,fun i hi j => ?_⟩
 match i,hi with
 | 0,_ => exact a3 j
 | 1,_ => exact b3 j
 | 2,_ => exact c3 j
def sumN:List Knot → Int
 | [] => 0
 | x :: r => x.2.1 + sumN r
theorem sumN_nn {m:Int}:∀ {l:List Knot},Pos m l → 0 ≤ sumN l
 | [],_ => Int.le_refl 0
 | x :: r,h => by
  have h1:=h x (List.mem_cons_self ..)
  have h2:=sumN_nn (l:=r) fun y hy => h y (List.mem_cons_of_mem _ hy)
  show 0 ≤ x.2.1 + sumN r; omega
theorem zxe {all:Int}:∀ {l:List Knot} {p s:Int},0 ≤ s → s + 2000 * l.length ≤ 1000000 → topGo all l p s = true → s + sumN l ≤ all
 | [],p,s,_,_,h => by simp only [topGo,decide_eq_true_eq] at h; simp only [sumN]; omega
 | x :: r,p,s,h0,hb,h => by
  simp only [topGo,Bool.and_eq_true,decide_eq_true_eq] at h
  simp only [List.length_cons] at hb
  have e:w64 (s + x.2.1) = s + x.2.1:=by rw [w64_id] <;> omega
  rw [e] at h
  have:=zxe (l:=r) (by omega) (by omega) h.2
  simp only [sumN]; omega
theorem zxf {all m:Int} (ha:all ≤ 2000):∀ {l:List Knot} {p s:Int},0 ≤ s → SA l → Pos m l → (∀ x ∈ l,p < x.1) → s + sumN l ≤ all → topGo all l p s = true
 | [],p,s,_,_,_,_,h => by simp only [topGo,decide_eq_true_eq]; simp only [sumN] at h; omega
 | x :: r,p,s,h0,hs,hp,hx,h => by
  have hs':=List.pairwise_cons.1 hs
  have px:=hp x (List.mem_cons_self ..)
  have pr:Pos m r:=fun y hy => hp y (List.mem_cons_of_mem _ hy)
  have nn:=sumN_nn pr
  simp only [sumN] at h
  have e:w64 (s + x.2.1) = s + x.2.1:=by rw [w64_id] <;> omega
  simp only [topGo,Bool.and_eq_true,decide_eq_true_eq,e]
  exact ⟨⟨hx x (List.mem_cons_self ..),px.2.1,px.2.2.1,by omega⟩,zxf ha (by omega) hs'.2 pr hs'.1 (by omega)⟩
theorem zIi {l:List Knot} {lost all:Int} (h:topB l lost all = true):sumN l + 5 * lost ≤ all:=by
 have f:=four h
 unfold topB at h
 simp only [Bool.and_eq_true] at h
 have:=zxe (by omega) (by omega) h.2
 omega
theorem topB_mk {l:List Knot} {lost all m:Int} (hs:SA l) (hp:Pos m l) (h4:l.length ≤ 4) (h0:0 ≤ lost) (ha0:0 ≤ all) (ha:all ≤ 2000) (h:sumN l + 5 * lost ≤ all):topB l lost all = true:=by
 have nn:=sumN_nn hp
 unfold topB
 simp only [Bool.and_eq_true,decide_eq_true_eq]
 exact ⟨⟨h4,h0,by omega,ha0,ha⟩,zxf ha (by omega) hs hp (fun x hx => by have:=hp x hx; omega) (by omega)⟩
theorem zxg {t n:Int}:∀ {l:List Knot} {m:Int},Pos m l → 0 ≤ n → n ≤ 1000000 → m ≤ 1000000 → sumN (putP t n l false) = sumN l + n
 | [],m,_,_,_,_ => by show n + 0 = 0 + n; omega
 | x :: r,m,hp,h0,h1,hm => by
  have px:=hp x (List.mem_cons_self ..)
  unfold putP
  simp only [zqi,Bool.not_false,Bool.true_and]
  cases hc:decide (x.1 ≥ t)
  ·simp only [cond_false]
   show x.2.1 + sumN (putP t n r false) = x.2.1 + sumN r + n
   rw [zxg (fun y hy => hp y (List.mem_cons_of_mem _ hy)) h0 h1 hm]; omega
  ·simp only [cond_true]
   cases hd:(x.1 == t)
   ·simp only [cond_false]
    show n + (x.2.1 + sumN r) = x.2.1 + sumN r + n
    omega
   ·have e:w64 (n + x.2.1) = n + x.2.1:=by rw [w64_id] <;> omega
    simp only [cond_true,e]
    show n + x.2.1 + sumN r = x.2.1 + sumN r + n
    omega
theorem zxh {m M:Int} (h0:0 ≤ m) (h1:m ≤ 1000000) (hM:M ≤ 1000000):∀ {l:List Knot},SA l → Pos M l → SA (less3 m l) ∧ Pos M (less3 m l) ∧ (∀ x ∈ less3 m l,∃ y ∈ l,y.1 = x.1) ∧
  sumN (less3 m l) + m * (l.countP fun y => decide (y.2.1 ≥ m)) ≤ sumN l ∧ (less3 m l).length = (l.countP fun y => decide (m < y.2.1)) ∧
  ∀ k,cntK (less3 m l) k ≤ cntK l k ∧ cntK l k ≤ cntK (less3 m l) k + m
 | [],hs,hp => ⟨hs,hp,fun x hx => by simp [less3] at hx,by simp [less3,sumN],rfl,fun k => by simp [less3,cntK]; omega⟩
 | x :: r,hs,hp => by
  have hs':=List.pairwise_cons.1 hs
  have px:=hp x (List.mem_cons_self ..)
  obtain ⟨i1,i2,i3,i4,i5,i6⟩:=zxh h0 h1 hM hs'.2 (fun y hy => hp y (List.mem_cons_of_mem _ hy))
  have e:w64 (x.2.1 - m) = x.2.1 - m:=by
   rw [w64_id] <;> omega
  unfold less3
  rw [e]
  by_cases hc:x.2.1 > m
  ·have hg:x.2.1 ≥ m:=by omega
   simp only [hc,decide_true,cond_true,List.countP_cons,hg,gt_iff_lt.1 hc,if_true]
   refine ⟨List.pairwise_cons.2 ⟨fun y hy => ?_,i1⟩,fun y hy => ?_,fun y hy => ?_,?_,?_,fun k => ?_⟩
   ·obtain ⟨z,hz,hzy⟩:=i3 y hy
    have:=hs'.1 z hz
    show x.1 < y.1; omega
   ·rcases List.mem_cons.1 hy with rfl | hy
    ·exact ⟨px.1,px.2.1,by show 1 ≤ x.2.1 - m; omega,by show x.2.1 - m ≤ M; omega⟩
    ·exact i2 y hy
   ·rcases List.mem_cons.1 hy with rfl | hy
    ·exact ⟨x,List.mem_cons_self ..,rfl⟩
    ·obtain ⟨z,hz,hzy⟩:=i3 y hy
     exact ⟨z,List.mem_cons_of_mem _ hz,hzy⟩
   ·show x.2.1 - m + sumN (less3 m r) + m * (((r.countP fun y => decide (y.2.1 ≥ m)) + 1:Nat):Int) ≤ x.2.1 + sumN r
    rw [Int.natCast_add,Int.mul_add]
    omega
   ·rw [List.length_cons,i5]
   ·have:=i6 k
    show (if x.1 = k then x.2.1 - m else 0) + cntK (less3 m r) k ≤ (if x.1 = k then x.2.1 else 0) + cntK r k ∧ (if x.1 = k then x.2.1 else 0) + cntK r k ≤ (if x.1 = k then x.2.1 - m else 0) + cntK (less3 m r) k + m
    by_cases hk:x.1 = k
    ·have c0:cntK r k = 0:=zeS fun y hy => by have:=hs'.1 y hy; omega
     have c1:cntK (less3 m r) k = 0:=zeS fun y hy => by
      obtain ⟨z,hz,hzy⟩:=i3 y hy
      have:=hs'.1 z hz; omega
     rw [if_pos hk,if_pos hk,c0,c1]; omega
    ·rw [if_neg hk,if_neg hk]; omega
  ·have hn:¬ m < x.2.1:=hc
   simp only [hc,decide_false,cond_false,List.countP_cons,hn,Bool.false_eq_true,if_false]
   refine ⟨i1,i2,fun y hy => ?_,?_,by omega,fun k => ?_⟩
   ·obtain ⟨z,hz,hzy⟩:=i3 y hy
    exact ⟨z,List.mem_cons_of_mem _ hz,hzy⟩
   ·show sumN (less3 m r) + m * (((r.countP fun y => decide (y.2.1 ≥ m)) + (if decide (x.2.1 ≥ m) = true then 1 else 0):Nat):Int) ≤ x.2.1 + sumN r
    by_cases hg:x.2.1 ≥ m
    ·simp only [hg,decide_true,if_true]
     rw [Int.natCast_add,Int.mul_add]
     omega
    ·simp only [hg,decide_false,Bool.false_eq_true,if_false,Nat.add_zero]
     omega
   ·have:=i6 k
    show cntK (less3 m r) k ≤ (if x.1 = k then x.2.1 else 0) + cntK r k ∧ (if x.1 = k then x.2.1 else 0) + cntK r k ≤ cntK (less3 m r) k + m
    by_cases hk:x.1 = k
    ·have c0:cntK r k = 0:=zeS fun y hy => by have:=hs'.1 y hy; omega
     have c1:cntK (less3 m r) k = 0:=zeS fun y hy => by
      obtain ⟨z,hz,hzy⟩:=i3 y hy
      have:=hs'.1 z hz; omega
     rw [if_pos hk,c0,c1]; omega
    ·rw [if_neg hk]; omega
theorem cut3_ok {l:List Knot} {lost all m:Int} (hs:SA l) (hp:Pos m l) (hm:m ≤ 1000000) (hl:l.length < 13) (h0:0 ≤ lost) (ha0:0 ≤ all) (ha:all ≤ 2000) (hsum:sumN l + 5 * lost ≤ all) :
  topB (cut3 l lost all).1 (cut3 l lost all).2.1 (cut3 l lost all).2.2.1 = true ∧ (cut3 l lost all).2.2.1 = all ∧ lost ≤ (cut3 l lost all).2.1 ∧
  ∀ k,cntK (cut3 l lost all).1 k ≤ cntK l k ∧ cntK l k + lost ≤ cntK (cut3 l lost all).1 k + (cut3 l lost all).2.1:=by
 have hp1:Pos 1000000 l:=hp.mono hm
 have nn:=sumN_nn hp
 by_cases h:l.length ≤ 4
 ·have e:cut3 l lost all = (l,lost,all,()):=by
   have ew:w64 (lost + 0) = lost:=by rw [w64_id] <;> omega
   unfold cut3
   rw [zxa h,zql hp1,ew]
  rw [e]
  exact ⟨topB_mk hs hp h h0 ha0 ha hsum,rfl,Int.le_refl _,fun k => ⟨Int.le_refl _,Int.le_refl _⟩⟩
 ·have hsl:=zqh kN l
  obtain ⟨a0,a1,a2,a3,a4,r,hr⟩:∃ a0 a1 a2 a3 a4 r,isort kN l = a0 :: a1 :: a2 :: a3 :: a4 :: r:=by
   match hq:isort kN l with
   | [] | [_] | [_,_] | [_,_,_] | [_,_,_,_] => rw [hq] at hsl; simp at hsl; omega
   | a0 :: a1 :: a2 :: a3 :: a4 :: r => exact ⟨a0,a1,a2,a3,a4,r,rfl⟩
  obtain ⟨f1,f2,f3,f4⟩:=fifth hp hr (by omega)
  obtain ⟨i1,i2,-,i4,i5,i6⟩:=zxh (m:=a4.2.1) (by omega) (by have:=hp a4 ((ziK kN l).mem_iff.1 (by rw [hr]; simp)); omega) hm hs hp
  have mul:a4.2.1 * 5 ≤ a4.2.1 * ((l.countP fun y => decide (y.2.1 ≥ a4.2.1):Nat):Int):=Int.mul_le_mul_of_nonneg_left (by omega) (by omega)
  have nn2:=sumN_nn i2
  have ew:w64 (lost + a4.2.1) = lost + a4.2.1:=by rw [w64_id] <;> omega
  have e:cut3 l lost all = (less3 a4.2.1 l,lost + a4.2.1,all,()):=by
   unfold cut3
   rw [f1,ew]
  rw [e]
  refine ⟨topB_mk i1 i2 (by rw [i5]; omega) (by show 0 ≤ lost + a4.2.1; omega) ha0 ha (by show sumN (less3 a4.2.1 l) + 5 * (lost + a4.2.1) ≤ all; omega),rfl,by show lost ≤ lost + a4.2.1; omega,fun k => ?_⟩
  have:=i6 k
  show cntK (less3 a4.2.1 l) k ≤ cntK l k ∧ cntK l k + lost ≤ cntK (less3 a4.2.1 l) k + (lost + a4.2.1)
  omega
theorem zxi {ps:List Knot} {lost all t:Int} (h:topB ps lost all = true) (ht:thingB t = true) (ha:all < 2000) :
  (topAdd ps lost all t).2 = true ∧ topB (topAdd ps lost all t).1.1 (topAdd ps lost all t).1.2.1 (topAdd ps lost all t).1.2.2.1 = true ∧ (topAdd ps lost all t).1.2.2.1 = all + 1 ∧ lost ≤ (topAdd ps lost all t).1.2.1 ∧
  ∀ k,cntK (topAdd ps lost all t).1.1 k ≤ cntK ps k + (if t = k then 1 else 0) ∧ cntK ps k + (if t = k then 1 else 0) + lost ≤ cntK (topAdd ps lost all t).1.1 k + (topAdd ps lost all t).1.2.1:=by
 obtain ⟨hs,hp,h4,l0,l1,a0,a1⟩:=zw8 h
 have hsum:=zIi h
 have tt:=zeP ht
 have ew:w64 (all + 1) = all + 1:=by rw [w64_id] <;> omega
 obtain ⟨i1,i2,-,i4⟩:=zqj (m:=2000) (t:=t) (n:=1) (p:=-1) tt (by omega) (by omega) (by omega) hs hp (by omega) (fun y hy => by have:=hp y hy; omega)
 have il:=zeQ t 1 ps false
 have is:=zxg (t:=t) (n:=1) hp (by omega) (by omega) (by omega)
 have e:topAdd ps lost all t = (cut3 (putP t 1 ps false) lost (all + 1),true):=by
  unfold topAdd
  simp only [h,ht,ha,decide_true,Bool.and_self,cond_true,ew]
 rw [e]
 obtain ⟨c1,c2,c3,c4⟩:=cut3_ok i1 i2 (by omega) (by omega) l0 (by omega) (by omega:all + 1 ≤ 2000) (by omega)
 exact ⟨rfl,c1,c2,c3,fun k => by have:=c4 k; rw [i4 k] at this; exact this⟩
theorem zxj {ks:List Knot} {all t:Int} (h:okB ks all = true) (ht:thingB t = true) (ha:all < 2000) :
  (rankAdd ks all t).2 = true ∧ okB (rankAdd ks all t).1.1 (rankAdd ks all t).1.2.1 = true ∧ (rankAdd ks all t).1.2.1 = all + 1 ∧
  ∀ i,ksum (plo i) (rankAdd ks all t).1.1 ≤ ksum (plo i) ks + (if t ≤ i then 1 else 0) ∧ ksum (phi i) ks + (if t ≤ i then 1 else 0) ≤ ksum (phi i) (rankAdd ks all t).1.1:=by
 have tt:=zeP ht
 have hB:addB ks all t = true:=by
  unfold addB
  simp only [Bool.and_eq_true,decide_eq_true_eq]
  exact ⟨h,tt.1,tt.2,ha⟩
 obtain ⟨e1,e2⟩:=zwG hB
 have fa:=zH7 h
 obtain ⟨g1,g2,g3,g4,g5⟩:=zIb tt.1 tt.2
 obtain ⟨s1,s2,s3⟩:=zH8 (ka:=ks) (kb:=[(64 + t,1,())]) (alla:=all) (allb:=1) fa g1 g2 (by omega) g3 (by omega)
 have e:rankAdd ks all t = ((sumK ks [(64 + t,1,())] (all + 1),all + 1,()),true):=by
  unfold rankAdd
  rw [hB,cond_true,e1,e2]
 rw [e]
 have lo:=fun i => s2 (plo i) (zH9 i)
 have hi:=fun i => s3 (phi i) (zIa i)
 simp only [g4,g5] at lo hi
 generalize sumK ks [(64 + t,1,())] (all + 1) = K at s1 lo hi
 exact ⟨rfl,s1,rfl,fun i => ⟨lo i,hi i⟩⟩
theorem zIj {p:Int → Bool}:0 < (fst6 p).length ↔ ∃ k,0 ≤ k ∧ k < 64 ∧ p k = true:=by
 unfold fst6
 rw [List.length_take]
 constructor
 ·intro h
  have h':0 < (ascN p 64 0).length:=by omega
  obtain ⟨k,hk⟩:=List.exists_mem_of_length_pos h'
  have:=ziI.1 hk
  exact ⟨k,this.1,by omega,this.2.2⟩
 ·rintro ⟨k,h0,h1,hp⟩
  have:k ∈ ascN p 64 0:=ziI.2 ⟨h0,by omega,hp⟩
  have:=List.length_pos_of_mem this
  omega
theorem zxk {p:Int → Bool} {t:Int} (ht:thingB t = true):fewAdd (fst6 p) t = (fst6 (fun k => p k || k == mark t),true):=by
 unfold fewAdd
 have m:=zqg ht
 rw [zmG,ht,Bool.and_self,cond_true,zId p m.1 m.2]
theorem zxl {l:List Int} {t:Int} (h:fewB l = true) (ht:thingB t = true):(fewAdd l t).2 = true ∧ fewB (fewAdd l t).1 = true ∧ 0 < (fewAdd l t).1.length:=by
 rw [zwY h,zxk ht]
 have m:=zqg ht
 exact ⟨rfl,zmG _,zIj.2 ⟨mark t,m.1,by omega,by simp⟩⟩
theorem zIk {p q:Int → Bool} (h:∀ k,0 ≤ k → k < 64 → p k = q k):fst6 p = fst6 q:=by
 unfold fst6
 rw [zqc fun k h1 h2 => h k h1 (by omega)]
structure Form (s:SumD):Prop where
 rough:roughB s.1 = true
 few:fewB s.2.1 = true
 top:topB s.2.2.1 s.2.2.2.1 s.2.2.2.2.1 = true
 rank:okB s.2.2.2.2.2.1 s.2.2.2.2.2.2.1 = true
 all:allR s.1 = s.2.2.2.2.1
 same:s.2.2.2.2.1 = s.2.2.2.2.2.2.1
 some:0 < s.2.1.length ↔ 0 < s.2.2.2.2.1
theorem zqn {s:SumD}:sumBD s = true ↔ Form s:=by
 unfold sumBD sumB
 simp only [Bool.and_eq_true,beq_iff_eq]
 constructor
 ·rintro ⟨h1,h2,h3,h4,h5,h6,h7⟩
  have h8:=decide_eq_decide.1 h7
  exact ⟨h1,h2,h3,h4,h5,h6,by omega⟩
 ·rintro ⟨h1,h2,h3,h4,h5,h6,h7⟩
  exact ⟨h1,h2,h3,h4,h5,h6,decide_eq_decide.2 (by omega)⟩
theorem Form.all_rng {s:SumD} (h:Form s):0 ≤ s.2.2.2.2.1 ∧ s.2.2.2.2.1 ≤ 2000:=(four h.top).2.2.2
theorem zIl:Form sumNew:=zqn.1 zH6
abbrev pt (s:SumD):List Knot:=s.2.2.1
abbrev ptLost (s:SumD):Int:=s.2.2.2.1
abbrev allOf (s:SumD):Int:=s.2.2.2.2.1
abbrev kn (s:SumD):List Knot:=s.2.2.2.2.2.1
theorem zIm {s:SumD} {t:Int} (h:Form s) (ht:thingB t = true) (ha:allOf s < 2000) :
  (sumAdd s t).2 = true ∧ Form (sumAdd s t).1 ∧ allOf (sumAdd s t).1 = allOf s + 1 ∧ (sumAdd s t).1.1 = (roughAdd s.1 t 1).1 ∧ (sumAdd s t).1.2.1 = (fewAdd s.2.1 t).1 ∧
  (∀ i,i < 3 → ∀ j,cell (sumAdd s t).1.1 i j = cell s.1 i j + if pl i t = j then 1 else 0) ∧ ptLost s ≤ ptLost (sumAdd s t).1 ∧
  (∀ k,cntK (pt (sumAdd s t).1) k ≤ cntK (pt s) k + (if t = k then 1 else 0) ∧ cntK (pt s) k + (if t = k then 1 else 0) + ptLost s ≤ cntK (pt (sumAdd s t).1) k + ptLost (sumAdd s t).1) ∧
  ∀ i,ksum (plo i) (kn (sumAdd s t).1) ≤ ksum (plo i) (kn s) + (if t ≤ i then 1 else 0) ∧ ksum (phi i) (kn s) + (if t ≤ i then 1 else 0) ≤ ksum (phi i) (kn (sumAdd s t).1):=by
 have hr:=h.all_rng
 have ha':s.2.2.2.2.1 < 2000:=ha
 have r:=zxd (n:=1) h.rough ht (by omega) (by have:=h.all; show allR s.1 + 1 ≤ 2000; omega)
 have m:=zxl h.few ht
 have p:=zxi h.top ht ha
 have k:=zxj h.rank ht (by have:=h.same; omega)
 have hB:=zqn.2 h
 have e:sumAdd s t = (((roughAdd s.1 t 1).1,(fewAdd s.2.1 t).1,(topAdd s.2.2.1 s.2.2.2.1 s.2.2.2.2.1 t).1.1,(topAdd s.2.2.1 s.2.2.2.1 s.2.2.2.2.1 t).1.2.1,(topAdd s.2.2.1 s.2.2.2.1 s.2.2.2.2.1 t).1.2.2.1,(rankAdd s.2.2.2.2.2.1 s.2.2.2.2.2.2.1 t).1.1,(rankAdd s.2.2.2.2.2.1 s.2.2.2.2.2.2.1 t).1.2.1,()),true):=by
  unfold sumAdd
  simp only [hB,ht,show s.2.2.2.2.1 < 2000 from ha,decide_true,Bool.and_self,cond_true]
 rw [e]
 refine ⟨rfl,⟨r.2.1,m.2.1,p.2.1,k.2.1,?_,?_,?_⟩,p.2.2.1,rfl,rfl,r.2.2.2,p.2.2.2.1,p.2.2.2.2,k.2.2.2⟩
 ·show allR (roughAdd s.1 t 1).1 = (topAdd s.2.2.1 s.2.2.2.1 s.2.2.2.2.1 t).1.2.2.1
  rw [r.2.2.1,p.2.2.1,h.all]
 ·show (topAdd s.2.2.1 s.2.2.2.1 s.2.2.2.2.1 t).1.2.2.1 = (rankAdd s.2.2.2.2.2.1 s.2.2.2.2.2.2.1 t).1.2.1
  rw [p.2.2.1,k.2.2.1,h.same]
 ·show 0 < (fewAdd s.2.1 t).1.length ↔ 0 < (topAdd s.2.2.1 s.2.2.2.1 s.2.2.2.2.1 t).1.2.2.1
  rw [p.2.2.1]
  exact ⟨fun _ => (by omega),fun _ => m.2.2⟩
theorem zqo {s:SumD} {t:Int} (h:(sumBD s && (thingB t && decide (allOf s < 2000))) = false):sumAdd s t = (noSum,false):=by
 unfold sumAdd
 rw [show (sumBD s && (thingB t && decide (s.2.2.2.2.1 < 2000))) = false from h]; rfl
structure Tells (l:List Int) (s:SumD):Prop where
 form:Form s
 things:∀ t ∈ l,thingB t = true
 all:allOf s = (l.length:Int)
 rough:∀ i,i < 3 → ∀ j,cell s.1 i j = ((l.countP fun t => pl i t == j:Nat):Int)
 few:s.2.1 = fst6 fun k => l.any fun t => mark t == k
 top:∀ k,cntK (pt s) k ≤ ((l.count k:Nat):Int) ∧ ((l.count k:Nat):Int) ≤ cntK (pt s) k + ptLost s
 rank:∀ i,ksum (plo i) (kn s) ≤ ((l.countP fun t => decide (t ≤ i):Nat):Int) ∧ ((l.countP fun t => decide (t ≤ i):Nat):Int) ≤ ksum (phi i) (kn s)
theorem rep8 (j:Nat):(List.replicate 8 (0:Int)).getD j 0 = 0:=by
 rw [List.getD_eq_getElem?_getD,List.getElem?_replicate]
 split <;> rfl
theorem zxm:Tells [] sumNew where
 form:=zIl
 things:=fun t ht => by cases ht
 all:=rfl
 rough:=fun i hi j => by
  match i,hi with
  | 0,_ => exact rep8 j
  | 1,_ => exact rep8 j
  | 2,_ => exact rep8 j
 few:=by decide
 top:=fun k => ⟨Int.le_refl _,Int.le_refl _⟩
 rank:=fun i => ⟨Int.le_refl _,Int.le_refl _⟩
theorem zxn {l:List Int} {s:SumD} {t:Int} (h:Tells l s) (ht:thingB t = true) (hl:l.length < 2000):(sumAdd s t).2 = true ∧ Tells (l ++ [t]) (sumAdd s t).1:=by
 have ha:allOf s < 2000:=by rw [h.all]; omega
 obtain ⟨h1,h2,h3,h4,h5,h6,h7,h8,h9⟩:=zIm h.form ht ha
 refine ⟨h1,h2,fun x hx => ?_,?_,fun i hi j => ?_,?_,fun k => ?_,fun i => ?_⟩
 ·rcases List.mem_append.1 hx with hx | hx
  ·exact h.things x hx
  ·rcases List.mem_singleton.1 hx with rfl; exact ht
 ·rw [h3,h.all,List.length_append,List.length_singleton]; omega
 ·rw [h6 i hi j,h.rough i hi j,List.countP_append,List.countP_singleton]
  cases hc:pl i t == j
  ·have:¬ pl i t = j:=by simpa using hc
   simp [this]
  ·have:pl i t = j:=by simpa using hc
   simp [this]
 ·rw [h5,h.few,zxk ht]
  refine zIk fun k _ _ => ?_
  have:(k == mark t) = (mark t == k):=by rw [Bool.eq_iff_iff]; simp only [beq_iff_eq]; exact ⟨Eq.symm,Eq.symm⟩
  simp only [List.any_append,List.any_cons,List.any_nil,Bool.or_false,this]
 ·have g1:=h.top k
  have g2:=h8 k
  rw [List.count_append,List.count_singleton]
  by_cases hk:t = k
  ·subst hk
   simp only [if_true,beq_self_eq_true] at g2 ⊢
   omega
  ·have e:(t == k) = false:=by simpa using hk
   simp only [hk,e,if_false,Bool.false_eq_true] at g2 ⊢
   omega
 ·have g1:=h.rank i
  have g2:=h9 i
  rw [List.countP_append,List.countP_singleton]
  by_cases hk:t ≤ i
  ·simp only [hk,if_true,decide_true] at g2 ⊢
   omega
  ·simp only [hk,if_false,decide_false,Bool.false_eq_true] at g2 ⊢
   omega
theorem zxo:∀ (r l:List Int) (s:SumD),Tells l s → (sumOfGo r s).2 = true → Tells (l ++ r) (sumOfGo r s).1
 | [],l,s,h,_ => by rw [List.append_nil]; exact h
 | t :: r,l,s,h,h2 => by
  unfold sumOfGo at h2 ⊢
  cases ha:(sumAdd s t).2 with
  | false => rw [ha] at h2; cases h2
  | true =>
   rw [ha,cond_true] at h2
   simp only [cond_true]
   have hc:(sumBD s && (thingB t && decide (allOf s < 2000))) = true:=by
    cases hc:(sumBD s && (thingB t && decide (allOf s < 2000)))
    ·rw [zqo hc] at ha; cases ha
    ·rfl
   simp only [Bool.and_eq_true,decide_eq_true_eq] at hc
   have hl:l.length < 2000:=by have:=h.all; have:=hc.2.2; omega
   have:=zxo r (l ++ [t]) _ (zxn h hc.2.1 hl).2 h2
   rw [List.append_assoc] at this
   exact this
theorem zxp {l:List Int} (h:(sumOf l).2 = true):Tells l (sumOf l).1:=zxo l [] sumNew zxm h
theorem zxq:∀ (r l:List Int) (s:SumD),Tells l s → (∀ t ∈ r,thingB t = true) → l.length + r.length ≤ 2000 → (sumOfGo r s).2 = true
 | [],l,s,h,_,_ => rfl
 | t :: r,l,s,h,h2,hl => by
  simp only [List.length_cons] at hl
  have a:=zxn h (h2 t (List.mem_cons_self ..)) (by omega)
  unfold sumOfGo
  rw [a.1,cond_true]
  exact zxq r (l ++ [t]) _ a.2 (fun x hx => h2 x (List.mem_cons_of_mem _ hx)) (by rw [List.length_append,List.length_singleton]; omega)
theorem ziL {l:List Int} (h:∀ t ∈ l,thingB t = true) (hl:l.length ≤ 2000):(sumOf l).2 = true:=zxq l [] sumNew zxm h (by simpa using hl)
end Go.Proofs.YtljojacnjjgceaaGreat.Den
namespace Go.Proofs.YtljojacnjjgceaaGreat.Den
open Go Go.RowKit
theorem lim_of {n:Nat} (h:n ≤ 1048576):n < LIM:=by unfold LIM; omega
def szK:(K:Kd) → K.T → Nat
 | .int _,_ => 0
 | .bool,_ => 0
 | .unit,_ => 0
 | .pair a b,x => szK a x.1 + szK b x.2
 | .list e,xs => xs.length + (xs.map (szK e)).sum
theorem zqp:∀ {K:Kd} {x:K.T},K.noList = true → szK K x = 0
 | .int _,_,_ => rfl
 | .bool,_,_ => rfl
 | .unit,_,_ => rfl
 | .pair a b,x,h => by
  simp only [Kd.noList,Bool.and_eq_true] at h
  simp [szK,zqp h.1,zqp h.2]
theorem zxr {e:Kd} (h:e.noList = true):∀ (xs:List e.T),szK (.list e) xs = xs.length
 | [] => rfl
 | x :: xs => by
  have:=zxr h xs
  simp only [szK,List.map_cons,List.sum_cons,List.length_cons,zqp h] at this ⊢
  omega
theorem sum_mem {α:Type} {f:α → Nat}:∀ {xs:List α} {x:α},x ∈ xs → f x ≤ (xs.map f).sum
 | y :: xs,x,h => by
  simp only [List.map_cons,List.sum_cons]
  rcases List.mem_cons.1 h with rfl | h
  ·omega
  ·have:=sum_mem (f:=f) h; omega
theorem szK_mem {e:Kd} {xs:List e.T} {x:e.T} (h:x ∈ xs):szK e x + xs.length ≤ szK (.list e) xs:=by
 have:=sum_mem (f:=szK e) h
 simp only [szK]; omega
theorem szK_len {e:Kd} {xs:List e.T}:xs.length ≤ szK (.list e) xs:=by simp only [szK]; omega
abbrev IU:=Option ((Int × Unit) × Unit)
def szR (n:Nat) (left:Int):Int:=if (n:Int) ≤ left then left - n else -1
theorem szR_yes {n:Nat} {left:Int} (h:(n:Int) ≤ left):szR n left = left - n:=if_pos h
theorem szR_no {n:Nat} {left:Int} (h:¬ (n:Int) ≤ left):szR n left = -1:=if_neg h
theorem szBind {F:IU} {G:((Int × Unit) × Unit) → IU} {n m:Nat} {left:Int} (hF:F = some ((szR n left,()),())) (k:0 ≤ left - n → G ((left - n,()),()) = some ((szR m (left - n),()),())) :
  (F.bind fun y => cond (decide (y.1.1 < (0:Int))) (some (((-1:Int),()),())) (G y)) = some ((szR (n + m) left,()),()):=by
 rw [hF,Option.bind_some]
 by_cases h:(n:Int) ≤ left
 ·rw [szR_yes h,decide_eq_false (by simp; omega),cond_false,k (by omega)]
  by_cases h2:(m:Int) ≤ left - n
  ·rw [szR_yes h2,szR_yes (by omega)]
   have:left - n - m = left - ((n + m:Nat):Int):=by omega
   rw [this]
  ·rw [szR_no h2,szR_no (by omega)]
 ·rw [szR_no h,decide_eq_true (by decide),cond_true,szR_no (by omega)]
theorem szEnd {left:Int} (h:0 ≤ left):(some ((left,()),()):IU) = some ((szR 0 left,()),()):=by rw [szR_yes (by omega)]; simp
theorem szHead {G:IU} {n m:Nat} {left:Int} (h0:0 ≤ left) (h1:left ≤ 1048576) (hn:n ≤ maxLen) (k:0 ≤ left - n → G = some ((szR m (left - n),()),())) :
  cond (decide (w64 (left - zz n) < (0:Int))) (some (((-1:Int),()),())) G = some ((szR (n + m) left,()),()):=by
 have hm:maxLen = 9223372036854775807:=rfl
 have e:w64 (left - zz n) = left - n:=by rw [zz_eq,w64_id] <;> omega
 rw [e]
 by_cases h:(n:Int) ≤ left
 ·rw [decide_eq_false (by omega),cond_false,k (by omega)]
  by_cases h2:(m:Int) ≤ left - n
  ·rw [szR_yes h2,szR_yes (by omega)]
   have:left - n - m = left - ((n + m:Nat):Int):=by omega
   rw [this]
  ·rw [szR_no h2,szR_no (by omega)]
 ·rw [decide_eq_true (by omega),cond_true,szR_no (by omega)]
theorem szLeaf {e:Kd} (he:e.noList = true) {xs:List e.T} {left:Int} (h0:0 ≤ left) (h1:left ≤ 1048576) (hn:xs.length ≤ maxLen) :
  cond (decide (w64 (left - zz xs.length) < (0:Int))) (some (((-1:Int),()),())) (some ((w64 (left - zz xs.length),()),()):IU) = some ((szR (szK (.list e) xs) left,()),()):=by
 have hm:maxLen = 9223372036854775807:=rfl
 have e1:w64 (left - zz xs.length) = left - xs.length:=by rw [zz_eq,w64_id] <;> omega
 have h:=szHead (G:=(some ((w64 (left - zz xs.length),()),()):IU)) (m:=0) h0 h1 hn fun h => by rw [e1]; exact szEnd h
 rw [zxr he]
 exact h
theorem szLoop {e:Kd} {F:e.T → Int → IU} {st:(Int × List e.T × Int → IU) → Int × List e.T × Int → IU} {xs:List e.T} (d:e.T)
  (hs:∀ (i:Nat) (left:Int) g,i < xs.length → st g ((i:Int),xs,left) = (F (xs.getD i d) left).bind fun y => cond (decide (y.1.1 < (0:Int))) (some (((-1:Int),()),())) (g (w64 ((i:Int) + 1),xs,y.1.1)))
  (he:∀ (left:Int) g,st g ((xs.length:Int),xs,left) = some ((left,()),())) (hF:∀ x ∈ xs,∀ left:Int,0 ≤ left → left ≤ 1048576 → F x left = some ((szR (szK e x) left,()),()))
  {left:Int} {Z:Nat} (h0:0 ≤ left) (h1:left ≤ 1048576) (hl:xs.length ≤ 1048576) (hf:xs.length < Z):iter st Z ((0:Int),xs,left) = some ((szR ((xs.map (szK e)).sum) left,()),()):=by
 have h:=zt (st:=st) (enc:=fun i (left:Int) => ((i:Int),xs,left)) (fun x (k:Int → IU) left => (F x left).bind fun y => cond (decide (y.1.1 < (0:Int))) (some (((-1:Int),()),())) (k y.1.1)) (fun left => some ((left,()),())) xs d
  (fun i left g hi => by rw [hs i left g hi,w64_up (by omega)]) (fun left g => he left g) Z left hf
 refine h.trans ?_
 clear h hs he hf hl
 induction xs generalizing left with
 | nil => exact szEnd h0
 | cons x xs ih =>
  show ((F x left).bind fun y => cond (decide (y.1.1 < (0:Int))) (some (((-1:Int),()),())) (goL _ _ xs y.1.1)) = _
  rw [List.map_cons,List.sum_cons]
  exact szBind (G:=fun y => goL _ _ xs y.1.1) (hF x (by simp) left h0 h1) fun h => ih (fun y hy => hF y (by simp [hy])) h (by show left - _ ≤ _; omega)
theorem szSlice {e:Kd} {F:e.T → Int → IU} {st:(Int × List e.T × Int → IU) → Int × List e.T × Int → IU} {xs:List e.T} (d:e.T)
  (hs:∀ (i:Nat) (left:Int) g,i < xs.length → st g ((i:Int),xs,left) = (F (xs.getD i d) left).bind fun y => cond (decide (y.1.1 < (0:Int))) (some (((-1:Int),()),())) (g (w64 ((i:Int) + 1),xs,y.1.1)))
  (he:∀ (left:Int) g,st g ((xs.length:Int),xs,left) = some ((left,()),())) (hF:∀ x ∈ xs,∀ left:Int,0 ≤ left → left ≤ 1048576 → F x left = some ((szR (szK e x) left,()),()))
  {left:Int} {Z:Nat} (h0:0 ≤ left) (h1:left ≤ 1048576) (hl:xs.length ≤ maxLen) (hf:1048576 < Z) :
  cond (decide (w64 (left - zz xs.length) < (0:Int))) (some (((-1:Int),()),())) (iter st Z ((0:Int),xs,w64 (left - zz xs.length))) = some ((szR (szK (.list e) xs) left,()),()):=by
 refine szHead h0 h1 hl fun h => ?_
 have e1:w64 (left - zz xs.length) = left - xs.length:=by rw [zz_eq,w64_id] <;> omega
 rw [e1]
 exact szLoop d hs he hF h (by omega) (by omega) (by omega)
abbrev KNET:Kd:=.pair (.list KN) (.pair (.list .bool) (.pair (.list KW) (.pair (.list (.list (.list I6))) .unit)))
abbrev dE:Kd.T KE:=(0,(0,(0,((([],()),(([],()),(([],(0,(0,()))),(([],(0,())),())))),()))))
abbrev dN:Kd.T KN:=(0,([],(0,(0,(0,())))))
abbrev dW:Kd.T KW:=(0,(0,(0,(0,(0,([],()))))))
abbrev EntY:=Kd.T KE
abbrev NodY:=Kd.T KN
abbrev WorY:=Kd.T KW
abbrev NetY:=Kd.T KNET
theorem getD_in {α:Type} {xs:List α} {i:Nat} (h:i < xs.length) (d:α):xs.getD i d ∈ xs:=by
 rw [List.getD_eq_getElem?_getD,List.getElem?_eq_getElem h]; exact List.getElem_mem h
theorem zxs (f:Nat) (l:List (Kd.T I6)) {left:Int} (h0:0 ≤ left) (h1:left ≤ 1048576) (hl:wfD (.list I6) l):zg6 f ((l,()),(left,()),()) = some ((szR (szK (.list I6) l) left,()),()):=szLeaf (e:=I6) rfl h0 h1 hl.1
theorem zIn (f:Nat) (l:List (Kd.T KP)) {left:Int} (h0:0 ≤ left) (h1:left ≤ 1048576) (hl:wfD (.list KP) l):zoO f ((l,()),(left,()),()) = some ((szR (szK (.list KP) l) left,()),()):=szLeaf (e:=KP) rfl h0 h1 hl.1
theorem zIo (f:Nat) (l:List (Kd.T KP)) {left:Int} (h0:0 ≤ left) (h1:left ≤ 1048576) (hl:wfD (.list KP) l):zoP f ((l,()),(left,()),()) = some ((szR (szK (.list KP) l) left,()),()):=szLeaf (e:=KP) rfl h0 h1 hl.1
theorem zIp (f:Nat) (l:List (Kd.T .bool)) {left:Int} (h0:0 ≤ left) (h1:left ≤ 1048576) (hl:wfD (.list .bool) l):zoT f ((l,()),(left,()),()) = some ((szR (szK (.list .bool) l) left,()),()):=szLeaf (e:=.bool) rfl h0 h1 hl.1
theorem zxt (f:Nat) (hf:1048576 < f) (l:List (Kd.T (.list I6))) {left:Int} (h0:0 ≤ left) (h1:left ≤ 1048576) (hl:wfD (.list (.list I6)) l):zea f ((l,()),(left,()),()) = some ((szR (szK (.list (.list I6)) l) left,()),()) :=
 szSlice (e:=(.list I6)) (F:=fun x left => zg6 f ((x,()),(left,()),())) (st:=zoM f) []
  (fun i left g hi => by
   show zg9 f g _ = _
   unfold zg9
   simp only [zz_eq,lt_cast hi,le_cast,decide_true,cond_true,Int.toNat_natCast])
  (fun left g => by
   show zg9 f g _ = _
   unfold zg9
   simp only [zz_eq,zb,decide_false,cond_false])
  (fun x hx left h0 h1 => zxs f x h0 h1 (hl.2 x hx)) h0 h1 hl.1 hf
theorem zIq (f:Nat) (hf:1048576 < f) (s:Kd.T KS) {left:Int} (h0:0 ≤ left) (h1:left ≤ 1048576) (hl:wfD KS s):zoQ f ((s.1.1,s.2.1.1,s.2.2.1.1,s.2.2.1.2.1,s.2.2.1.2.2.1,s.2.2.2.1.1,s.2.2.2.1.2.1,()),(left,()),()) = some ((szR (szK KS s) left,()),()):=by
 obtain ⟨⟨rs,⟨⟩⟩,⟨ms,⟨⟩⟩,⟨ps,lost,tall,⟨⟩⟩,⟨ks,rall,⟨⟩⟩,⟨⟩⟩:=s
 obtain ⟨⟨w1,-⟩,⟨w2,-⟩,⟨w3,-⟩,⟨w4,-⟩,-⟩:=hl
 have e:szK KS ((rs,()),(ms,()),(ps,lost,tall,()),(ks,rall,()),()) = szK (.list (.list I6)) rs + (szK (.list I6) ms + (szK (.list KP) ps + (szK (.list KP) ks + 0))):=by
  simp only [szK]; omega
 rw [e]
 refine szBind (szBind (m:=0) (zxt f hf rs h0 h1 w1) fun h => szEnd h) fun h2 => ?_
 have h2:0 ≤ left - (szK (.list (.list I6)) rs:Int):=h2
 refine szBind (szBind (m:=0) (zxs f ms h2 (by show left - _ ≤ _; omega) w2) fun h => szEnd h) fun h3 => ?_
 refine szBind (szBind (m:=0) (zIn f ps h3 (by show left - _ - _ ≤ _; omega) w3) fun h => szEnd h) fun h4 => ?_
 exact szBind (szBind (m:=0) (zIo f ks h4 (by show left - _ - _ - _ ≤ _; omega) w4) fun h => szEnd h) fun h5 => szEnd h5
theorem zIr (f:Nat) (hf:1048576 < f) (x:EntY) {left:Int} (h0:0 ≤ left) (h1:left ≤ 1048576) (hl:wfD KE x):zkR f ((x.1,x.2.1,x.2.2.1,x.2.2.2.1.1.1,x.2.2.2.1.2.1.1,x.2.2.2.1.2.2.1.1,x.2.2.2.1.2.2.1.2.1,x.2.2.2.1.2.2.1.2.2.1,x.2.2.2.1.2.2.2.1.1,x.2.2.2.1.2.2.2.1.2.1,()),(left,()),()) = some ((szR (szK KE x) left,()),()):=by
 have e:szK KE x = szK KS x.2.2.2.1 + 0:=by simp only [szK]; omega
 rw [e]
 exact szBind (zIq f hf x.2.2.2.1 h0 h1 hl.2.2.2.1) fun h => szEnd h
theorem zxu (f:Nat) (hf:1048576 < f) (l:List (Kd.T KE)) {left:Int} (h0:0 ≤ left) (h1:left ≤ 1048576) (hl:wfD (.list KE) l):zhd f ((l,()),(left,()),()) = some ((szR (szK (.list KE) l) left,()),()) :=
 szSlice (e:=KE) (F:=fun x left => zkR f ((x.1,x.2.1,x.2.2.1,x.2.2.2.1.1.1,x.2.2.2.1.2.1.1,x.2.2.2.1.2.2.1.1,x.2.2.2.1.2.2.1.2.1,x.2.2.2.1.2.2.1.2.2.1,x.2.2.2.1.2.2.2.1.1,x.2.2.2.1.2.2.2.1.2.1,()),(left,()),())) (st:=zoR f) dE
  (fun i left g hi => by
   show zhc f g _ = _
   unfold zhc
   simp only [zz_eq,lt_cast hi,le_cast,decide_true,cond_true,Int.toNat_natCast])
  (fun left g => by
   show zhc f g _ = _
   unfold zhc
   simp only [zz_eq,zb,decide_false,cond_false])
  (fun x hx left h0 h1 => zIr f hf x h0 h1 (hl.2 x hx)) h0 h1 hl.1 hf
theorem zIs (f:Nat) (hf:1048576 < f) (x:NodY) {left:Int} (h0:0 ≤ left) (h1:left ≤ 1048576) (hl:wfD KN x):zkT f ((x.1,x.2.1,x.2.2.1,x.2.2.2.1,x.2.2.2.2.1,()),(left,()),()) = some ((szR (szK KN x) left,()),()):=by
 have e:szK KN x = szK (.list KE) x.2.1 + 0:=by simp only [szK]; omega
 rw [e]
 exact szBind (zxu f hf x.2.1 h0 h1 hl.2.1) fun h => szEnd h
theorem zIt (f:Nat) (hf:1048576 < f) (x:WorY) {left:Int} (h0:0 ≤ left) (h1:left ≤ 1048576) (hl:wfD KW x):zkW f ((x.1,x.2.1,x.2.2.1,x.2.2.2.1,x.2.2.2.2.1,x.2.2.2.2.2.1,()),(left,()),()) = some ((szR (szK KW x) left,()),()):=by
 have e:szK KW x = szK (.list KE) x.2.2.2.2.2.1 + 0:=by simp only [szK]; omega
 rw [e]
 exact szBind (zxu f hf x.2.2.2.2.2.1 h0 h1 hl.2.2.2.2.2.1) fun h => szEnd h
theorem zIu (f:Nat) (hf:1048576 < f) (l:List (Kd.T KN)) {left:Int} (h0:0 ≤ left) (h1:left ≤ 1048576) (hl:wfD (.list KN) l):zkV f ((l,()),(left,()),()) = some ((szR (szK (.list KN) l) left,()),()) :=
 szSlice (e:=KN) (F:=fun x left => zkT f ((x.1,x.2.1,x.2.2.1,x.2.2.2.1,x.2.2.2.2.1,()),(left,()),())) (st:=zoS f) dN
  (fun i left g hi => by
   show zhg f g _ = _
   unfold zhg
   simp only [zz_eq,lt_cast hi,le_cast,decide_true,cond_true,Int.toNat_natCast])
  (fun left g => by
   show zhg f g _ = _
   unfold zhg
   simp only [zz_eq,zb,decide_false,cond_false])
  (fun x hx left h0 h1 => zIs f hf x h0 h1 (hl.2 x hx)) h0 h1 hl.1 hf
theorem zIv (f:Nat) (hf:1048576 < f) (l:List (Kd.T KW)) {left:Int} (h0:0 ≤ left) (h1:left ≤ 1048576) (hl:wfD (.list KW) l):zkY f ((l,()),(left,()),()) = some ((szR (szK (.list KW) l) left,()),()) :=
 szSlice (e:=KW) (F:=fun x left => zkW f ((x.1,x.2.1,x.2.2.1,x.2.2.2.1,x.2.2.2.2.1,x.2.2.2.2.2.1,()),(left,()),())) (st:=zoU f) dW
  (fun i left g hi => by
   show zhj f g _ = _
   unfold zhj
   simp only [zz_eq,lt_cast hi,le_cast,decide_true,cond_true,Int.toNat_natCast])
  (fun left g => by
   show zhj f g _ = _
   unfold zhj
   simp only [zz_eq,zb,decide_false,cond_false])
  (fun x hx left h0 h1 => zIt f hf x h0 h1 (hl.2 x hx)) h0 h1 hl.1 hf
theorem zIw (f:Nat) (hf:1048576 < f) (l:List (Kd.T (.list (.list I6)))) {left:Int} (h0:0 ≤ left) (h1:left ≤ 1048576) (hl:wfD (.list (.list (.list I6))) l):zk0 f ((l,()),(left,()),()) = some ((szR (szK (.list (.list (.list I6))) l) left,()),()) :=
 szSlice (e:=(.list (.list I6))) (F:=fun x left => zea f ((x,()),(left,()),())) (st:=zoV f) []
  (fun i left g hi => by
   show zhm f g _ = _
   unfold zhm
   simp only [zz_eq,lt_cast hi,le_cast,decide_true,cond_true,Int.toNat_natCast])
  (fun left g => by
   show zhm f g _ = _
   unfold zhm
   simp only [zz_eq,zb,decide_false,cond_false])
  (fun x hx left h0 h1 => zxt f hf x h0 h1 (hl.2 x hx)) h0 h1 hl.1 hf
theorem zIx (f:Nat) (hf:1048576 < f) (n:NetY) (hl:wfD KNET n):zoW f ((n.1,n.2.1,n.2.2.1,n.2.2.2.1,()),((1048576:Int),()),()) = some ((szR (szK KNET n) 1048576,()),()):=by
 obtain ⟨ns,ls,ws,ps,⟨⟩⟩:=n
 obtain ⟨w1,w2,w3,w4,-⟩:=hl
 have e:szK KNET (ns,ls,ws,ps,()) = szK (.list KN) ns + (szK (.list .bool) ls + (szK (.list KW) ws + (szK (.list (.list (.list I6))) ps + 0))):=by simp only [szK]
 rw [e]
 refine szBind (zIu f hf ns (show (0:Int) ≤ 1048576 by decide) (show (1048576:Int) ≤ 1048576 by decide) w1) fun h2 => ?_
 have h2:0 ≤ (1048576:Int) - (szK (.list KN) ns:Int):=h2
 refine szBind (zIp f ls h2 (by show (1048576:Int) - _ ≤ _; omega) w2) fun h3 => ?_
 refine szBind (zIv f hf ws h3 (by show (1048576:Int) - _ - _ ≤ _; omega) w3) fun h4 => ?_
 exact szBind (zIw f hf ps h4 (by show (1048576:Int) - _ - _ - _ ≤ _; omega) w4) fun h5 => szEnd h5
theorem zxv (f:Nat) (l:List Int) (hl:l.length ≤ 1048576) (hf:1048576 < f):zeg f ((l,()),()) = some ((l,()),()):=by
 show zk3 f (iter (zk2 f) f) l = _
 unfold zk3
 have h1:=lim_of hl
 simp only [zz_eq,Int.toNat_natCast,Int.natCast_nonneg,Int.le_refl,h1,decide_true,cond_true]
 refine (zaz (st:=zk2 f) (enc:=fun i out => ((i:Int),l,out)) (fun out => some ((out,()),())) l 0 id ?_ ?_ f 0 (by omega)).trans (by rw [List.map_id])
 ·intro i out g hi ho
  show zhp f g _ = _
  unfold zhp
  have ho':i < out.length:=by omega
  simp only [zz_eq,lt_cast hi,lt_cast ho',ho',le_cast,decide_true,cond_true,Int.toNat_natCast,w64_up (show i < 4294967296 by omega)]
  rfl
 ·intro s g
  show zhp f g _ = _
  unfold zhp
  simp only [zz_eq,zb,decide_false,cond_false]
theorem zIy (f:Nat) (l:List Bool) (hl:l.length ≤ 1048576) (hf:1048576 < f):zlr f ((l,()),()) = some ((l,()),()):=by
 show zlq f (iter (zlp f) f) l = _
 unfold zlq
 have h1:=lim_of hl
 simp only [zz_eq,Int.toNat_natCast,Int.natCast_nonneg,Int.le_refl,h1,decide_true,cond_true]
 refine (zaz (st:=zlp f) (enc:=fun i out => ((i:Int),l,out)) (fun out => some ((out,()),())) l false id ?_ ?_ f false (by omega)).trans (by rw [List.map_id])
 ·intro i out g hi ho
  show zhI f g _ = _
  unfold zhI
  have ho':i < out.length:=by omega
  simp only [zz_eq,lt_cast hi,lt_cast ho',ho',le_cast,decide_true,cond_true,Int.toNat_natCast,w64_up (show i < 4294967296 by omega)]
  rfl
 ·intro s g
  show zhI f g _ = _
  unfold zhI
  simp only [zz_eq,zb,decide_false,cond_false]
theorem zIz (f:Nat) (l:LP) (hl:l.length ≤ 1048576) (hf:1048576 < f):zla f ((l,()),()) = some ((l,()),()):=by
 show zk9 f (iter (zk8 f) f) l = _
 unfold zk9
 have h1:=lim_of hl
 have ek:∀ x y:Int,zo3 f ((x,y,()),()) = some ((x,y,()),()):=fun x y => rfl
 simp only [zz_eq,Int.toNat_natCast,Int.natCast_nonneg,Int.le_refl,h1,decide_true,cond_true]
 refine (zaz (st:=zk8 f) (enc:=fun i out => ((i:Int),l,out)) (fun out => some ((out,()),())) l (0,0,()) id ?_ ?_ f (0,0,()) (by omega)).trans (by rw [List.map_id])
 ·intro i out g hi ho
  show zhv f g _ = _
  unfold zhv
  have ho':i < out.length:=by omega
  simp only [zz_eq,lt_cast hi,lt_cast ho',ho',le_cast,decide_true,cond_true,Int.toNat_natCast,w64_up (show i < 4294967296 by omega),ek,Option.bind_some]
  rfl
 ·intro s g
  show zhv f g _ = _
  unfold zhv
  simp only [zz_eq,zb,decide_false,cond_false]
theorem zIA (f:Nat) (l:LP) (hl:l.length ≤ 1048576) (hf:1048576 < f):zle f ((l,()),()) = some ((l,()),()):=by
 show zld f (iter (zlc f) f) l = _
 unfold zld
 have h1:=lim_of hl
 have ek:∀ x y:Int,zo6 f ((x,y,()),()) = some ((x,y,()),()):=fun x y => rfl
 simp only [zz_eq,Int.toNat_natCast,Int.natCast_nonneg,Int.le_refl,h1,decide_true,cond_true]
 refine (zaz (st:=zlc f) (enc:=fun i out => ((i:Int),l,out)) (fun out => some ((out,()),())) l (0,0,()) id ?_ ?_ f (0,0,()) (by omega)).trans (by rw [List.map_id])
 ·intro i out g hi ho
  show zhy f g _ = _
  unfold zhy
  have ho':i < out.length:=by omega
  simp only [zz_eq,lt_cast hi,lt_cast ho',ho',le_cast,decide_true,cond_true,Int.toNat_natCast,w64_up (show i < 4294967296 by omega),ek,Option.bind_some]
  rfl
 ·intro s g
  show zhy f g _ = _
  unfold zhy
  simp only [zz_eq,zb,decide_false,cond_false]
theorem zxw (f:Nat) (hf:1048576 < f) (l:List (Kd.T (.list I6))) (hl:szK (.list (.list I6)) l ≤ 1048576):zei f ((l,()),()) = some ((l,()),()):=by
 have h:l.length ≤ 1048576:=Nat.le_trans szK_len hl
 show zk6 f (iter (zk5 f) f) l = _
 unfold zk6
 have h1:=lim_of h
 simp only [zz_eq,Int.toNat_natCast,Int.natCast_nonneg,Int.le_refl,h1,decide_true,cond_true]
 refine (zaz (st:=zk5 f) (enc:=fun i out => ((i:Int),l,out)) (fun out => some ((out,()),())) l [] id ?_ ?_ f [] (by omega)).trans (by rw [List.map_id])
 ·intro i out g hi ho
  show zhs f g _ = _
  unfold zhs
  have ho':i < out.length:=by omega
  have hx:=szK_mem (getD_in hi ([]:Kd.T (.list I6)))
  have he:zeg f ((l.getD i [],()),()) = some ((l.getD i [],()),()):=zxv f _ (by have:=szK_len (e:=I6) (xs:=l.getD i []); omega) hf
  simp only [zz_eq,lt_cast hi,lt_cast ho',ho',le_cast,decide_true,cond_true,Int.toNat_natCast,w64_up (show i < 4294967296 by omega)]
  rw [he,Option.bind_some]
  rfl
 ·intro s g
  show zhs f g _ = _
  unfold zhs
  simp only [zz_eq,zb,decide_false,cond_false]
theorem zIB (f:Nat) (hf:1048576 < f) (l:List (Kd.T (.list (.list I6)))) (hl:szK (.list (.list (.list I6))) l ≤ 1048576):zlA f ((l,()),()) = some ((l,()),()):=by
 have h:l.length ≤ 1048576:=Nat.le_trans szK_len hl
 show zlz f (iter (zly f) f) l = _
 unfold zlz
 have h1:=lim_of h
 simp only [zz_eq,Int.toNat_natCast,Int.natCast_nonneg,Int.le_refl,h1,decide_true,cond_true]
 refine (zaz (st:=zly f) (enc:=fun i out => ((i:Int),l,out)) (fun out => some ((out,()),())) l [] id ?_ ?_ f [] (by omega)).trans (by rw [List.map_id])
 ·intro i out g hi ho
  show zhO f g _ = _
  unfold zhO
  have ho':i < out.length:=by omega
  have hx:=szK_mem (getD_in hi ([]:Kd.T (.list (.list I6))))
  have he:zei f ((l.getD i [],()),()) = some ((l.getD i [],()),()):=zxw f hf _ (by omega)
  simp only [zz_eq,lt_cast hi,lt_cast ho',ho',le_cast,decide_true,cond_true,Int.toNat_natCast,w64_up (show i < 4294967296 by omega)]
  rw [he,Option.bind_some]
  rfl
 ·intro s g
  show zhO f g _ = _
  unfold zhO
  simp only [zz_eq,zb,decide_false,cond_false]
theorem zIC (f:Nat) (hf:1048576 < f) (s:Kd.T KS) (hl:szK KS s ≤ 1048576):zpa f ((s.1.1,s.2.1.1,s.2.2.1.1,s.2.2.1.2.1,s.2.2.1.2.2.1,s.2.2.2.1.1,s.2.2.2.1.2.1,()),()) = some ((s.1.1,s.2.1.1,s.2.2.1.1,s.2.2.1.2.1,s.2.2.1.2.2.1,s.2.2.2.1.1,s.2.2.2.1.2.1,()),()):=by
 obtain ⟨⟨rs,⟨⟩⟩,⟨ms,⟨⟩⟩,⟨ps,lost,tall,⟨⟩⟩,⟨ks,rall,⟨⟩⟩,⟨⟩⟩:=s
 have e:szK KS ((rs,()),(ms,()),(ps,lost,tall,()),(ks,rall,()),()) = szK (.list (.list I6)) rs + (szK (.list I6) ms + (szK (.list KP) ps + (szK (.list KP) ks + 0))):=by
  simp only [szK]; omega
 rw [e] at hl
 have l2:=szK_len (e:=I6) (xs:=ms); have l3:=szK_len (e:=KP) (xs:=ps); have l4:=szK_len (e:=KP) (xs:=ks)
 show zo9 f rs ms ps lost tall ks rall = _
 unfold zo9
 have e1:zo0 f ((rs,()),()) = some ((rs,()),()):=by
  show zoZ f rs = _
  unfold zoZ; rw [zxw f hf rs (by omega)]; rfl
 have e2:zo2 f ((ms,()),()) = some ((ms,()),()):=by
  show zo1 f ms = _
  unfold zo1; rw [zxv f ms (by omega) hf]; rfl
 have e3:zo5 f ((ps,lost,tall,()),()) = some ((ps,lost,tall,()),()):=by
  show zo4 f ps lost tall = _
  unfold zo4; rw [zIz f ps (by omega) hf]; rfl
 have e4:zo8 f ((ks,rall,()),()) = some ((ks,rall,()),()):=by
  show zo7 f ks rall = _
  unfold zo7; rw [zIA f ks (by omega) hf]; rfl
 rw [e1,Option.bind_some,e2,Option.bind_some,e3,Option.bind_some,e4]
 rfl
theorem zID (f:Nat) (hf:1048576 < f) (x:EntY) (hl:szK KE x ≤ 1048576):zlf f ((x.1,x.2.1,x.2.2.1,x.2.2.2.1.1.1,x.2.2.2.1.2.1.1,x.2.2.2.1.2.2.1.1,x.2.2.2.1.2.2.1.2.1,x.2.2.2.1.2.2.1.2.2.1,x.2.2.2.1.2.2.2.1.1,x.2.2.2.1.2.2.2.1.2.1,()),()) = some ((x.1,x.2.1,x.2.2.1,x.2.2.2.1.1.1,x.2.2.2.1.2.1.1,x.2.2.2.1.2.2.1.1,x.2.2.2.1.2.2.1.2.1,x.2.2.2.1.2.2.1.2.2.1,x.2.2.2.1.2.2.2.1.1,x.2.2.2.1.2.2.2.1.2.1,()),()):=by
 show zpb f (x.1) (x.2.1) (x.2.2.1) (x.2.2.2.1.1.1) (x.2.2.2.1.2.1.1) (x.2.2.2.1.2.2.1.1) (x.2.2.2.1.2.2.1.2.1) (x.2.2.2.1.2.2.1.2.2.1) (x.2.2.2.1.2.2.2.1.1) (x.2.2.2.1.2.2.2.1.2.1) = _
 unfold zpb
 have e:szK KE x = szK KS x.2.2.2.1:=by simp only [szK]; omega
 rw [zIC f hf x.2.2.2.1 (by omega),Option.bind_some]
theorem zxx (f:Nat) (hf:1048576 < f) (l:List (Kd.T KE)) (hl:szK (.list KE) l ≤ 1048576):zhC f ((l,()),()) = some ((l,()),()):=by
 have h:l.length ≤ 1048576:=Nat.le_trans szK_len hl
 show zli f (iter (zlh f) f) l = _
 unfold zli
 have h1:=lim_of h
 simp only [zz_eq,Int.toNat_natCast,Int.natCast_nonneg,Int.le_refl,h1,decide_true,cond_true]
 refine (zaz (st:=zlh f) (enc:=fun i out => ((i:Int),l,out)) (fun out => some ((out,()),())) l dE id ?_ ?_ f dE (by omega)).trans (by rw [List.map_id])
 ·intro i out g hi ho
  show zhB f g _ = _
  unfold zhB
  have ho':i < out.length:=by omega
  have hx:=szK_mem (getD_in hi (dE:Kd.T KE))
  have he:zlf f (((l.getD i dE).1,(l.getD i dE).2.1,(l.getD i dE).2.2.1,(l.getD i dE).2.2.2.1.1.1,(l.getD i dE).2.2.2.1.2.1.1,(l.getD i dE).2.2.2.1.2.2.1.1,(l.getD i dE).2.2.2.1.2.2.1.2.1,(l.getD i dE).2.2.2.1.2.2.1.2.2.1,(l.getD i dE).2.2.2.1.2.2.2.1.1,(l.getD i dE).2.2.2.1.2.2.2.1.2.1,()),()) = some (((l.getD i dE).1,(l.getD i dE).2.1,(l.getD i dE).2.2.1,(l.getD i dE).2.2.2.1.1.1,(l.getD i dE).2.2.2.1.2.1.1,(l.getD i dE).2.2.2.1.2.2.1.1,(l.getD i dE).2.2.2.1.2.2.1.2.1,(l.getD i dE).2.2.2.1.2.2.1.2.2.1,(l.getD i dE).2.2.2.1.2.2.2.1.1,(l.getD i dE).2.2.2.1.2.2.2.1.2.1,()),()):=zID f hf _ (by omega)
  simp only [zz_eq,lt_cast hi,lt_cast ho',ho',le_cast,decide_true,cond_true,Int.toNat_natCast,w64_up (show i < 4294967296 by omega)]
  rw [he,Option.bind_some]
  rfl
 ·intro s g
  show zhB f g _ = _
  unfold zhB
  simp only [zz_eq,zb,decide_false,cond_false]
theorem zIE (f:Nat) (hf:1048576 < f) (x:NodY) (hl:szK KN x ≤ 1048576):zlj f ((x.1,x.2.1,x.2.2.1,x.2.2.2.1,x.2.2.2.2.1,()),()) = some ((x.1,x.2.1,x.2.2.1,x.2.2.2.1,x.2.2.2.2.1,()),()):=by
 show zpc f (x.1) (x.2.1) (x.2.2.1) (x.2.2.2.1) (x.2.2.2.2.1) = _
 unfold zpc
 have e:szK KN x = szK (.list KE) x.2.1:=by simp only [szK]; omega
 rw [zxx f hf x.2.1 (by omega),Option.bind_some]
theorem zIF (f:Nat) (hf:1048576 < f) (x:WorY) (hl:szK KW x ≤ 1048576):zls f ((x.1,x.2.1,x.2.2.1,x.2.2.2.1,x.2.2.2.2.1,x.2.2.2.2.2.1,()),()) = some ((x.1,x.2.1,x.2.2.1,x.2.2.2.1,x.2.2.2.2.1,x.2.2.2.2.2.1,()),()):=by
 show zpd f (x.1) (x.2.1) (x.2.2.1) (x.2.2.2.1) (x.2.2.2.2.1) (x.2.2.2.2.2.1) = _
 unfold zpd
 have e:szK KW x = szK (.list KE) x.2.2.2.2.2.1:=by simp only [szK]; omega
 rw [zxx f hf x.2.2.2.2.2.1 (by omega),Option.bind_some]
theorem zIG (f:Nat) (hf:1048576 < f) (l:List (Kd.T KN)) (hl:szK (.list KN) l ≤ 1048576):zln f ((l,()),()) = some ((l,()),()):=by
 have h:l.length ≤ 1048576:=Nat.le_trans szK_len hl
 show zlm f (iter (zll f) f) l = _
 unfold zlm
 have h1:=lim_of h
 simp only [zz_eq,Int.toNat_natCast,Int.natCast_nonneg,Int.le_refl,h1,decide_true,cond_true]
 refine (zaz (st:=zll f) (enc:=fun i out => ((i:Int),l,out)) (fun out => some ((out,()),())) l dN id ?_ ?_ f dN (by omega)).trans (by rw [List.map_id])
 ·intro i out g hi ho
  show zhF f g _ = _
  unfold zhF
  have ho':i < out.length:=by omega
  have hx:=szK_mem (getD_in hi (dN:Kd.T KN))
  have he:zlj f (((l.getD i dN).1,(l.getD i dN).2.1,(l.getD i dN).2.2.1,(l.getD i dN).2.2.2.1,(l.getD i dN).2.2.2.2.1,()),()) = some (((l.getD i dN).1,(l.getD i dN).2.1,(l.getD i dN).2.2.1,(l.getD i dN).2.2.2.1,(l.getD i dN).2.2.2.2.1,()),()):=zIE f hf _ (by omega)
  simp only [zz_eq,lt_cast hi,lt_cast ho',ho',le_cast,decide_true,cond_true,Int.toNat_natCast,w64_up (show i < 4294967296 by omega)]
  rw [he,Option.bind_some]
  rfl
 ·intro s g
  show zhF f g _ = _
  unfold zhF
  simp only [zz_eq,zb,decide_false,cond_false]
theorem zIH (f:Nat) (hf:1048576 < f) (l:List (Kd.T KW)) (hl:szK (.list KW) l ≤ 1048576):zlw f ((l,()),()) = some ((l,()),()):=by
 have h:l.length ≤ 1048576:=Nat.le_trans szK_len hl
 show zlv f (iter (zlu f) f) l = _
 unfold zlv
 have h1:=lim_of h
 simp only [zz_eq,Int.toNat_natCast,Int.natCast_nonneg,Int.le_refl,h1,decide_true,cond_true]
 refine (zaz (st:=zlu f) (enc:=fun i out => ((i:Int),l,out)) (fun out => some ((out,()),())) l dW id ?_ ?_ f dW (by omega)).trans (by rw [List.map_id])
 ·intro i out g hi ho
  show zhL f g _ = _
  unfold zhL
  have ho':i < out.length:=by omega
  have hx:=szK_mem (getD_in hi (dW:Kd.T KW))
  have he:zls f (((l.getD i dW).1,(l.getD i dW).2.1,(l.getD i dW).2.2.1,(l.getD i dW).2.2.2.1,(l.getD i dW).2.2.2.2.1,(l.getD i dW).2.2.2.2.2.1,()),()) = some (((l.getD i dW).1,(l.getD i dW).2.1,(l.getD i dW).2.2.1,(l.getD i dW).2.2.2.1,(l.getD i dW).2.2.2.2.1,(l.getD i dW).2.2.2.2.2.1,()),()):=zIF f hf _ (by omega)
  simp only [zz_eq,lt_cast hi,lt_cast ho',ho',le_cast,decide_true,cond_true,Int.toNat_natCast,w64_up (show i < 4294967296 by omega)]
  rw [he,Option.bind_some]
  rfl
 ·intro s g
  show zhL f g _ = _
  unfold zhL
  simp only [zz_eq,zb,decide_false,cond_false]
theorem zII (f:Nat) (hf:1048576 < f) (n:NetY) (hl:szK KNET n ≤ 1048576):zhP f ((n.1,n.2.1,n.2.2.1,n.2.2.2.1,()),()) = some ((n.1,n.2.1,n.2.2.1,n.2.2.2.1,()),()):=by
 obtain ⟨ns,ls,ws,ps,⟨⟩⟩:=n
 have e:szK KNET (ns,ls,ws,ps,()) = szK (.list KN) ns + (szK (.list .bool) ls + (szK (.list KW) ws + (szK (.list (.list (.list I6))) ps + 0))):=by simp only [szK]
 rw [e] at hl
 have l2:=szK_len (e:=.bool) (xs:=ls)
 show zpe f ns ls ws ps = _
 unfold zpe
 rw [zIG f hf ns (by omega),Option.bind_some,zIy f ls (by omega) hf,Option.bind_some,zIH f hf ws (by omega),Option.bind_some,zIB f hf ps (by omega)]
 rfl
theorem zxy (f:Nat) (l:List Int) (hl:l.length ≤ 1048576) (hf:1048576 < f):zer f ((l,()),(l,()),()) = some ((true,()),()):=by
 show zlD f (iter (zlC f) f) l l = _
 unfold zlD
 simp only [bne_self_eq_false,cond_false]
 refine zaA (st:=zlC f) (enc:=fun i => ((i:Int),l,l)) _ l.length ?_ ?_ l.length 0 f (by omega) (by omega)
 ·intro i g hi
  show zhS f g _ = _
  unfold zhS
  simp only [zz_eq,lt_cast hi,le_cast,decide_true,cond_true,Int.toNat_natCast,w64_up (show i < 4294967296 by omega),bne_self_eq_false,beq_self_eq_true,cond_false,Bool.not_true]
 ·intro g
  show zhS f g _ = _
  unfold zhS
  simp only [zz_eq,zb,decide_false,cond_false]
theorem zIJ (f:Nat) (l:List Bool) (hl:l.length ≤ 1048576) (hf:1048576 < f):zl1 f ((l,()),(l,()),()) = some ((true,()),()):=by
 show zl0 f (iter (zlZ f) f) l l = _
 unfold zl0
 simp only [bne_self_eq_false,cond_false]
 refine zaA (st:=zlZ f) (enc:=fun i => ((i:Int),l,l)) _ l.length ?_ ?_ l.length 0 f (by omega) (by omega)
 ·intro i g hi
  show zib f g _ = _
  unfold zib
  simp only [zz_eq,lt_cast hi,le_cast,decide_true,cond_true,Int.toNat_natCast,w64_up (show i < 4294967296 by omega),bne_self_eq_false,beq_self_eq_true,cond_false,Bool.not_true]
 ·intro g
  show zib f g _ = _
  unfold zib
  simp only [zz_eq,zb,decide_false,cond_false]
theorem zIK (f:Nat) (l:LP) (hl:l.length ≤ 1048576) (hf:1048576 < f):zlK f ((l,()),(l,()),()) = some ((true,()),()):=by
 show zlJ f (iter (zlI f) f) l l = _
 unfold zlJ
 simp only [bne_self_eq_false,cond_false]
 have ek:∀ x y:Int,zpm f ((x,y,()),(x,y,()),()) = some ((true,()),()):=fun x y => by
  show zpl f x y x y = _
  unfold zpl
  simp
 refine zaA (st:=zlI f) (enc:=fun i => ((i:Int),l,l)) _ l.length ?_ ?_ l.length 0 f (by omega) (by omega)
 ·intro i g hi
  show zhY f g _ = _
  unfold zhY
  simp only [zz_eq,lt_cast hi,le_cast,decide_true,cond_true,Int.toNat_natCast,w64_up (show i < 4294967296 by omega),bne_self_eq_false,beq_self_eq_true,cond_false,ek,Option.bind_some,Bool.not_true]
 ·intro g
  show zhY f g _ = _
  unfold zhY
  simp only [zz_eq,zb,decide_false,cond_false]
theorem zIL (f:Nat) (l:LP) (hl:l.length ≤ 1048576) (hf:1048576 < f):zlO f ((l,()),(l,()),()) = some ((true,()),()):=by
 show zlN f (iter (zlM f) f) l l = _
 unfold zlN
 simp only [bne_self_eq_false,cond_false]
 have ek:∀ x y:Int,zpq f ((x,y,()),(x,y,()),()) = some ((true,()),()):=fun x y => by
  show zpp f x y x y = _
  unfold zpp
  simp
 refine zaA (st:=zlM f) (enc:=fun i => ((i:Int),l,l)) _ l.length ?_ ?_ l.length 0 f (by omega) (by omega)
 ·intro i g hi
  show zh1 f g _ = _
  unfold zh1
  simp only [zz_eq,lt_cast hi,le_cast,decide_true,cond_true,Int.toNat_natCast,w64_up (show i < 4294967296 by omega),bne_self_eq_false,beq_self_eq_true,cond_false,ek,Option.bind_some,Bool.not_true]
 ·intro g
  show zh1 f g _ = _
  unfold zh1
  simp only [zz_eq,zb,decide_false,cond_false]
theorem zxz (f:Nat) (hf:1048576 < f) (l:List (Kd.T (.list I6))) (hl:szK (.list (.list I6)) l ≤ 1048576):zet f ((l,()),(l,()),()) = some ((true,()),()):=by
 have hl':l.length ≤ 1048576:=Nat.le_trans szK_len hl
 show zlG f (iter (zlF f) f) l l = _
 unfold zlG
 simp only [bne_self_eq_false,cond_false]
 refine zaA (st:=zlF f) (enc:=fun i => ((i:Int),l,l)) _ l.length ?_ ?_ l.length 0 f (by omega) (by omega)
 ·intro i g hi
  show zhV f g _ = _
  unfold zhV
  have hx:=szK_mem (getD_in hi ([]:Kd.T (.list I6)))
  have he:zer f (((l.getD i []),()),((l.getD i []),()),()) = some ((true,()),()):=zxy f _ (by have:=szK_len (e:=I6) (xs:=l.getD i []); omega) hf
  simp only [zz_eq,lt_cast hi,le_cast,decide_true,cond_true,Int.toNat_natCast,w64_up (show i < 4294967296 by omega)]
  rw [he]
  rfl
 ·intro g
  show zhV f g _ = _
  unfold zhV
  simp only [zz_eq,zb,decide_false,cond_false]
theorem zIM (f:Nat) (hf:1048576 < f) (l:List (Kd.T (.list (.list I6)))) (hl:szK (.list (.list (.list I6))) l ≤ 1048576):zma f ((l,()),(l,()),()) = some ((true,()),()):=by
 have hl':l.length ≤ 1048576:=Nat.le_trans szK_len hl
 show zl9 f (iter (zl8 f) f) l l = _
 unfold zl9
 simp only [bne_self_eq_false,cond_false]
 refine zaA (st:=zl8 f) (enc:=fun i => ((i:Int),l,l)) _ l.length ?_ ?_ l.length 0 f (by omega) (by omega)
 ·intro i g hi
  show zih f g _ = _
  unfold zih
  have hx:=szK_mem (getD_in hi ([]:Kd.T (.list (.list I6))))
  have he:zet f (((l.getD i []),()),((l.getD i []),()),()) = some ((true,()),()):=zxz f hf _ (by omega)
  simp only [zz_eq,lt_cast hi,le_cast,decide_true,cond_true,Int.toNat_natCast,w64_up (show i < 4294967296 by omega)]
  rw [he]
  rfl
 ·intro g
  show zih f g _ = _
  unfold zih
  simp only [zz_eq,zb,decide_false,cond_false]
theorem zIN (f:Nat) (hf:1048576 < f) (s:Kd.T KS) (hl:szK KS s ≤ 1048576):zpu f ((s.1.1,s.2.1.1,s.2.2.1.1,s.2.2.1.2.1,s.2.2.1.2.2.1,s.2.2.2.1.1,s.2.2.2.1.2.1,()),(s.1.1,s.2.1.1,s.2.2.1.1,s.2.2.1.2.1,s.2.2.1.2.2.1,s.2.2.2.1.1,s.2.2.2.1.2.1,()),()) = some ((true,()),()):=by
 obtain ⟨⟨rs,⟨⟩⟩,⟨ms,⟨⟩⟩,⟨ps,lost,tall,⟨⟩⟩,⟨ks,rall,⟨⟩⟩,⟨⟩⟩:=s
 have e:szK KS ((rs,()),(ms,()),(ps,lost,tall,()),(ks,rall,()),()) = szK (.list (.list I6)) rs + (szK (.list I6) ms + (szK (.list KP) ps + (szK (.list KP) ks + 0))):=by
  simp only [szK]; omega
 rw [e] at hl
 have l2:=szK_len (e:=I6) (xs:=ms); have l3:=szK_len (e:=KP) (xs:=ps); have l4:=szK_len (e:=KP) (xs:=ks)
 show zpt f rs ms ps lost tall ks rall rs ms ps lost tall ks rall = _
 unfold zpt
 have e1:zpi f ((rs,()),(rs,()),()) = some ((true,()),()):=by
  show zph f rs rs = _
  unfold zph; rw [zxz f hf rs (by omega)]; rfl
 have e2:zpk f ((ms,()),(ms,()),()) = some ((true,()),()):=by
  show zpj f ms ms = _
  unfold zpj; rw [zxy f ms (by omega) hf]; rfl
 have e3:zpo f ((ps,lost,tall,()),(ps,lost,tall,()),()) = some ((true,()),()):=by
  show zpn f ps lost tall ps lost tall = _
  unfold zpn; rw [zIK f ps (by omega) hf]; simp
 have e4:zps f ((ks,rall,()),(ks,rall,()),()) = some ((true,()),()):=by
  show zpr f ks rall ks rall = _
  unfold zpr; rw [zIL f ks (by omega) hf]; simp
 rw [e1,Option.bind_some,e2,Option.bind_some,e3,Option.bind_some,e4]; rfl
theorem zIO (f:Nat) (hf:1048576 < f) (x:EntY) (hl:szK KE x ≤ 1048576):zlP f ((x.1,x.2.1,x.2.2.1,x.2.2.2.1.1.1,x.2.2.2.1.2.1.1,x.2.2.2.1.2.2.1.1,x.2.2.2.1.2.2.1.2.1,x.2.2.2.1.2.2.1.2.2.1,x.2.2.2.1.2.2.2.1.1,x.2.2.2.1.2.2.2.1.2.1,()),(x.1,x.2.1,x.2.2.1,x.2.2.2.1.1.1,x.2.2.2.1.2.1.1,x.2.2.2.1.2.2.1.1,x.2.2.2.1.2.2.1.2.1,x.2.2.2.1.2.2.1.2.2.1,x.2.2.2.1.2.2.2.1.1,x.2.2.2.1.2.2.2.1.2.1,()),()) = some ((true,()),()):=by
 show zpv f (x.1) (x.2.1) (x.2.2.1) (x.2.2.2.1.1.1) (x.2.2.2.1.2.1.1) (x.2.2.2.1.2.2.1.1) (x.2.2.2.1.2.2.1.2.1) (x.2.2.2.1.2.2.1.2.2.1) (x.2.2.2.1.2.2.2.1.1) (x.2.2.2.1.2.2.2.1.2.1) (x.1) (x.2.1) (x.2.2.1) (x.2.2.2.1.1.1) (x.2.2.2.1.2.1.1) (x.2.2.2.1.2.2.1.1) (x.2.2.2.1.2.2.1.2.1) (x.2.2.2.1.2.2.1.2.2.1) (x.2.2.2.1.2.2.2.1.1) (x.2.2.2.1.2.2.2.1.2.1) = _
 unfold zpv
 have e:szK KE x = szK KS x.2.2.2.1:=by simp only [szK]; omega
 rw [zIN f hf x.2.2.2.1 (by omega)]
 simp only [bne_self_eq_false,cond_false,Option.bind_some,Bool.not_true]
theorem zxA (f:Nat) (hf:1048576 < f) (l:List (Kd.T KE)) (hl:szK (.list KE) l ≤ 1048576):zh5 f ((l,()),(l,()),()) = some ((true,()),()):=by
 have hl':l.length ≤ 1048576:=Nat.le_trans szK_len hl
 show zlS f (iter (zlR f) f) l l = _
 unfold zlS
 simp only [bne_self_eq_false,cond_false]
 refine zaA (st:=zlR f) (enc:=fun i => ((i:Int),l,l)) _ l.length ?_ ?_ l.length 0 f (by omega) (by omega)
 ·intro i g hi
  show zh4 f g _ = _
  unfold zh4
  have hx:=szK_mem (getD_in hi (dE:Kd.T KE))
  have he:zlP f (((l.getD i dE).1,(l.getD i dE).2.1,(l.getD i dE).2.2.1,(l.getD i dE).2.2.2.1.1.1,(l.getD i dE).2.2.2.1.2.1.1,(l.getD i dE).2.2.2.1.2.2.1.1,(l.getD i dE).2.2.2.1.2.2.1.2.1,(l.getD i dE).2.2.2.1.2.2.1.2.2.1,(l.getD i dE).2.2.2.1.2.2.2.1.1,(l.getD i dE).2.2.2.1.2.2.2.1.2.1,()),((l.getD i dE).1,(l.getD i dE).2.1,(l.getD i dE).2.2.1,(l.getD i dE).2.2.2.1.1.1,(l.getD i dE).2.2.2.1.2.1.1,(l.getD i dE).2.2.2.1.2.2.1.1,(l.getD i dE).2.2.2.1.2.2.1.2.1,(l.getD i dE).2.2.2.1.2.2.1.2.2.1,(l.getD i dE).2.2.2.1.2.2.2.1.1,(l.getD i dE).2.2.2.1.2.2.2.1.2.1,()),()) = some ((true,()),()):=zIO f hf _ (by omega)
  simp only [zz_eq,lt_cast hi,le_cast,decide_true,cond_true,Int.toNat_natCast,w64_up (show i < 4294967296 by omega)]
  rw [he]
  rfl
 ·intro g
  show zh4 f g _ = _
  unfold zh4
  simp only [zz_eq,zb,decide_false,cond_false]
theorem zIP (f:Nat) (hf:1048576 < f) (x:NodY) (hl:szK KN x ≤ 1048576):zlT f ((x.1,x.2.1,x.2.2.1,x.2.2.2.1,x.2.2.2.2.1,()),(x.1,x.2.1,x.2.2.1,x.2.2.2.1,x.2.2.2.2.1,()),()) = some ((true,()),()):=by
 show zpw f (x.1) (x.2.1) (x.2.2.1) (x.2.2.2.1) (x.2.2.2.2.1) (x.1) (x.2.1) (x.2.2.1) (x.2.2.2.1) (x.2.2.2.2.1) = _
 unfold zpw
 have e:szK KN x = szK (.list KE) x.2.1:=by simp only [szK]; omega
 rw [zxA f hf x.2.1 (by omega)]
 simp only [bne_self_eq_false,cond_false,Option.bind_some,Bool.not_true]
theorem zIQ (f:Nat) (hf:1048576 < f) (x:WorY) (hl:szK KW x ≤ 1048576):zl2 f ((x.1,x.2.1,x.2.2.1,x.2.2.2.1,x.2.2.2.2.1,x.2.2.2.2.2.1,()),(x.1,x.2.1,x.2.2.1,x.2.2.2.1,x.2.2.2.2.1,x.2.2.2.2.2.1,()),()) = some ((true,()),()):=by
 show zpx f (x.1) (x.2.1) (x.2.2.1) (x.2.2.2.1) (x.2.2.2.2.1) (x.2.2.2.2.2.1) (x.1) (x.2.1) (x.2.2.1) (x.2.2.2.1) (x.2.2.2.2.1) (x.2.2.2.2.2.1) = _
 unfold zpx
 have e:szK KW x = szK (.list KE) x.2.2.2.2.2.1:=by simp only [szK]; omega
 rw [zxA f hf x.2.2.2.2.2.1 (by omega)]
 simp only [bne_self_eq_false,cond_false,Option.bind_some,Bool.not_true]
theorem zIR (f:Nat) (hf:1048576 < f) (l:List (Kd.T KN)) (hl:szK (.list KN) l ≤ 1048576):zlX f ((l,()),(l,()),()) = some ((true,()),()):=by
 have hl':l.length ≤ 1048576:=Nat.le_trans szK_len hl
 show zlW f (iter (zlV f) f) l l = _
 unfold zlW
 simp only [bne_self_eq_false,cond_false]
 refine zaA (st:=zlV f) (enc:=fun i => ((i:Int),l,l)) _ l.length ?_ ?_ l.length 0 f (by omega) (by omega)
 ·intro i g hi
  show zh8 f g _ = _
  unfold zh8
  have hx:=szK_mem (getD_in hi (dN:Kd.T KN))
  have he:zlT f (((l.getD i dN).1,(l.getD i dN).2.1,(l.getD i dN).2.2.1,(l.getD i dN).2.2.2.1,(l.getD i dN).2.2.2.2.1,()),((l.getD i dN).1,(l.getD i dN).2.1,(l.getD i dN).2.2.1,(l.getD i dN).2.2.2.1,(l.getD i dN).2.2.2.2.1,()),()) = some ((true,()),()):=zIP f hf _ (by omega)
  simp only [zz_eq,lt_cast hi,le_cast,decide_true,cond_true,Int.toNat_natCast,w64_up (show i < 4294967296 by omega)]
  rw [he]
  rfl
 ·intro g
  show zh8 f g _ = _
  unfold zh8
  simp only [zz_eq,zb,decide_false,cond_false]
theorem zIS (f:Nat) (hf:1048576 < f) (l:List (Kd.T KW)) (hl:szK (.list KW) l ≤ 1048576):zl6 f ((l,()),(l,()),()) = some ((true,()),()):=by
 have hl':l.length ≤ 1048576:=Nat.le_trans szK_len hl
 show zl5 f (iter (zl4 f) f) l l = _
 unfold zl5
 simp only [bne_self_eq_false,cond_false]
 refine zaA (st:=zl4 f) (enc:=fun i => ((i:Int),l,l)) _ l.length ?_ ?_ l.length 0 f (by omega) (by omega)
 ·intro i g hi
  show zie f g _ = _
  unfold zie
  have hx:=szK_mem (getD_in hi (dW:Kd.T KW))
  have he:zl2 f (((l.getD i dW).1,(l.getD i dW).2.1,(l.getD i dW).2.2.1,(l.getD i dW).2.2.2.1,(l.getD i dW).2.2.2.2.1,(l.getD i dW).2.2.2.2.2.1,()),((l.getD i dW).1,(l.getD i dW).2.1,(l.getD i dW).2.2.1,(l.getD i dW).2.2.2.1,(l.getD i dW).2.2.2.2.1,(l.getD i dW).2.2.2.2.2.1,()),()) = some ((true,()),()):=zIQ f hf _ (by omega)
  simp only [zz_eq,lt_cast hi,le_cast,decide_true,cond_true,Int.toNat_natCast,w64_up (show i < 4294967296 by omega)]
  rw [he]
  rfl
 ·intro g
  show zie f g _ = _
  unfold zie
  simp only [zz_eq,zb,decide_false,cond_false]
theorem zIT (f:Nat) (hf:1048576 < f) (n:NetY) (hl:szK KNET n ≤ 1048576):zpz f ((n.1,n.2.1,n.2.2.1,n.2.2.2.1,()),(n.1,n.2.1,n.2.2.1,n.2.2.2.1,()),()) = some ((true,()),()):=by
 obtain ⟨ns,ls,ws,ps,⟨⟩⟩:=n
 have e:szK KNET (ns,ls,ws,ps,()) = szK (.list KN) ns + (szK (.list .bool) ls + (szK (.list KW) ws + (szK (.list (.list (.list I6))) ps + 0))):=by simp only [szK]
 rw [e] at hl
 have l2:=szK_len (e:=.bool) (xs:=ls)
 show zpy f ns ls ws ps ns ls ws ps = _
 unfold zpy
 rw [zIR f hf ns (by omega),zIJ f ls (by omega) hf,zIS f hf ws (by omega),zIM f hf ps (by omega)]
 rfl
end Go.Proofs.YtljojacnjjgceaaGreat.Den
namespace Go.Proofs.YtljojacnjjgceaaGreat.Den
open Go Go.RowKit
theorem zxB:∀ (l:List Int) (s:SumD) (t:Int),(sumOfGo l s).2 = true → sumOfGo (l ++ [t]) s = cond (sumAdd (sumOfGo l s).1 t).2 ((sumAdd (sumOfGo l s).1 t).1,true) (noSum,false)
 | [],s,t,_ => rfl
 | x :: l,s,t,h => by
  show cond (sumAdd s x).2 (sumOfGo (l ++ [t]) (sumAdd s x).1) (noSum,false) = _
  have e:sumOfGo (x :: l) s = cond (sumAdd s x).2 (sumOfGo l (sumAdd s x).1) (noSum,false):=rfl
  rw [e] at h ⊢
  cases hx:(sumAdd s x).2 with
  | false => rw [hx] at h; exact absurd h (by simp)
  | true =>
   rw [hx] at h
   simp only [cond_true] at h ⊢
   exact zxB l _ t h
theorem zxC {l:List Int} {t:Int} (h:∀ x ∈ l,thingB x = true) (ht:thingB t = true) (hl:l.length < 2000):sumAdd (sumOf l).1 t = ((sumOf (l ++ [t])).1,true):=by
 have h1:(sumOf l).2 = true:=ziL h (by omega)
 have h2:(sumOf (l ++ [t])).2 = true:=ziL (fun x hx => by
  rcases List.mem_append.1 hx with hx | hx
  ·exact h x hx
  ·rw [List.mem_singleton.1 hx]; exact ht) (by simp; omega)
 have h3:=zxB l sumNew t h1
 have h4:sumOf (l ++ [t]) = cond (sumAdd (sumOf l).1 t).2 ((sumAdd (sumOf l).1 t).1,true) (noSum,false):=h3
 cases hx:(sumAdd (sumOf l).1 t).2 with
 | false => rw [h4,hx] at h2; exact absurd h2 (by simp)
 | true =>
  rw [h4,hx]
  exact Prod.ext rfl hx
end Go.Proofs.YtljojacnjjgceaaGreat.Den
