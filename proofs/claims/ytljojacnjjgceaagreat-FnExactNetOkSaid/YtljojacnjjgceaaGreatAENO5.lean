/- Part 5 of the texts behind the row. -/
import Derived.Test.YtljojacnjjgceaaGreatAENO4
import Derived.Scope
set_option linter.unusedVariables false
set_option linter.unusedSimpArgs false
namespace Go.Proofs.YtljojacnjjgceaaGreat.Den
open Go Go.RowKit
def okC (T:Tab):Code → C → Bool
 | .region _ ops d,.reg _ gs => !d || orderOK T ops.toList gs
 | .region _ ops d,.seq (.reg _ gs) (.cut _) => !d || orderOK T ops.toList gs
 | .region _ ops d,.seq (.cut _) (.reg _ gs) => !d || orderOK T ops.toList gs
 | .seq a b,.seq x y => okC T a x && okC T b y
 | .cond _ a b,.cnd _ x y => okC T a x && okC T b y
 | .block _ a,.blk _ x => okC T a x
 | .loop a,.loop _ x => okC T a x
 | .scope a,.seq .skip x => okC T a x
 | .label _,.skip => true
 | .skip,.skip => true
 | .exit _,.exit _ => true
 | .ret,.ret => true
 | _,.bad => true
 | _,_ => false
def Ex.toExit:Ex → Exit
 | .normal => .normal
 | .exit id => .exit id
 | .ret => .ret
theorem zeM {p:Nat → Prop} (h:∃ m,p m):∃ m,p m ∧ ∀ k,p k → m ≤ k:=by
 obtain ⟨m,hm⟩:=h
 induction m using Nat.strongRecOn with
 | ind m ih =>
  by_cases h2:∃ k,k < m ∧ p k
  ·obtain ⟨k,h3,h4⟩:=h2
   exact ih k h3 h4
  ·exact ⟨m,hm,fun k hk => Nat.le_of_not_lt fun h5 => h2 ⟨k,h5,hk⟩⟩
section
variable {P:Program} {T:Tab} {N n0 Z:Nat} {frz:List Nat} {ann:List Norm} {cuts:List (Nat × Norm)}
theorem zp0 (hT:TabOK P T) (hmix:P.follows .mixedOrders = true) {id:Nat} {ops:Array Oper} {d:Bool} {gs:List GI} (hl:lightOps P frz N ops ops.toList = some gs) (ho:(!d || orderOK T ops.toList gs) = true)
  {R:Type} {τ:Env} {H:Heap} {ρ:Map} {a:Act} {w:World} {k:Env → Heap → Option R} {r:R} (hat:At P N ρ H w τ a) (he:(match (generalizing:=false) d with | true => runRD T gs [] [] τ H k | false => runR T gs τ H k) = some r) {Q:Exit → Act → World → Prop}
  (hQ:∀ τ' H' ρ' a' w',At P N ρ' H' w' τ' a' → Step ρ w ρ' w' → k τ' H' = some r → Q .normal a' w'):(Code.region id ops d).wp P Q a w:=by
 obtain ⟨h1,h2⟩:=zv2 hl
 cases d with
 | false =>
  exact wp_region_list (zv3 hT h1 h2 hat he hQ)
 | true =>
  refine wp_region_any hmix ?_
  have hat':At P N ρ H w.drew τ a:=⟨⟨hat.t.1,hat.t.2.1,fun n => (hat.t.2.2 n).step Step.drew⟩,hat.h.drew,hat.u⟩
  exact zHj (w:=w.drew) hT (by rw [h1]; simp) (by simpa using ho) (fun j o gi h3 h4 => h2 j o gi (by rw [Array.getElem?_toList]; exact h3) h4) hat' he
   fun τ' H' ρ' a' w' h3 h4 h5 => hQ τ' H' ρ' a' w' h3 (Step.drew.trans h4) h5
theorem zHm (hT:TabOK P T) (hmix:P.follows .mixedOrders = true):∀ (c:Code) {i:Nat} {ci:C} {j:Nat},lightC P frz N ann cuts i c = some (ci,j) → okC T c ci = true →
  ∀ {R:Type} {τ:Env} {H:Heap} {ρ:Map} {a:Act} {w:World} {k:Ex → Env → Heap → Option R} {r:R},At P N ρ H w τ a → run T n0 Z ci τ H k = some r →
  ∀ {Q:Exit → Act → World → Prop},(∀ ex τ' H' ρ' a' w',At P N ρ' H' w' τ' a' → StepN n0 ρ w ρ' w' → k ex τ' H' = some r → Q ex.toExit a' w') → c.wp P Q a w:=by
 intro c
 induction c with
 | skip =>
  intro i ci j hl ho R τ H ρ a w k r hat he Q hQ
  simp only [lightC,Option.some.injEq,Prod.mk.injEq] at hl
  obtain ⟨rfl,_⟩:=hl
  simp only [run] at he
  exact wp_skip (hQ .normal τ H ρ a w hat StepN.refl he)
 | region id ops d =>
  intro i ci j hl ho R τ H ρ a w k r hat he Q hQ
  simp only [lightC] at hl
  split at hl
  ·rename_i gs h1 _
   split at hl
   ·split at hl
    ·simp only [Option.some.injEq,Prod.mk.injEq] at hl
     obtain ⟨rfl,_⟩:=hl
     simp only [run] at he
     simp only [okC] at ho
     exact zp0 hT hmix h1 ho hat he fun τ' H' ρ' a' w' h3 h4 h5 => hQ .normal τ' H' ρ' a' w' h3 h4.toN h5
    ·rename_i nm hnm
     simp only [Option.some.injEq,Prod.mk.injEq] at hl
     obtain ⟨rfl,_⟩:=hl
     simp only [run,normK] at he
     simp only [okC] at ho
     split at he
     ·rename_i τ2 H2 h6
      obtain ⟨ρ2,h7,h8⟩:=zmy hat h6
      simp only [seqK] at he
      obtain ⟨H9,ρ9,g7,g8,he⟩:=zmz h7 he
      exact zp0 hT hmix h1 ho g7 he fun τ' H' ρ' a' w' h3 h4 h5 => hQ .normal τ' H' ρ' a' w' h3 ((h8.trans g8.toN).trans h4.toN) h5
     ·simp at he
   ·rename_i nm hnm
    simp only [Option.some.injEq,Prod.mk.injEq] at hl
    obtain ⟨rfl,_⟩:=hl
    simp only [run] at he
    simp only [okC] at ho
    refine zp0 hT hmix h1 ho hat he fun τ' H' ρ' a' w' h3 h4 h5 => ?_
    simp only [seqK,run,normK] at h5
    split at h5
    ·rename_i τ2 H2 h6
     obtain ⟨ρ2,h7,h8⟩:=zmy h3 h6
     obtain ⟨H9,ρ9,g7,g8,h5⟩:=zmz h7 h5
     exact hQ .normal τ2 H9 ρ9 a' w' g7 ((h4.toN.trans h8).trans g8.toN) h5
    ·simp at h5
  ·simp only [Option.some.injEq,Prod.mk.injEq] at hl
   obtain ⟨rfl,_⟩:=hl
   simp [run] at he
 | seq x y ihx ihy =>
  intro i ci j hl ho R τ H ρ a w k r hat he Q hQ
  simp only [lightC] at hl
  split at hl
  ·rename_i cx jx hx
   split at hl
   ·rename_i cy jy hy
    simp only [Option.some.injEq,Prod.mk.injEq] at hl
    obtain ⟨rfl,_⟩:=hl
    simp only [okC,Bool.and_eq_true] at ho
    simp only [run] at he
    refine wp_seq (ihx hx ho.1 hat he fun ex τ' H' ρ' a' w' h1 h2 h3 => ?_)
    cases ex with
    | normal => exact ihy hy ho.2 h1 h3 fun ex τ2 H2 ρ2 a2 w2 h4 h5 h6 => hQ ex τ2 H2 ρ2 a2 w2 h4 (h2.trans h5) h6
    | exit id => exact hQ (.exit id) τ' H' ρ' a' w' h1 h2 h3
    | ret => exact hQ .ret τ' H' ρ' a' w' h1 h2 h3
   ·simp at hl
  ·simp at hl
 | cond s x y ihx ihy =>
  intro i ci j hl ho R τ H ρ a w k r hat he Q hQ
  simp only [lightC] at hl
  split at hl
  ·rename_i sx cx jx hs hx
   split at hl
   ·rename_i cy jy hy
    simp only [Option.some.injEq,Prod.mk.injEq] at hl
    obtain ⟨rfl,_⟩:=hl
    simp only [okC,Bool.and_eq_true] at ho
    simp only [run] at he
    split at he
    ·rename_i b hb
     have hv:=opL_rel hat.t hs
     rw [hb] at hv
     simp only [VRel] at hv
     refine wp_cond hv ?_
     rcases zg he with ⟨rfl,he⟩ | ⟨rfl,he⟩
     ·exact ihx hx ho.1 (hat.ref hb) he hQ
     ·exact ihy hy ho.2 (hat.ref hb) he hQ
    ·simp at he
   ·simp at hl
  ·simp at hl
 | block id x ih =>
  intro i ci j hl ho R τ H ρ a w k r hat he Q hQ
  simp only [lightC] at hl
  split at hl
  ·rename_i cx jx hx
   simp only [Option.some.injEq,Prod.mk.injEq] at hl
   obtain ⟨rfl,_⟩:=hl
   simp only [okC] at ho
   simp only [run] at he
   refine wp_block (ih hx ho hat he fun ex τ' H' ρ' a' w' h1 h2 h3 => ?_)
   cases ex with
   | normal => exact hQ .normal τ' H' ρ' a' w' h1 h2 h3
   | ret => exact hQ .ret τ' H' ρ' a' w' h1 h2 h3
   | exit id' =>
    simp only [Ex.toExit,Exit.inBlock]
    simp only [blkK] at h3
    rcases zg h3 with ⟨h4,h5⟩ | ⟨h4,h5⟩
    ·rw [if_pos (Nat.eq_of_beq_eq_true h4)]; exact hQ .normal τ' H' ρ' a' w' h1 h2 h5
    ·rw [if_neg (fun e => by rw [e] at h4; simp at h4)]; exact hQ (.exit id') τ' H' ρ' a' w' h1 h2 h5
  ·simp at hl
 | loop x ih =>
  intro i ci j hl ho R τ H ρ a w k r hat he Q hQ
  simp only [lightC] at hl
  split at hl
  ·rename_i nm cx jx hnm hx
   simp only [Option.some.injEq,Prod.mk.injEq] at hl
   obtain ⟨rfl,_⟩:=hl
   simp only [okC] at ho
   simp only [run,normK] at he
   split at he
   ·rename_i τ1 H1 hn
    obtain ⟨ρ1,hat1,hst1⟩:=zmy hat hn
    let J:Nat → Act → World → Prop:=fun m a' w' => ∃ τ' H' ρ',At P N ρ' H' w' τ' a' ∧ StepN n0 ρ w ρ' w' ∧ loopN (run T n0 Z cx) n0 nm m τ' H' k = some r
    have hJ:∃ m,J m a w:=⟨Z,τ1,H1,ρ1,hat1,hst1,he⟩
    classical
    refine wp_loop (fun a' w' => ∃ m,J m a' w') (fun a' w' => if h:∃ m,J m a' w' then Classical.choose (zeM h) else 0) hJ fun a1 w1 hI => ?_
    have hm:=(Classical.choose_spec (zeM hI)).1
    have hμ:(if h:∃ m,J m a1 w1 then Classical.choose (zeM h) else 0) = Classical.choose (zeM hI):=dif_pos hI
    rw [hμ]
    generalize Classical.choose (zeM hI) = m at hm ⊢
    obtain ⟨τ2,H2,ρ2,hat2,hst2,hl2⟩:=hm
    cases m with
    | zero => simp [loopN] at hl2
    | succ m =>
     simp only [loopN] at hl2
     refine ih hx ho hat2 hl2 fun ex τ3 H3 ρ3 a3 w3 h1 h2 h3 => ?_
     cases ex with
     | exit id => exact hQ (.exit id) τ3 H3 ρ3 a3 w3 h1 (hst2.trans h2) h3
     | ret => exact hQ .ret τ3 H3 ρ3 a3 w3 h1 (hst2.trans h2) h3
     | normal =>
      simp only [loopK,normK] at h3
      split at h3
      ·rename_i τ4 H4 hn4
       obtain ⟨ρ4,hat4,hst4⟩:=zmy h1 hn4
       have hJ4:J m a3 w3:=⟨τ4,H4,ρ4,hat4,(hst2.trans h2).trans hst4,h3⟩
       refine ⟨⟨m,hJ4⟩,?_⟩
       have hI4:∃ m,J m a3 w3:=⟨m,hJ4⟩
       rw [dif_pos hI4]
       have:=(Classical.choose_spec (zeM hI4)).2 m hJ4
       omega
      ·simp at h3
   ·simp at he
  ·simp at hl
 | scope x ih =>
  intro i ci j hl ho R τ H ρ a w k r hat he Q hQ
  simp only [lightC] at hl
  split at hl
  ·rename_i cx jx hx
   simp only [Option.some.injEq,Prod.mk.injEq] at hl
   obtain ⟨rfl,_⟩:=hl
   simp only [okC] at ho
   simp only [run,seqK] at he
   refine wp_scope_straight (ih hx ho hat he fun ex τ' H' ρ' a' w' h1 h2 h3 => ?_)
   have hq:=hQ ex τ' H' ρ' a' w' h1 h2 h3
   cases ex <;> exact hq
  ·simp at hl
 | label l =>
  intro i ci j hl ho R τ H ρ a w k r hat he Q hQ
  simp only [lightC,Option.some.injEq,Prod.mk.injEq] at hl
  obtain ⟨rfl,_⟩:=hl
  simp only [run] at he
  exact wp_label (hQ .normal τ H ρ a w hat StepN.refl he)
 | exit id =>
  intro i ci j hl ho R τ H ρ a w k r hat he Q hQ
  simp only [lightC,Option.some.injEq,Prod.mk.injEq] at hl
  obtain ⟨rfl,_⟩:=hl
  simp only [run] at he
  exact wp_exit (hQ (.exit id) τ H ρ a w hat StepN.refl he)
 | ret =>
  intro i ci j hl ho R τ H ρ a w k r hat he Q hQ
  simp only [lightC,Option.some.injEq,Prod.mk.injEq] at hl
  obtain ⟨rfl,_⟩:=hl
  simp only [run] at he
  exact wp_ret (hQ .ret τ H ρ a w hat StepN.refl he)
 | _ =>
  intro i ci j hl ho R τ H ρ a w k r hat he Q hQ
  simp only [lightC,Option.some.injEq,Prod.mk.injEq] at hl
  obtain ⟨rfl,_⟩:=hl
  simp [run] at he
end
end Go.Proofs.YtljojacnjjgceaaGreat.Den
namespace Go.Proofs.YtljojacnjjgceaaGreat.Den
open Go Go.RowKit
inductive Sx where
 | nil
 | dat (K:Kd) (r:Sx)
 | own (d:Nat) (e:Kd) (r:Sx)
 | agg (i r:Sx)
 | grp (i r:Sx)
 | ptr (i r:Sx)
 | parr (K:Kd) (r:Sx)
 | rp (K:Kd) (r:Sx)
 | osl (z:Nat) (i r:Sx)
 | ifc (t:TypeId) (i r:Sx)
 | fnc (g:FuncId) (r:Sx)
 | num (k:IntKind) (n:Int) (r:Sx)
 | nls (r:Sx)
 | mpo (e:Kd) (r:Sx)
@[reducible] def Sx.T:Sx → Type
 | .nil => Unit
 | .dat K r | .rp K r => K.T × r.T
 | .own _ e r => List e.T × r.T
 | .agg i r | .grp i r | .ptr i r | .osl _ i r | .ifc _ i r => i.T × r.T
 | .parr K r => List K.T × r.T
 | .fnc _ r | .num _ _ r | .nls r => r.T
 | .mpo e r => (Int → Int → List e.T) × r.T
def Sx.len:Sx → Nat
 | .nil => 0
 | .dat _ r | .rp _ r | .own _ _ r | .agg _ r | .ptr _ r | .parr _ r | .osl _ _ r | .ifc _ _ r | .fnc _ r | .num _ _ r | .nls r | .mpo _ r => r.len + 1
 | .grp i r => i.len + r.len
def encS:(K:Kd) → K.T → SV
 | .int k,n => .int k n
 | .bool,b => .bool b
 | .list e,xs => .es e xs
 | _,_ => .junk
def enX:(s:Sx) → s.T → Nat → List SV × List Blk
 | .nil,_,_ => ([],[])
 | .dat K r,x,k => (encS K x.1 :: (enX r x.2 k).1,(enX r x.2 k).2)
 | .rp K r,x,k => (.eptr K x.1 0 :: (enX r x.2 k).1,(enX r x.2 k).2)
 | .own d e r,x,k => (.own k :: (enX r x.2 (k + 1)).1,childB d e x.1 :: (enX r x.2 (k + 1)).2)
 | .agg i r,x,k => (.agg (enX i x.1 k).1 :: (enX r x.2 (k + (enX i x.1 k).2.length)).1,(enX i x.1 k).2 ++ (enX r x.2 (k + (enX i x.1 k).2.length)).2)
 | .grp i r,x,k => ((enX i x.1 k).1 ++ (enX r x.2 (k + (enX i x.1 k).2.length)).1,(enX i x.1 k).2 ++ (enX r x.2 (k + (enX i x.1 k).2.length)).2)
 | .ptr i r,x,k => (.ptr k 0 :: (enX r x.2 (k + 1 + (enX i x.1 (k + 1)).2.length)).1,.cells (enX i x.1 (k + 1)).1 0 (enX i x.1 (k + 1)).1.length :: ((enX i x.1 (k + 1)).2 ++ (enX r x.2 (k + 1 + (enX i x.1 (k + 1)).2.length)).2))
 | .parr K r,x,k => (.ptr k 0 :: (enX r x.2 (k + 1)).1,.arr K x.1 0 :: (enX r x.2 (k + 1)).2)
 | .osl z i r,x,k => (.own k :: (enX r x.2 (k + 1 + (enX i x.1 (k + 1)).2.length)).1,.cells (enX i x.1 (k + 1)).1 0 z :: ((enX i x.1 (k + 1)).2 ++ (enX r x.2 (k + 1 + (enX i x.1 (k + 1)).2.length)).2))
 | .ifc t i r,x,k => (.iface t ((enX i x.1 k).1.headD .junk) :: (enX r x.2 (k + (enX i x.1 k).2.length)).1,(enX i x.1 k).2 ++ (enX r x.2 (k + (enX i x.1 k).2.length)).2)
 | .fnc g r,x,k => (.fn (.func g) [] [] :: (enX r x k).1,(enX r x k).2)
 | .num kk n r,x,k => (.int kk n :: (enX r x k).1,(enX r x k).2)
 | .nls r,x,k => (.nils :: (enX r x k).1,(enX r x k).2)
 | .mpo e r,x,k => (.mapp k :: (enX r x.2 (k + 1)).1,.mapo e x.1 none :: (enX r x.2 (k + 1)).2)
def updF {α:Type} (f:Int → Int → List α) (p q:Int) (xs:List α):Int → Int → List α:=fun a b => cond (a == p && b == q) xs (f a b)
def rdM (H:Heap) (e:Kd) (v:SV):Option ((Int → Int → List e.T) × List Nat):=match v with
 | .mapp β => match H[β]? with
  | some (.mapi es) => match es with
   | [] => some (fun _ _ => [],[β])
   | _ => none
  | some (.mapo e' f ex) => if h:e' = e then (match ex with
   | none => some (h ▸ f,[β])
   | some (p,q,s) => match readT true H (.list e) 1 [s] with
    | some x => some (updF (h ▸ f) p q x.1,β :: x.2)
    | none => none) else none
  | _ => none
 | _ => none
def rdX (Hd H:Heap):(s:Sx) → List SV → Option (s.T × List Nat)
 | .nil,[] => some ((),[])
 | .rp K r,v :: vs => match v with
  | .eptr K' y 0 => if h:K' = K then (match rdX Hd H r vs with
   | some z => some ((h ▸ y,z.1),z.2)
   | none => none) else none
  | _ => none
 | .dat K r,v :: vs => match decH true Hd K [v],rdX Hd H r vs with
  | some x,some y => some ((x,y.1),y.2)
  | _,_ => none
 | .own d e r,v :: vs => match readT true H (.list e) (d + 1) [v],rdX Hd H r vs with
  | some x,some y => some ((x.1,y.1),x.2 ++ y.2)
  | _,_ => none
 | .agg i r,v :: vs => match v with
  | .agg cs => match rdX Hd H i cs,rdX Hd H r vs with
   | some x,some y => some ((x.1,y.1),x.2 ++ y.2)
   | _,_ => none
  | _ => none
 | .grp i r,vs => match rdX Hd H i (vs.take i.len),rdX Hd H r (vs.drop i.len) with
  | some x,some y => some ((x.1,y.1),x.2 ++ y.2)
  | _,_ => none
 | .ptr i r,v :: vs => match v with
  | .ptr β 0 => match H[β]? with
   | some (.cells cs _ z) => if z = cs.length then (match rdX Hd H i cs,rdX Hd H r vs with
    | some x,some y => some ((x.1,y.1),β :: (x.2 ++ y.2))
    | _,_ => none) else none
   | _ => none
  | _ => none
 | .parr K r,v :: vs => match v with
  | .ptr β 0 => match H[β]? with
   | some (.arr K' xs _) => if h:K' = K then (match rdX Hd H r vs with
    | some y => some ((h ▸ xs,y.1),β :: y.2)
    | none => none) else none
   | _ => none
  | _ => none
 | .osl z i r,v :: vs => match v with
  | .own β => match H[β]? with
   | some (.cells cs _ z') => if z' = z ∧ cs.length ≠ 0 then (match rdX Hd H i cs,rdX Hd H r vs with
    | some x,some y => some ((x.1,y.1),β :: (x.2 ++ y.2))
    | _,_ => none) else none
   | _ => none
  | _ => none
 | .ifc t i r,v :: vs => match v with
  | .iface t' c => if t' = t then (match rdX Hd H i [c],rdX Hd H r vs with
   | some x,some y => some ((x.1,y.1),x.2 ++ y.2)
   | _,_ => none) else none
  | _ => none
 | .fnc g r,v :: vs => match v with
  | .fn (.func g') [] [] => if g' = g then rdX Hd H r vs else none
  | _ => none
 | .num k n r,v :: vs => match v with
  | .int k' n' => if k' = k ∧ n' = n then rdX Hd H r vs else none
  | _ => none
 | .nls r,v :: vs => match v with
  | .nils => rdX Hd H r vs
  | _ => none
 | .mpo e r,v :: vs => match rdM H e v,rdX Hd H r vs with
  | some x,some y => some ((x.1,y.1),x.2 ++ y.2)
  | _,_ => none
 | _,_ => none
def MapW (w:World) (B:Nat → Prop) (e:Kd) (f:Int → Int → List e.T) (u:Value) (p:List (Nat × List Nat)):Prop :=
 ∃ b A c es tk,u = .map (some b) ∧ p = [(b,tk)] ∧ w.heap[b]? = some (.map A c) ∧ MapRel A es ∧ (A.toList.map MapEntry.key).Nodup ∧ (∀ p q,(∀ x ∈ A.toList,x.key ≠ keyV p q) → f p q = []) ∧
  EntO (fun p q u t => TreeC w B (.list e) 1 (f p q) [u] t) none (fun _ => True) A.toList tk
def WX (w:World) (B:Nat → Prop):(s:Sx) → s.T → List Value → List (Nat × List Nat) → Prop
 | .nil,_,us,ps => us = [] ∧ ps = []
 | .dat K r,x,us,ps => ∃ u us',us = u :: us' ∧ CRel w B K x.1 [u] ∧ WX w B r x.2 us' ps
 | .rp K r,x,us,ps => ∃ (ad:Addr) (us':List Value),us = .pointer (some (ad.add 0)) :: us' ∧ CRel w B (.list K) [x.1] [.slice (some ad) 1 1] ∧ WX w B r x.2 us' ps
 | .own d e r,x,us,ps => ∃ u us' p1 p2,us = u :: us' ∧ ps = p1 ++ p2 ∧ TreeF w B (.list e) (d + 1) x.1 [u] p1 ∧ WX w B r x.2 us' p2
 | .agg i r,x,us,ps => ∃ (a:Array Value) (us':List Value) (p1 p2:List (Nat × List Nat)),us = .agg a :: us' ∧ ps = p1 ++ p2 ∧ WX w B i x.1 a.toList p1 ∧ WX w B r x.2 us' p2
 | .grp i r,x,us,ps => ∃ u1 u2 p1 p2,us = u1 ++ u2 ∧ ps = p1 ++ p2 ∧ WX w B i x.1 u1 p1 ∧ WX w B r x.2 u2 p2
 | .ptr i r,x,us,ps => ∃ b o C tC vs us' p1 p2,us = .pointer (some ⟨b,o,none⟩) :: us' ∧ ps = (b,[]) :: (p1 ++ p2) ∧ w.heap[b]? = some (.cells C tC (0,0)) ∧ o + vs.length ≤ C.size ∧
   (∀ (j:Nat) (u:Value),vs[j]? = some u → C[o + j]? = some u) ∧ WX w B i x.1 vs p1 ∧ WX w B r x.2 us' p2
 | .parr K r,x,us,ps => ∃ b o C tC us' p2,us = .pointer (some ⟨b,o,none⟩) :: us' ∧ ps = (b,[]) :: p2 ∧ w.heap[b]? = some (.cells C tC (0,0)) ∧ o + x.1.length * K.sz ≤ C.size ∧ RowRel w B K x.1 C o ∧ WX w B r x.2 us' p2
 | .osl z i r,x,us,ps => ∃ b o c C tC vs us' p1 p2 n,us = .slice (some ⟨b,o,none⟩) n c :: us' ∧ ps = (b,[]) :: (p1 ++ p2) ∧ n ≤ c ∧ w.heap[b]? = some (.cells C tC (0,0)) ∧ o + c * z ≤ C.size ∧ vs.length = n * z ∧
   (∀ (j:Nat) (u:Value),vs[j]? = some u → C[o + j]? = some u) ∧ WX w B i x.1 vs p1 ∧ WX w B r x.2 us' p2
 | .ifc t i r,x,us,ps => ∃ u us' p1 p2,us = .iface t u :: us' ∧ ps = p1 ++ p2 ∧ WX w B i x.1 [u] p1 ∧ WX w B r x.2 us' p2
 | .fnc g r,x,us,ps => ∃ us',us = .func (.func g) #[] #[] :: us' ∧ WX w B r x us' ps
 | .num k n r,x,us,ps => ∃ us',us = .int k n :: us' ∧ WX w B r x us' ps
 | .nls r,x,us,ps => ∃ a us',us = .slice a 0 0 :: us' ∧ WX w B r x us' ps
 | .mpo e r,x,us,ps => ∃ u us' p1 p2,us = u :: us' ∧ ps = p1 ++ p2 ∧ MapW w B e x.1 u p1 ∧ WX w B r x.2 us' p2
section
variable {w w':World} {ρ ρ':Map} {H H':Heap} {B B':Nat → Prop}
theorem zHn (hB:∀ b,B b → Free ρ w b):∀ {K:Kd} {x:K.T} {u:Value},CRel w B K x [u] → VRel ρ w (encS K x) u
 | .int k,x,u,h => by simp only [CRel,List.cons.injEq,and_true] at h; simp only [encS,VRel]; exact h
 | .bool,x,u,h => by simp only [CRel,List.cons.injEq,and_true] at h; simp only [encS,VRel]; exact h
 | .unit,x,u,h => by simp [encS,VRel]
 | .pair a b,x,u,h => by simp [encS,VRel]
 | .list e,x,u,h => by simp only [encS,VRel]; exact CRel.mono hB (fun _ _ => rfl) h
theorem WX.len:∀ {s:Sx} {x:s.T} {us:List Value} {ps:List (Nat × List Nat)},WX w B s x us ps → us.length = s.len
 | .nil,_,_,_,h => by rw [h.1]; rfl
 | .dat K r,_,_,_,h => by obtain ⟨u,us',rfl,_,h⟩:=h; simp [Sx.len,h.len]
 | .rp K r,_,_,_,h => by obtain ⟨ad,us',rfl,_,h⟩:=h; simp [Sx.len,h.len]
 | .own d e r,_,_,_,h => by obtain ⟨u,us',p1,p2,rfl,_,_,h⟩:=h; simp [Sx.len,h.len]
 | .agg i r,_,_,_,h => by obtain ⟨u,us',p1,p2,rfl,_,_,h⟩:=h; simp [Sx.len,h.len]
 | .grp i r,_,_,_,h => by obtain ⟨u,us',p1,p2,rfl,_,h1,h⟩:=h; simp [Sx.len,h.len,h1.len]
 | .ptr i r,_,_,_,h => by obtain ⟨b,o,C,tC,vs,us',p1,p2,rfl,_,_,_,_,_,h⟩:=h; simp [Sx.len,h.len]
 | .parr K r,_,_,_,h => by obtain ⟨b,o,C,tC,us',p2,rfl,_,_,_,_,h⟩:=h; simp [Sx.len,h.len]
 | .osl z i r,_,_,_,h => by obtain ⟨b,o,c,C,tC,vs,us',p1,p2,n,rfl,_,_,_,_,_,_,_,h⟩:=h; simp [Sx.len,h.len]
 | .ifc t i r,_,_,_,h => by obtain ⟨u,us',p1,p2,rfl,_,_,h⟩:=h; simp [Sx.len,h.len]
 | .fnc g r,_,_,_,h => by obtain ⟨us',rfl,h⟩:=h; simp [Sx.len,WX.len (s:=r) h]
 | .num k n r,_,_,_,h => by obtain ⟨us',rfl,h⟩:=h; simp [Sx.len,WX.len (s:=r) h]
 | .nls r,_,_,_,h => by obtain ⟨a,us',rfl,h⟩:=h; simp [Sx.len,WX.len (s:=r) h]
 | .mpo e r,_,_,_,h => by obtain ⟨u,us',p1,p2,rfl,_,_,h⟩:=h; simp [Sx.len,h.len]
theorem TreeF.keep (hc:∀ (K:Kd) (x:K.T) (cs:List Value),CRel w B K x cs → CRel w' B' K x cs):∀ {K:Kd} {d:Nat} {x:K.T} {cs:List Value} {ps:List (Nat × List Nat)},(∀ b ∈ flatF ps,w'.heap[b]? = w.heap[b]?) → TreeF w B K d x cs ps → TreeF w' B' K d x cs ps
 | .int k,_,_,_,_,_,h => h
 | .bool,_,_,_,_,_,h => h
 | .unit,_,_,_,_,_,h => h
 | .pair a b,d,x,cs,ps,hk,h => by
  simp only [TreeF] at h ⊢
  obtain ⟨c1,c2,p1,p2,h1,rfl,h3,h4⟩:=h
  rw [zk] at hk
  exact ⟨c1,c2,p1,p2,h1,rfl,TreeF.keep hc (fun b hb => hk b (List.mem_append.2 (.inl hb))) h3,TreeF.keep hc (fun b hb => hk b (List.mem_append.2 (.inr hb))) h4⟩
 | .list e,0,xs,cs,ps,hk,h => by
  simp only [TreeF] at h ⊢
  exact ⟨hc _ _ _ h.1,h.2⟩
 | .list e,d + 1,xs,cs,ps,hk,h => by
  simp only [TreeF] at h ⊢
  rcases h with h | ⟨b,o,c,C,tC,us,t',rfl,h1,h2,h3,h4,h5,h6,h7⟩
  ·exact .inl h
  ·simp [flatF] at hk
   exact .inr ⟨b,o,c,C,tC,us,t',rfl,h1,h2,by rw [hk.1]; exact h3,h4,h5,h6,h7.mono fun x _ c t ht h8 => TreeC.keep hc (fun b' hb' => hk.2 b' (ht b' hb')) h8⟩
theorem MapW.keep (hc:∀ (K:Kd) (x:K.T) (cs:List Value),CRel w B K x cs → CRel w' B' K x cs) {e:Kd} {f:Int → Int → List e.T} {u:Value} {p:List (Nat × List Nat)} (hk:∀ b ∈ flatF p,w'.heap[b]? = w.heap[b]?) (h:MapW w B e f u p):MapW w' B' e f u p:=by
 obtain ⟨b,A,c,es,tk,rfl,rfl,h1,h2,h3,h4,h5⟩:=h
 have e1:flatF [(b,tk)] = b :: tk:=by simp [flatF]
 rw [e1] at hk
 exact ⟨b,A,c,es,tk,rfl,rfl,by rw [hk b (by simp)]; exact h1,h2,h3,h4,h5.mono (fun _ h => h) fun _ _ _ t ht h => h.keep hc fun b' hb' => hk b' (by simp [ht b' hb'])⟩
theorem WX.keep (hc:∀ (K:Kd) (x:K.T) (cs:List Value),CRel w B K x cs → CRel w' B' K x cs):∀ {s:Sx} {x:s.T} {us:List Value} {ps:List (Nat × List Nat)},(∀ b ∈ flatF ps,w'.heap[b]? = w.heap[b]?) → WX w B s x us ps → WX w' B' s x us ps
 | .nil,_,_,_,_,h => h
 | .dat K r,_,_,_,hk,h => by obtain ⟨u,us',rfl,h1,h⟩:=h; exact ⟨u,us',rfl,hc _ _ _ h1,h.keep hc hk⟩
 | .rp K r,_,_,_,hk,h => by obtain ⟨ad,us',rfl,h1,h⟩:=h; exact ⟨ad,us',rfl,hc _ _ _ h1,h.keep hc hk⟩
 | .own d e r,_,_,_,hk,h => by
  obtain ⟨u,us',p1,p2,rfl,rfl,h1,h⟩:=h
  rw [zk] at hk
  exact ⟨u,us',p1,p2,rfl,rfl,h1.keep hc fun b hb => hk b (List.mem_append.2 (.inl hb)),h.keep hc fun b hb => hk b (List.mem_append.2 (.inr hb))⟩
 | .agg i r,_,_,_,hk,h => by
  obtain ⟨u,us',p1,p2,rfl,rfl,h1,h⟩:=h
  rw [zk] at hk
  exact ⟨u,us',p1,p2,rfl,rfl,h1.keep hc fun b hb => hk b (List.mem_append.2 (.inl hb)),h.keep hc fun b hb => hk b (List.mem_append.2 (.inr hb))⟩
 | .grp i r,_,_,_,hk,h => by
  obtain ⟨u,us',p1,p2,rfl,rfl,h1,h⟩:=h
  rw [zk] at hk
  exact ⟨u,us',p1,p2,rfl,rfl,h1.keep hc fun b hb => hk b (List.mem_append.2 (.inl hb)),h.keep hc fun b hb => hk b (List.mem_append.2 (.inr hb))⟩
 | .ptr i r,_,_,_,hk,h => by
  obtain ⟨b,o,C,tC,vs,us',p1,p2,rfl,rfl,h1,h2,h3,h4,h⟩:=h
  have e:flatF ((b,[]) :: (p1 ++ p2)) = b :: (flatF p1 ++ flatF p2):=by simp [flatF]
  rw [e] at hk
  exact ⟨b,o,C,tC,vs,us',p1,p2,rfl,rfl,by rw [hk b (by simp)]; exact h1,h2,h3,h4.keep hc fun b hb => hk b (by simp [hb]),h.keep hc fun b hb => hk b (by simp [hb])⟩
 | .parr K r,_,_,_,hk,h => by
  obtain ⟨b,o,C,tC,us',p2,rfl,rfl,h1,h2,h3,h⟩:=h
  have e:flatF ((b,[]) :: p2) = b :: flatF p2:=by simp [flatF]
  rw [e] at hk
  refine ⟨b,o,C,tC,us',p2,rfl,rfl,by rw [hk b (by simp)]; exact h1,h2,fun i y hy => ?_,h.keep hc fun b hb => hk b (by simp [hb])⟩
  obtain ⟨es,h4,h5⟩:=h3 i y hy
  exact ⟨es,hc _ _ _ h4,h5⟩
 | .osl z i r,_,_,_,hk,h => by
  obtain ⟨b,o,c,C,tC,vs,us',p1,p2,n,rfl,rfl,h0,h1,h2,h2',h3,h4,h⟩:=h
  have e:flatF ((b,[]) :: (p1 ++ p2)) = b :: (flatF p1 ++ flatF p2):=by simp [flatF]
  rw [e] at hk
  exact ⟨b,o,c,C,tC,vs,us',p1,p2,n,rfl,rfl,h0,by rw [hk b (by simp)]; exact h1,h2,h2',h3,h4.keep hc fun b hb => hk b (by simp [hb]),h.keep hc fun b hb => hk b (by simp [hb])⟩
 | .ifc t i r,_,_,_,hk,h => by
  obtain ⟨u,us',p1,p2,rfl,rfl,h1,h⟩:=h
  rw [zk] at hk
  exact ⟨u,us',p1,p2,rfl,rfl,h1.keep hc fun b hb => hk b (List.mem_append.2 (.inl hb)),h.keep hc fun b hb => hk b (List.mem_append.2 (.inr hb))⟩
 | .fnc g r,_,_,_,hk,h => by obtain ⟨us',rfl,h⟩:=h; exact ⟨us',rfl,WX.keep hc (s:=r) hk h⟩
 | .num k n r,_,_,_,hk,h => by obtain ⟨us',rfl,h⟩:=h; exact ⟨us',rfl,WX.keep hc (s:=r) hk h⟩
 | .nls r,_,_,_,hk,h => by obtain ⟨a,us',rfl,h⟩:=h; exact ⟨a,us',rfl,WX.keep hc (s:=r) hk h⟩
 | .mpo e r,_,_,_,hk,h => by
  obtain ⟨u,us',p1,p2,rfl,rfl,h1,h⟩:=h
  rw [zk] at hk
  exact ⟨u,us',p1,p2,rfl,rfl,h1.keep hc fun b hb => hk b (List.mem_append.2 (.inl hb)),h.keep hc fun b hb => hk b (List.mem_append.2 (.inr hb))⟩
theorem WX.monoB (hB:∀ b,B b → B' b) {s:Sx} {x:s.T} {us:List Value} {ps:List (Nat × List Nat)} (h:WX w B s x us ps):WX w B' s x us ps :=
 h.keep (fun _ _ _ hc => CRel.mono hB (fun _ _ => rfl) hc) fun _ _ => rfl
def EntX (w:World) (ps:List (Nat × List Nat)) (bs:List Blk) (ms:List Img) (k:Nat) (B:Nat → Prop) (Q:Map → Prop):Prop :=
 ms.length = bs.length ∧ imgB ms = ps.map Prod.fst ∧ ∀ ρ:Map,(∀ b,B b → Free ρ w b) → Agree ρ k ms → (∀ p ∈ ps,∀ b ∈ p.2,ρ.vl b = some p.1) → Q ρ ∧ ∀ (i:Nat) (x':Blk) (m:Img),bs[i]? = some x' → ms[i]? = some m → ChildAt ρ w x' m
theorem EntX.append {p1 p2:List (Nat × List Nat)} {b1 b2:List Blk} {m1 m2:List Img} {k:Nat} {Q1 Q2 Q:Map → Prop} (h1:EntX w p1 b1 m1 k B Q1) (h2:EntX w p2 b2 m2 (k + b1.length) B Q2) (hq:∀ ρ,Q1 ρ → Q2 ρ → Q ρ):EntX w (p1 ++ p2) (b1 ++ b2) (m1 ++ m2) k B Q:=by
 obtain ⟨g1,g2,g3⟩:=h1
 obtain ⟨k1,k2,k3⟩:=h2
 refine ⟨by simp [g1,k1],by rw [zcy,g2,k2,List.map_append],fun ρ hB ha hv => ?_⟩
 have ha2:=ha.split
 rw [g1] at ha2
 obtain ⟨g4,g5⟩:=g3 ρ hB ha2.1 fun p hp => hv p (List.mem_append.2 (.inl hp))
 obtain ⟨k4,k5⟩:=k3 ρ hB ha2.2 fun p hp => hv p (List.mem_append.2 (.inr hp))
 refine ⟨hq ρ g4 k4,fun i x' m hx hm => ?_⟩
 rcases Nat.lt_or_ge i b1.length with hi | hi
 ·rw [List.getElem?_append_left hi] at hx
  rw [List.getElem?_append_left (by rw [g1]; exact hi)] at hm
  exact g5 i x' m hx hm
 ·rw [List.getElem?_append_right hi] at hx
  rw [List.getElem?_append_right (by rw [g1]; exact hi),g1] at hm
  exact k5 _ x' m hx hm
theorem EntX.one {p:List (Nat × List Nat)} {x:Blk} {m:Img} {k:Nat} {Q:Map → Prop} (h1:imgB [m] = p.map Prod.fst) (h:∀ ρ:Map,(∀ b,B b → Free ρ w b) → ρ k = m → (∀ q ∈ p,∀ b ∈ q.2,ρ.vl b = some q.1) → Q ρ ∧ ChildAt ρ w x m):EntX w p [x] [m] k B Q :=
 ⟨rfl,h1,fun ρ hB ha hv => by
  obtain ⟨h2,h3⟩:=h ρ hB (ha 0 m rfl) hv
  refine ⟨h2,fun i x' m' hx hm => ?_⟩
  cases i with
  | zero => simp at hx hm; subst hx; subst hm; exact h3
  | succ i => simp at hx⟩
theorem EntX.mono {p:List (Nat × List Nat)} {bs:List Blk} {ms:List Img} {k:Nat} {Q Q':Map → Prop} (h:EntX w p bs ms k B Q) (hq:∀ ρ,(∀ b,B b → Free ρ w b) → Q ρ → Q' ρ):EntX w p bs ms k B Q' :=
 ⟨h.1,h.2.1,fun ρ hB ha hv => ⟨hq ρ hB (h.2.2 ρ hB ha hv).1,(h.2.2 ρ hB ha hv).2⟩⟩
theorem MapW.ent {e:Kd} {f:Int → Int → List e.T} {u:Value} {p:List (Nat × List Nat)} (h:MapW w B e f u p) (hnd:(flatF p).Nodup) (k:Nat):∃ ms,EntX w p [.mapo e f none] ms k B fun ρ => VRels ρ w [.mapp k] [u]:=by
 obtain ⟨b,A,c,es,tk,rfl,rfl,h1,h2,h3,h4,h5⟩:=h
 have e1:flatF [(b,tk)] = b :: tk:=by simp [flatF]
 rw [e1] at hnd
 refine ⟨[.at b 0 0 0],EntX.one rfl fun ρ hB hk hv => ⟨by simp only [VRels,VRel,hk]; exact ⟨_,[],rfl,rfl,rfl⟩,.inr ⟨_,_,_,_,rfl,?_⟩⟩⟩
 simp only [BRel]
 exact ⟨trivial,trivial,A,c,es,tk,h1,h2,h3,fun p q hp => ⟨fun _ => h4 p q hp,fun v hv => by cases hv⟩,h5.mono (fun u _ x hx => by cases hx) fun _ _ _ t ht h => h.monoB hB,(List.nodup_cons.1 hnd).2,fun b' hb' => hv (b,tk) (by simp) b' hb'⟩
theorem WX.ent:∀ {s:Sx} {x:s.T} {us:List Value} {ps:List (Nat × List Nat)},WX w B s x us ps → (flatF ps).Nodup → ∀ k,∃ ms,EntX w ps (enX s x k).2 ms k B fun ρ => VRels ρ w (enX s x k).1 us
 | .nil,_,_,_,h,_,k => ⟨[],rfl,by rw [h.2]; rfl,fun ρ _ _ _ => ⟨by rw [h.1]; simp [enX,VRels],fun i x' m h => by simp [enX] at h⟩⟩
 | .rp K r,x,_,_,h,hnd,k => by
  obtain ⟨ad,us',rfl,h1,h⟩:=h
  obtain ⟨ms,h2⟩:=h.ent hnd k
  refine ⟨ms,h2.mono fun ρ hB h3 => ?_⟩
  simp only [CRel] at h1
  obtain ⟨a,c,e1,_,h4⟩:=h1
  simp only [List.cons.injEq,Value.slice.injEq,and_true] at e1
  obtain ⟨rfl,_,_⟩:=e1
  obtain ⟨ad',e2,h5,h6⟩:=h4 (by simp)
  cases e2
  obtain ⟨es,h7,h8⟩:=h6 0 x.1 rfl
  simp only [enX,VRels,VRel]
  exact ⟨_,us',rfl,⟨ad,es,rfl,CRel.mono hB (fun _ _ => rfl) h7,hB _ h5,fun j u hj => by simpa using h8 j u hj⟩,h3⟩
 | .dat K r,_,_,_,h,hnd,k => by
  obtain ⟨u,us',rfl,h1,h⟩:=h
  obtain ⟨ms,h2⟩:=h.ent hnd k
  exact ⟨ms,h2.mono fun ρ hB h3 => by simp only [enX,VRels]; exact ⟨u,us',rfl,zHn hB h1,h3⟩⟩
 | .own d e r,_,_,_,h,hnd,k => by
  obtain ⟨u,us',p1,p2,rfl,rfl,h1,h⟩:=h
  rw [zk] at hnd
  obtain ⟨n1,n2,_⟩:=List.nodup_append.1 hnd
  obtain ⟨m1,g1,g2,g3⟩:=h1.ent n1 k
  obtain ⟨m2,k2⟩:=h.ent n2 (k + 1)
  exact ⟨m1 ++ m2,EntX.append (b1:=[childB d e _]) (Q1:=fun ρ => VRels ρ w [.own k] [u]) ⟨g1,g2,g3⟩ k2 fun ρ h3 h4 => by
   obtain ⟨u',e1,h5⟩:=h3.single'
   cases e1
   simp only [enX,VRels]
   exact ⟨u,us',rfl,h5,h4⟩⟩
 | .agg i r,_,_,_,h,hnd,k => by
  obtain ⟨a,us',p1,p2,rfl,rfl,h1,h⟩:=h
  rw [zk] at hnd
  obtain ⟨n1,n2,_⟩:=List.nodup_append.1 hnd
  obtain ⟨m1,g⟩:=h1.ent n1 k
  obtain ⟨m2,g2⟩:=h.ent n2 (k + (enX i _ k).2.length)
  exact ⟨m1 ++ m2,g.append g2 fun ρ h3 h4 => by simp only [enX,VRels,VRel]; exact ⟨_,us',rfl,⟨a,rfl,h3⟩,h4⟩⟩
 | .grp i r,_,_,_,h,hnd,k => by
  obtain ⟨u1,u2,p1,p2,rfl,rfl,h1,h⟩:=h
  rw [zk] at hnd
  obtain ⟨n1,n2,_⟩:=List.nodup_append.1 hnd
  obtain ⟨m1,g⟩:=h1.ent n1 k
  obtain ⟨m2,g2⟩:=h.ent n2 (k + (enX i _ k).2.length)
  exact ⟨m1 ++ m2,g.append g2 fun ρ h3 h4 => by simp only [enX]; exact h3.append h4⟩
 | .ptr i r,x,_,_,h,hnd,k => by
  obtain ⟨b,o,C,tC,vs,us',p1,p2,rfl,rfl,h1,h2,h3,h4,h⟩:=h
  have e:flatF ((b,[]) :: (p1 ++ p2)) = b :: (flatF p1 ++ flatF p2):=by simp [flatF]
  rw [e] at hnd
  obtain ⟨n1,n2,_⟩:=List.nodup_append.1 (List.nodup_cons.1 hnd).2
  obtain ⟨m1,g⟩:=h4.ent n1 (k + 1)
  obtain ⟨m2,g2⟩:=h.ent n2 (k + 1 + (enX i x.1 (k + 1)).2.length)
  have hin:=g.append g2 fun ρ h5 h6 => And.intro h5 h6
  refine ⟨.at b o 1 vs.length :: (m1 ++ m2),by simp [enX,hin.1,g.1,g2.1],by simp only [imgB,List.map_cons]; rw [hin.2.1],fun ρ hB ha hv => ?_⟩
  have ha2:ρ k = .at b o 1 vs.length ∧ Agree ρ (k + 1) (m1 ++ m2):=⟨ha 0 _ rfl,fun j m hm => by rw [← ha (j + 1) m (by simpa using hm)]; congr 1; omega⟩
  obtain ⟨⟨g5,g6⟩,g7⟩:=hin.2.2 ρ hB ha2.2 fun p hp => hv p (List.mem_cons_of_mem _ hp)
  refine ⟨by simp only [enX,VRels,VRel,ha2.1]; exact ⟨_,us',rfl,by simp,g6⟩,fun j x' m hx hm => ?_⟩
  simp only [enX] at hx
  cases j with
  | zero =>
   simp at hx hm
   subst hx; subst hm
   refine .inr ⟨_,_,_,_,rfl,?_⟩
   simp only [BRel]
   refine ⟨by rw [g5.length],by rw [g5.length]; simp,C,tC,h1,by simpa using h2,fun q s hs => ?_⟩
   obtain ⟨u,h8,h9⟩:=g5.get q s hs
   exact ⟨u,h3 q u h8,h9⟩
  | succ j => exact g7 j x' m (by simpa using hx) (by simpa using hm)
 | .parr K r,x,_,_,h,hnd,k => by
  obtain ⟨b,o,C,tC,us',p2,rfl,rfl,h1,h2,h3,h⟩:=h
  have e:flatF ((b,[]) :: p2) = b :: flatF p2:=by simp [flatF]
  rw [e] at hnd
  obtain ⟨m2,g2⟩:=h.ent (List.nodup_cons.1 hnd).2 (k + 1)
  refine ⟨.at b o x.1.length K.sz :: m2,EntX.append (p1:=[(b,[])]) (b1:=[.arr K x.1 0]) (m1:=[.at b o x.1.length K.sz]) (Q1:=fun ρ => ρ k = .at b o x.1.length K.sz) (EntX.one rfl fun ρ hB hk _ => ⟨hk,.inr ⟨_,_,_,_,rfl,?_⟩⟩) g2 fun ρ h5 h6 => ?_⟩
  ·simp only [BRel]
   refine ⟨trivial,trivial,C,tC,h1,h2,fun i y hy => ?_⟩
   obtain ⟨es,h4,h5⟩:=h3 i y hy
   exact ⟨es,CRel.mono hB (fun _ _ => rfl) h4,h5⟩
  ·simp only [enX,VRels,VRel,h5]
   exact ⟨_,us',rfl,by simp,h6⟩
 | .osl z i r,x,_,_,h,hnd,k => by
  obtain ⟨b,o,c,C,tC,vs,us',p1,p2,n,rfl,rfl,h0,h1,h2,h2',h3,h4,h⟩:=h
  have e:flatF ((b,[]) :: (p1 ++ p2)) = b :: (flatF p1 ++ flatF p2):=by simp [flatF]
  rw [e] at hnd
  obtain ⟨n1,n2,_⟩:=List.nodup_append.1 (List.nodup_cons.1 hnd).2
  obtain ⟨m1,g⟩:=h4.ent n1 (k + 1)
  obtain ⟨m2,g2⟩:=h.ent n2 (k + 1 + (enX i x.1 (k + 1)).2.length)
  have hin:=g.append g2 fun ρ h5 h6 => And.intro h5 h6
  have hle:n * z ≤ c * z:=Nat.mul_le_mul_right _ h0
  refine ⟨.at b o n z :: (m1 ++ m2),by simp [enX,hin.1,g.1,g2.1],by simp only [imgB,List.map_cons]; rw [hin.2.1],fun ρ hB ha hv => ?_⟩
  have ha2:ρ k = .at b o n z ∧ Agree ρ (k + 1) (m1 ++ m2):=⟨ha 0 _ rfl,fun j m hm => by rw [← ha (j + 1) m (by simpa using hm)]; congr 1; omega⟩
  obtain ⟨⟨g5,g6⟩,g7⟩:=hin.2.2 ρ hB ha2.2 fun p hp => hv p (List.mem_cons_of_mem _ hp)
  refine ⟨by simp only [enX,VRels,VRel,ha2.1]; exact ⟨_,us',rfl,⟨c,h0,rfl,C,tC,h1,h2⟩,g6⟩,fun j x' m hx hm => ?_⟩
  simp only [enX] at hx
  cases j with
  | zero =>
   simp at hx hm
   subst hx; subst hm
   refine .inr ⟨_,_,_,_,rfl,?_⟩
   simp only [BRel]
   refine ⟨trivial,by rw [g5.length]; exact h2',C,tC,h1,by omega,fun q s hs => ?_⟩
   obtain ⟨u,h8,h9⟩:=g5.get q s hs
   exact ⟨u,h3 q u h8,h9⟩
  | succ j => exact g7 j x' m (by simpa using hx) (by simpa using hm)
 | .ifc t i r,_,_,_,h,hnd,k => by
  obtain ⟨u,us',p1,p2,rfl,rfl,h1,h⟩:=h
  rw [zk] at hnd
  obtain ⟨n1,n2,_⟩:=List.nodup_append.1 hnd
  obtain ⟨m1,g⟩:=h1.ent n1 k
  obtain ⟨m2,g2⟩:=h.ent n2 (k + (enX i _ k).2.length)
  exact ⟨m1 ++ m2,g.append g2 fun ρ h3 h4 => by
   obtain ⟨s,hs⟩:∃ s,(enX i _ k).1 = [s]:=by
    have:=h3.length
    match hq:(enX i _ k).1,this with
    | [s],_ => exact ⟨s,hq⟩
   rw [hs] at h3
   obtain ⟨u',e1,h5⟩:=h3.single'
   cases e1
   simp only [enX,VRels,VRel,hs]
   exact ⟨_,us',rfl,⟨u,rfl,h5⟩,h4⟩⟩
 | .fnc g r,x,_,_,h,hnd,k => by
  obtain ⟨us',rfl,h⟩:=h
  obtain ⟨ms,h2⟩:=WX.ent (s:=r) h hnd k
  exact ⟨ms,h2.mono fun ρ hB h3 => by simp only [enX,VRels,VRel]; exact ⟨_,us',rfl,⟨#[],#[],rfl,rfl,rfl⟩,h3⟩⟩
 | .num kk n r,x,_,_,h,hnd,k => by
  obtain ⟨us',rfl,h⟩:=h
  obtain ⟨ms,h2⟩:=WX.ent (s:=r) h hnd k
  exact ⟨ms,h2.mono fun ρ hB h3 => by simp only [enX,VRels,VRel]; exact ⟨_,us',rfl,rfl,h3⟩⟩
 | .nls r,x,_,_,h,hnd,k => by
  obtain ⟨a,us',rfl,h⟩:=h
  obtain ⟨ms,h2⟩:=WX.ent (s:=r) h hnd k
  exact ⟨ms,h2.mono fun ρ hB h3 => by simp only [enX,VRels,VRel]; exact ⟨_,us',rfl,⟨a,rfl⟩,h3⟩⟩
 | .mpo e r,_,_,_,h,hnd,k => by
  obtain ⟨u,us',p1,p2,rfl,rfl,h1,h⟩:=h
  rw [zk] at hnd
  obtain ⟨n1,n2,_⟩:=List.nodup_append.1 hnd
  obtain ⟨m1,g1⟩:=h1.ent n1 k
  obtain ⟨m2,k2⟩:=h.ent n2 (k + 1)
  exact ⟨m1 ++ m2,EntX.append (b1:=[.mapo e _ none]) g1 k2 fun ρ h3 h4 => by
   obtain ⟨u',e1,h5⟩:=h3.single'
   cases e1
   simp only [enX,VRels]
   exact ⟨u,us',rfl,h5,h4⟩⟩
noncomputable def Map.give (ρ:Map) (ids:List Nat):Map :=
 ⟨fun γ => if γ ∈ ids ∧ (ρ γ).born = true then .dead else ρ γ,fun b => ρ.res0 b ∨ Tok ρ ids b,fun b => open Classical in if Tok ρ ids b then none else ρ.vl b⟩
theorem zHo {ids:List Nat} {b:Nat} (h:Free ρ w b):Free (ρ.give ids) w b:=by
 have ht:¬ Tok ρ ids b:=fun h2 => zil h h2.ours
 refine ⟨h.1,fun hr => ?_,fun β o n sz hb => ?_⟩
 ·rcases hr with (hr | hr) | hr
  ·exact h.2.1 (.inl hr)
  ·exact ht hr
  ·simp only [Map.give,if_neg ht] at hr
   exact h.2.1 (.inr hr)
 ·simp only [Map.give] at hb
  split at hb
  ·cases hb
  ·exact h.2.2 _ _ _ _ hb
theorem zwn (ids:List Nat):StepF ρ w (ρ.give ids) w where
 free _ h:=zHo h
 kept _ _:=rfl
 shape _ C _ _ h:=⟨C,h,rfl⟩
 ref β hu:=by
  simp only [Map.give]
  split
  ·exact .inr rfl
  ·exact .inl rfl
theorem give_at {ids:List Nat} {γ b o n sz:Nat} (h:(ρ.give ids) γ = .at b o n sz):γ ∉ ids ∧ ρ γ = .at b o n sz:=by
 simp only [Map.give] at h
 split at h
 ·cases h
 ·rename_i h2
  exact ⟨fun h3 => h2 ⟨h3,by rw [h]; rfl⟩,h⟩
theorem zHp (hH:HRel ρ H w) (ids:List Nat):HRel (ρ.give ids) (kill ids H) w where
 dead γ hl hd:=by
  rw [zc] at hl
  rw [zj]
  simp only [Map.give] at hd
  split at hd
  ·rename_i h; rw [if_pos ⟨h.1,hl⟩]
  ·split
   ·rfl
   ·exact hH.dead γ hl hd
 none_ γ hl hd:=by
  rw [zc] at hl
  simp only [Map.give] at hd
  split at hd
  ·cases hd
  ·rename_i h
   rw [zj,if_neg (fun h4 => h ⟨h4.1,by rw [hd]; rfl⟩)]
   exact hH.none_ γ hl hd
 at_ γ hl b o n sz hd:=by
  rw [zc] at hl
  obtain ⟨h1,h2⟩:=give_at hd
  obtain ⟨x,h3,h4⟩:=hH.at_ γ hl _ _ _ _ h2
  refine ⟨x,by rw [zj,if_neg (fun h => h1 h.1)]; exact h3,h4.keepF (zwn ids) rfl fun b' hb' => ⟨rfl,?_⟩⟩
  simp only [Map.give]
  rw [if_neg (fun h => zo hH (i1:=[γ]) (by simpa using h1) ⟨γ,by simp,_,_,_,_,h2,.inr hb'⟩ h)]
  exact hb'
 inj β γ b o n sz o' n' sz' h1 h2:=hH.inj _ _ _ _ _ _ _ _ _ (give_at h1).2 (give_at h2).2
 lt β b o n sz h:=hH.lt _ _ _ _ _ (give_at h).2
 resl b h:=by
  rcases h with (h | h) | h
  ·exact hH.resl b (.inl h)
  ·exact (h.nr hH).2
  ·simp only [Map.give] at h
   split at h
   ·exact absurd rfl h
   ·exact hH.resl b (.inr h)
 resf β b o n sz h hr:=by
  obtain ⟨h1,h2⟩:=give_at h
  rcases hr with (hr | hr) | hr
  ·exact hH.resf _ _ _ _ _ h2 (.inl hr)
  ·exact zo hH (i1:=[β]) (by simpa using h1) ⟨β,by simp,_,_,_,_,h2,.inl rfl⟩ hr
  ·simp only [Map.give] at hr
   split at hr
   ·exact hr rfl
   ·exact hH.resf _ _ _ _ _ h2 (.inr hr)
 vr b t h hr:=by
  simp only [Map.give] at h
  split at h
  ·cases h
  ·rename_i h2
   rcases hr with hr | hr
   ·exact hH.vr _ _ h hr
   ·exact h2 hr
def Bg (ρ:Map) (w:World) (ids:List Nat) (b:Nat):Prop:=b < w.heap.size ∧ ¬ ρ.res0 b ∧ ¬ Tok ρ ids b
theorem Free.bg {ids:List Nat} {b:Nat} (h:Free ρ w b):Bg ρ w ids b:=⟨h.1,fun h2 => h.2.1 (.inl h2),fun h2 => zil h h2.ours⟩
theorem zwo (hH:HRel ρ H w) {ids:List Nat} {K:Kd} {s:SV} {x:K.T} {u:Value} (h:decH true (kill ids H) K [s] = some x) (hv:VRel ρ w s u):CRel w (Bg ρ w ids) K x [u]:=by
 refine zax (zHp hH ids) (fun b hb => ?_) (fun _ b t hb => ?_) (fun γ b o n sz _ hg => ?_) h (VRels.single (hv.stepF (zwn ids)))
 ·exact ⟨hb.1,fun h2 => hb.2.1 (.inl (.inl h2)),fun h2 => hb.2.1 (.inl (.inr h2))⟩
 ·simp only [Map.give] at hb
  split at hb
  ·cases hb
  ·rename_i h2
   exact ⟨hH.vlt hb,hH.vr _ _ hb,h2⟩
 ·obtain ⟨h1,h2⟩:=give_at hg
  exact ⟨hH.lt _ _ _ _ _ h2,fun h3 => hH.resf _ _ _ _ _ h2 (.inl h3),fun h3 => zo hH (i1:=[γ]) (by simpa using h1) ⟨γ,by simp,_,_,_,_,h2,.inl rfl⟩ h3⟩
theorem TreeF.monoB (hB:∀ b,B b → B' b) {K:Kd} {d:Nat} {x:K.T} {us:List Value} {ps:List (Nat × List Nat)} (h:TreeF w B K d x us ps):TreeF w B' K d x us ps :=
 h.keep (fun _ _ _ hc => CRel.mono hB (fun _ _ => rfl) hc) fun _ _ => rfl
theorem zb0 (hH:HRel ρ H w) {i1 i2:List Nat} {p1 p2:List (Nat × List Nat)} (hn:(i1 ++ i2).Nodup) (n1:(flatF p1).Nodup) (n2:(flatF p2).Nodup) (t1:∀ b ∈ flatF p1,Tok ρ i1 b) (t2:∀ b ∈ flatF p2,Tok ρ i2 b) :
  (flatF (p1 ++ p2)).Nodup ∧ ∀ b ∈ flatF (p1 ++ p2),Tok ρ (i1 ++ i2) b:=by
 obtain ⟨_,_,n3⟩:=List.nodup_append.1 hn
 rw [zk]
 refine ⟨List.nodup_append.2 ⟨n1,n2,fun b hb b' hb' e => ?_⟩,fun b hb => ?_⟩
 ·subst e
  exact zo hH (fun γ h1 h2 => n3 γ h1 γ h2 rfl) (t1 b hb) (t2 b hb')
 ·rcases List.mem_append.1 hb with hb | hb
  ·exact (t1 b hb).sub fun γ h => List.mem_append.2 (.inl h)
  ·exact (t2 b hb).sub fun γ h => List.mem_append.2 (.inr h)
theorem updF_eq {α:Type} {f:Int → Int → List α} {p q:Int} {xs:List α}:updF f p q xs p q = xs:=by simp [updF]
theorem updF_ne {α:Type} {f:Int → Int → List α} {p q a b:Int} {xs:List α} (h:(a,b) ≠ (p,q)):updF f p q xs a b = f a b:=by
 unfold updF
 have:(a == p && b == q) = false:=by
  cases h1:(a == p && b == q) with
  | false => rfl
  | true =>
   simp only [Bool.and_eq_true,beq_iff_eq] at h1
   exact absurd (by rw [h1.1,h1.2]) h
 rw [this]; rfl
theorem zHq (hH:HRel ρ H w) {e:Kd} {v:SV} {f:Int → Int → List e.T} {ids:List Nat} {u:Value} (h:rdM H e v = some (f,ids)) (hv:VRel ρ w v u) (hnd:ids.Nodup) :
  ∃ p,MapW w (Free ρ w) e f u p ∧ (flatF p).Nodup ∧ ∀ b ∈ flatF p,Tok ρ ids b:=by
 unfold rdM at h
 split at h
 ·rename_i β
  split at h
  ·rename_i es hb
   split at h
   ·simp only [Option.some.injEq,Prod.mk.injEq] at h
    obtain ⟨rfl,rfl⟩:=h
    obtain ⟨b,o,n,sz,A,c,hr,-,-,rfl,hA,hrel⟩:=mapp_of hH hb hv
    have hA0:A.toList = []:=by
     have:=hrel.1
     exact List.eq_nil_of_length_eq_zero (by simpa using this)
    refine ⟨[(b,[])],⟨b,A,c,[],[],rfl,rfl,hA,hrel,by rw [hA0]; exact List.nodup_nil,fun _ _ _ => rfl,by rw [hA0]; rfl⟩,by simp [flatF],fun b' hb' => ?_⟩
    simp [flatF] at hb'
    subst hb'
    exact ⟨β,by simp,_,_,_,_,hr,.inl rfl⟩
   ·cases h
  ·rename_i e' g ex hb
   split at h
   ·rename_i he
    subst he
    obtain ⟨b,o,n,sz,A,c,es,tk,hr,-,-,rfl,hA,hrel,hnk,hmz,hent,htk,hvl⟩:=mapo_of hH hb hv
    have hb1:Tok ρ [β] b:=⟨β,by simp,_,_,_,_,hr,.inl rfl⟩
    have htk1:∀ b' ∈ tk,Tok ρ [β] b':=fun b' hb' => ⟨β,by simp,_,_,_,_,hr,.inr (hvl b' hb')⟩
    have hbt:b ∉ tk:=fun h => hH.resf _ _ _ _ _ hr (.inr (by rw [hvl b h]; simp))
    split at h
    ·simp only [Option.some.injEq,Prod.mk.injEq] at h
     obtain ⟨rfl,rfl⟩:=h
     refine ⟨[(b,tk)],⟨b,A,c,es,tk,rfl,rfl,hA,hrel,hnk,fun p q hp => (hmz p q hp).1 (by simp),hent.mono (fun _ _ => trivial) fun _ _ _ _ _ h => h⟩,by simp [flatF]; exact ⟨hbt,htk⟩,fun b' hb' => ?_⟩
     simp [flatF] at hb'
     rcases hb' with rfl | hb'
     ·exact hb1
     ·exact htk1 b' hb'
    ·rename_i p q s
     split at h
     ·rename_i x hx
      simp only [Option.some.injEq,Prod.mk.injEq] at h
      obtain ⟨rfl,rfl⟩:=h
      obtain ⟨hn0,hn1⟩:=List.nodup_cons.1 hnd
      by_cases hex:∃ x ∈ A.toList,x.key = keyV p q
      ·obtain ⟨y,g1,g2,g3,g4⟩:=EntO.close hnk hex hent
       obtain ⟨p1,f1,f2,f3⟩:=zam hH (x:=x.1) (ids:=x.2) hx (VRels.single (g3 _ rfl)) hn1
       obtain ⟨tk',k1,k2⟩:=g4 (fun a b u t => TreeC w (Free ρ w) (.list e') 1 (updF g p q x.1 a b) [u] t) (fun _ => True) (flatF p1) (fun a b u t hne h => by rw [updF_ne hne]; exact h) (by rw [updF_eq]; exact f1.toC)
       refine ⟨[(b,tk')],⟨b,A,c,es,tk',rfl,rfl,hA,hrel,hnk,fun p' q' hp' => ?_,k2⟩,?_,fun b' hb' => ?_⟩
       ·have hne:(p',q') ≠ (p,q):=fun e => by
         simp only [Prod.mk.injEq] at e
         obtain ⟨rfl,rfl⟩:=e
         exact hp' y g1 g2
        rw [updF_ne hne]
        exact (hmz p' q' hp').1 (fun h => hne (by simpa [keyM] using h.symm))
       ·simp [flatF]
        refine ⟨fun h => ?_,k1.nodup_iff.2 (List.nodup_append.2 ⟨f2,htk,fun b1 hb1' b2 hb2' e => ?_⟩)⟩
        ·rcases List.mem_append.1 (k1.mem_iff.1 h) with h | h
         ·exact zo hH (i1:=[β]) (by simpa using hn0) hb1 (f3 b h)
         ·exact hbt h
        ·subst e
         exact zo hH (i1:=[β]) (by simpa using hn0) (htk1 _ hb2') (f3 _ hb1')
       ·simp [flatF] at hb'
        rcases hb' with rfl | hb'
        ·exact hb1.sub (by simp)
        ·rcases List.mem_append.1 (k1.mem_iff.1 hb') with h | h
         ·exact (f3 _ h).sub fun γ h => List.mem_cons_of_mem _ h
         ·exact (htk1 _ h).sub (by simp)
      ·have habs:∀ x ∈ A.toList,x.key ≠ keyV p q:=fun x hx hk => hex ⟨x,hx,hk⟩
       obtain ⟨p1,f1,f2,f3⟩:=zam hH (x:=x.1) (ids:=x.2) hx (VRels.single ((hmz p q habs).2 s rfl none)) hn1
       have hx0:x.1 = []:=by
        simp only [TreeF] at f1
        rcases f1 with ⟨_,_,h,_⟩ | ⟨b2,o2,c2,C2,tC2,us2,t2,_,h,_⟩
        ·exact h
        ·simp at h
       refine ⟨[(b,tk)],⟨b,A,c,es,tk,rfl,rfl,hA,hrel,hnk,fun p' q' hp' => ?_,?_⟩,by simp [flatF]; exact ⟨hbt,htk⟩,fun b' hb' => ?_⟩
       ·by_cases hne:(p',q') = (p,q)
        ·simp only [Prod.mk.injEq] at hne
         obtain ⟨rfl,rfl⟩:=hne
         rw [updF_eq,hx0]
        ·rw [updF_ne hne]
         exact (hmz p' q' hp').1 (fun h => hne (by simpa [keyM] using h.symm))
       ·exact EntO.away (p:=p) (q:=q) (fun a b hne => ⟨fun h => absurd (by simpa [keyM] using h.symm) hne,fun h => (by cases h)⟩) (fun a b u t hne h => by rw [updF_ne hne]; exact h) (fun h => (by cases h)) (.inr fun a b hne h => hne (by simpa [keyM] using h.symm)) habs hent
       ·simp [flatF] at hb'
        rcases hb' with rfl | hb'
        ·exact hb1.sub (by simp)
        ·exact (htk1 _ hb').sub (by simp)
     ·cases h
   ·cases h
  ·cases h
 ·cases h
theorem zi (hH:HRel ρ H w) {Hd:Heap} (hF:∀ b,Free ρ w b → B b) (hd:∀ {K:Kd} {s:SV} {x:K.T} {u:Value},decH true Hd K [s] = some x → VRel ρ w s u → CRel w B K x [u]):∀ {s:Sx} {vs:List SV} {x:s.T} {ids:List Nat} {us:List Value},
  rdX Hd H s vs = some (x,ids) → VRels ρ w vs us → ids.Nodup → ∃ ps,WX w B s x us ps ∧ (flatF ps).Nodup ∧ ∀ b ∈ flatF ps,Tok ρ ids b
 | .nil,vs,x,ids,us,h,hv,hn => by
  match vs,h with
  | [],h =>
   simp only [rdX,Option.some.injEq,Prod.mk.injEq] at h
   obtain ⟨_,rfl⟩:=h
   simp only [VRels] at hv
   exact ⟨[],⟨hv,rfl⟩,List.nodup_nil,fun b h => (by cases h)⟩
  | _ :: _,h => simp [rdX] at h
 | .rp K r,vs,x,ids,us,h,hv,hn => by
  match vs,h with
  | [],h => simp [rdX] at h
  | v :: vs,h =>
   simp only [rdX] at h
   split at h
   ·rename_i K' y
    split at h
    ·rename_i he
     subst he
     split at h
     ·rename_i z h2
      simp only [Option.some.injEq,Prod.mk.injEq] at h
      obtain ⟨rfl,rfl⟩:=h
      simp only [VRels] at hv
      obtain ⟨u,us',rfl,v1,v2⟩:=hv
      simp only [VRel] at v1
      obtain ⟨ad,es,rfl,h3,h4,h5⟩:=v1
      obtain ⟨p2,g1,g2,g3⟩:=zi hH hF hd (x:=z.1) (ids:=z.2) h2 v2 hn
      refine ⟨p2,⟨ad,us',rfl,?_,g1⟩,g2,g3⟩
      simp only [CRel]
      refine ⟨some ad,1,rfl,Nat.le_refl _,fun _ => ⟨ad,rfl,hF _ h4,fun i x hx => ?_⟩⟩
      cases i with
      | zero =>
       simp only [List.getElem?_cons_zero,Option.some.injEq] at hx
       subst hx
       exact ⟨es,CRel.mono hF (fun _ _ => rfl) h3,fun j u hj => by simpa using h5 j u hj⟩
      | succ i => simp at hx
     ·cases h
    ·cases h
   ·cases h
 | .dat K r,vs,x,ids,us,h,hv,hn => by
  match vs,h with
  | [],h => simp [rdX] at h
  | v :: vs,h =>
   simp only [rdX] at h
   split at h
   ·rename_i y z h1 h2
    simp only [Option.some.injEq,Prod.mk.injEq] at h
    obtain ⟨rfl,rfl⟩:=h
    simp only [VRels] at hv
    obtain ⟨u,us',rfl,v1,v2⟩:=hv
    obtain ⟨ps,g1,g2,g3⟩:=zi hH hF hd (x:=z.1) (ids:=z.2) h2 v2 hn
    exact ⟨ps,⟨u,us',rfl,hd h1 v1,g1⟩,g2,g3⟩
   ·cases h
 | .own d e r,vs,x,ids,us,h,hv,hn => by
  match vs,h with
  | [],h => simp [rdX] at h
  | v :: vs,h =>
   simp only [rdX] at h
   split at h
   ·rename_i y z h1 h2
    simp only [Option.some.injEq,Prod.mk.injEq] at h
    obtain ⟨rfl,rfl⟩:=h
    simp only [VRels] at hv
    obtain ⟨u,us',rfl,v1,v2⟩:=hv
    obtain ⟨n1,n2,_⟩:=List.nodup_append.1 hn
    obtain ⟨p1,f1,f2,f3⟩:=zam hH (x:=y.1) (ids:=y.2) h1 (VRels.single v1) n1
    obtain ⟨p2,g1,g2,g3⟩:=zi hH hF hd (x:=z.1) (ids:=z.2) h2 v2 n2
    obtain ⟨k1,k2⟩:=zb0 hH hn f2 g2 f3 g3
    exact ⟨p1 ++ p2,⟨u,us',p1,p2,rfl,rfl,f1.monoB hF,g1⟩,k1,k2⟩
   ·cases h
 | .agg i r,vs,x,ids,us,h,hv,hn => by
  match vs,h with
  | [],h => simp [rdX] at h
  | v :: vs,h =>
   simp only [rdX] at h
   split at h
   ·split at h
    ·rename_i y z h1 h2
     simp only [Option.some.injEq,Prod.mk.injEq] at h
     obtain ⟨rfl,rfl⟩:=h
     simp only [VRels,VRel] at hv
     obtain ⟨u,us',rfl,⟨a,rfl,v1⟩,v2⟩:=hv
     obtain ⟨n1,n2,_⟩:=List.nodup_append.1 hn
     obtain ⟨p1,f1,f2,f3⟩:=zi hH hF hd (x:=y.1) (ids:=y.2) h1 v1 n1
     obtain ⟨p2,g1,g2,g3⟩:=zi hH hF hd (x:=z.1) (ids:=z.2) h2 v2 n2
     obtain ⟨k1,k2⟩:=zb0 hH hn f2 g2 f3 g3
     exact ⟨p1 ++ p2,⟨a,us',p1,p2,rfl,rfl,f1,g1⟩,k1,k2⟩
    ·cases h
   ·cases h
 | .grp i r,vs,x,ids,us,h,hv,hn => by
  simp only [rdX] at h
  split at h
  ·rename_i y z h1 h2
   simp only [Option.some.injEq,Prod.mk.injEq] at h
   obtain ⟨rfl,rfl⟩:=h
   have hs:=hv.split (n:=i.len)
   obtain ⟨n1,n2,_⟩:=List.nodup_append.1 hn
   obtain ⟨p1,f1,f2,f3⟩:=zi hH hF hd (x:=y.1) (ids:=y.2) h1 hs.1 n1
   obtain ⟨p2,g1,g2,g3⟩:=zi hH hF hd (x:=z.1) (ids:=z.2) h2 hs.2 n2
   obtain ⟨k1,k2⟩:=zb0 hH hn f2 g2 f3 g3
   exact ⟨p1 ++ p2,⟨_,_,p1,p2,(List.take_append_drop i.len us).symm,rfl,f1,g1⟩,k1,k2⟩
  ·cases h
 | .ptr i r,vs,x,ids,us,h,hv,hn => by
  match vs,h with
  | [],h => simp [rdX] at h
  | v :: vs,h =>
   simp only [rdX] at h
   split at h
   ·rename_i β
    split at h
    ·rename_i cs t z hb
     split at h
     ·rename_i hz
      split at h
      ·rename_i y z' h1 h2
       simp only [Option.some.injEq,Prod.mk.injEq] at h
       obtain ⟨rfl,rfl⟩:=h
       simp only [VRels] at hv
       obtain ⟨u,us',rfl,v1,v2⟩:=hv
       obtain ⟨hn0,hn⟩:=List.nodup_cons.1 hn
       obtain ⟨n1,n2,_⟩:=List.nodup_append.1 hn
       obtain ⟨b,o,n,sz,hr,rfl⟩:=ptr_rel hH hb (by simp) v1
       obtain ⟨C,tC,hC,hsz,hcl,hle,hcs,hcm⟩:=zL hH hb hr
       obtain ⟨p1,f1,f2,f3⟩:=zi hH hF hd (x:=y.1) (ids:=y.2) h1 hcs n1
       obtain ⟨p2,g1,g2,g3⟩:=zi hH hF hd (x:=z'.1) (ids:=z'.2) h2 v2 n2
       obtain ⟨k1,k2⟩:=zb0 hH hn f2 g2 f3 g3
       have e:flatF ((b,[]) :: (p1 ++ p2)) = b :: flatF (p1 ++ p2):=by simp [flatF]
       have hb1:Tok ρ [β] b:=⟨β,by simp,_,_,_,_,hr,.inl rfl⟩
       refine ⟨(b,[]) :: (p1 ++ p2),⟨b,o,C,tC,_,us',p1,p2,by rw [Nat.add_zero],rfl,hC,by simp; omega,ziu,f1,g1⟩,?_,fun b' hb' => ?_⟩
       ·rw [e]
        exact List.nodup_cons.2 ⟨fun h => zo hH (i1:=[β]) (by simpa using hn0) hb1 (k2 b h),k1⟩
       ·rw [e] at hb'
        rcases List.mem_cons.1 hb' with rfl | hb'
        ·exact hb1.sub (by simp)
        ·exact (k2 b' hb').sub fun γ h => List.mem_cons_of_mem _ h
      ·cases h
     ·cases h
    ·cases h
   ·cases h
 | .parr K r,vs,x,ids,us,h,hv,hn => by
  match vs,h with
  | [],h => simp [rdX] at h
  | v :: vs,h =>
   simp only [rdX] at h
   split at h
   ·rename_i β
    split at h
    ·rename_i K' xs t hb
     split at h
     ·rename_i he
      subst he
      split at h
      ·rename_i z h2
       simp only [Option.some.injEq,Prod.mk.injEq] at h
       obtain ⟨rfl,rfl⟩:=h
       simp only [VRels] at hv
       obtain ⟨u,us',rfl,v1,v2⟩:=hv
       obtain ⟨hn0,hn⟩:=List.nodup_cons.1 hn
       obtain ⟨b,o,n,sz,hr,rfl⟩:=ptr_rel hH hb (by simp) v1
       obtain ⟨rfl,rfl,C,tC,hC,hle,hrow⟩:=row_raw hH hb hr
       obtain ⟨p2,g1,g2,g3⟩:=zi hH hF hd (x:=z.1) (ids:=z.2) h2 v2 hn
       have e:flatF ((b,[]) :: p2) = b :: flatF p2:=by simp [flatF]
       have hb1:Tok ρ [β] b:=⟨β,by simp,_,_,_,_,hr,.inl rfl⟩
       refine ⟨(b,[]) :: p2,⟨b,o,C,tC,us',p2,by rw [Nat.add_zero],rfl,hC,hle,fun i y hy => ?_,g1⟩,?_,fun b' hb' => ?_⟩
       ·obtain ⟨es,h4,h5⟩:=hrow i y hy
        exact ⟨es,CRel.mono hF (fun _ _ => rfl) h4,h5⟩
       ·rw [e]
        exact List.nodup_cons.2 ⟨fun h => zo hH (i1:=[β]) (by simpa using hn0) hb1 (g3 b h),g2⟩
       ·rw [e] at hb'
        rcases List.mem_cons.1 hb' with rfl | hb'
        ·exact hb1.sub (by simp)
        ·exact (g3 b' hb').sub fun γ h => List.mem_cons_of_mem _ h
      ·cases h
     ·cases h
    ·cases h
   ·cases h
 | .osl z i r,vs,x,ids,us,h,hv,hn => by
  match vs,h with
  | [],h => simp [rdX] at h
  | v :: vs,h =>
   simp only [rdX] at h
   split at h
   ·rename_i β
    split at h
    ·rename_i cs t z2 hb
     split at h
     ·rename_i hz
      obtain ⟨rfl,hc0⟩:=hz
      split at h
      ·rename_i y z' h1 h2
       simp only [Option.some.injEq,Prod.mk.injEq] at h
       obtain ⟨rfl,rfl⟩:=h
       simp only [VRels] at hv
       obtain ⟨u,us',rfl,v1,v2⟩:=hv
       obtain ⟨hn0,hn⟩:=List.nodup_cons.1 hn
       obtain ⟨n1,n2,_⟩:=List.nodup_append.1 hn
       rcases own_rel hH hb (by simp) v1 with ⟨hr,ad,rfl⟩ | ⟨b,o,n,sz,c,hr,hc,rfl,hroom⟩
       ·have:=zcx hH hb hr
        subst this
        simp at hc0
       obtain ⟨C,tC,hC,rfl,hcl,hle,hcs,hcm⟩:=zL hH hb hr
       obtain ⟨p1,f1,f2,f3⟩:=zi hH hF hd (x:=y.1) (ids:=y.2) h1 hcs n1
       obtain ⟨p2,g1,g2,g3⟩:=zi hH hF hd (x:=z'.1) (ids:=z'.2) h2 v2 n2
       obtain ⟨k1,k2⟩:=zb0 hH hn f2 g2 f3 g3
       have e:flatF ((b,[]) :: (p1 ++ p2)) = b :: flatF (p1 ++ p2):=by simp [flatF]
       have hb1:Tok ρ [β] b:=⟨β,by simp,_,_,_,_,hr,.inl rfl⟩
       refine ⟨(b,[]) :: (p1 ++ p2),⟨b,o,c,C,tC,_,us',p1,p2,n,rfl,rfl,hc,hC,zeG hC hroom,by simp; omega,ziu,f1,g1⟩,?_,fun b' hb' => ?_⟩
       ·rw [e]
        exact List.nodup_cons.2 ⟨fun h => zo hH (i1:=[β]) (by simpa using hn0) hb1 (k2 b h),k1⟩
       ·rw [e] at hb'
        rcases List.mem_cons.1 hb' with rfl | hb'
        ·exact hb1.sub (by simp)
        ·exact (k2 b' hb').sub fun γ h => List.mem_cons_of_mem _ h
      ·cases h
     ·cases h
    ·cases h
   ·cases h
 | .ifc t i r,vs,x,ids,us,h,hv,hn => by
  match vs,h with
  | [],h => simp [rdX] at h
  | v :: vs,h =>
   simp only [rdX] at h
   split at h
   ·split at h
    ·rename_i ht
     subst ht
     split at h
     ·rename_i y z h1 h2
      simp only [Option.some.injEq,Prod.mk.injEq] at h
      obtain ⟨rfl,rfl⟩:=h
      simp only [VRels,VRel] at hv
      obtain ⟨u,us',rfl,⟨a,rfl,v1⟩,v2⟩:=hv
      obtain ⟨n1,n2,_⟩:=List.nodup_append.1 hn
      obtain ⟨p1,f1,f2,f3⟩:=zi hH hF hd (x:=y.1) (ids:=y.2) h1 (VRels.single v1) n1
      obtain ⟨p2,g1,g2,g3⟩:=zi hH hF hd (x:=z.1) (ids:=z.2) h2 v2 n2
      obtain ⟨k1,k2⟩:=zb0 hH hn f2 g2 f3 g3
      exact ⟨p1 ++ p2,⟨a,us',p1,p2,rfl,rfl,f1,g1⟩,k1,k2⟩
     ·cases h
    ·cases h
   ·cases h
 | .fnc g r,vs,x,ids,us,h,hv,hn => by
  match vs,h with
  | [],h => simp [rdX] at h
  | v :: vs,h =>
   simp only [rdX] at h
   split at h
   ·split at h
    ·rename_i hg
     subst hg
     simp only [VRels,VRel] at hv
     obtain ⟨u,us',rfl,⟨vf,vc,rfl,h3,h4⟩,v2⟩:=hv
     obtain ⟨p2,g1,g2,g3⟩:=zi (s:=r) hH hF hd h v2 hn
     obtain rfl:vf = #[]:=by simpa using h3
     obtain rfl:vc = #[]:=by simpa using h4
     exact ⟨p2,⟨us',rfl,g1⟩,g2,g3⟩
    ·cases h
   ·cases h
 | .num k n r,vs,x,ids,us,h,hv,hn => by
  match vs,h with
  | [],h => simp [rdX] at h
  | v :: vs,h =>
   simp only [rdX] at h
   split at h
   ·split at h
    ·rename_i hg
     obtain ⟨rfl,rfl⟩:=hg
     simp only [VRels,VRel] at hv
     obtain ⟨u,us',rfl,rfl,v2⟩:=hv
     obtain ⟨p2,g1,g2,g3⟩:=zi (s:=r) hH hF hd h v2 hn
     exact ⟨p2,⟨us',rfl,g1⟩,g2,g3⟩
    ·cases h
   ·cases h
 | .nls r,vs,x,ids,us,h,hv,hn => by
  match vs,h with
  | [],h => simp [rdX] at h
  | v :: vs,h =>
   simp only [rdX] at h
   split at h
   ·simp only [VRels,VRel] at hv
    obtain ⟨u,us',rfl,⟨a,rfl⟩,v2⟩:=hv
    obtain ⟨p2,g1,g2,g3⟩:=zi (s:=r) hH hF hd h v2 hn
    exact ⟨p2,⟨a,us',rfl,g1⟩,g2,g3⟩
   ·cases h
 | .mpo e r,vs,x,ids,us,h,hv,hn => by
  match vs,h with
  | [],h => simp [rdX] at h
  | v :: vs,h =>
   simp only [rdX] at h
   split at h
   ·rename_i y z h1 h2
    simp only [Option.some.injEq,Prod.mk.injEq] at h
    obtain ⟨rfl,rfl⟩:=h
    simp only [VRels] at hv
    obtain ⟨u,us',rfl,v1,v2⟩:=hv
    obtain ⟨n1,n2,_⟩:=List.nodup_append.1 hn
    obtain ⟨p1,f1,f2,f3⟩:=zHq hH (f:=y.1) (ids:=y.2) h1 v1 n1
    obtain ⟨p2,g1,g2,g3⟩:=zi hH hF hd (x:=z.1) (ids:=z.2) h2 v2 n2
    obtain ⟨k1,k2⟩:=zb0 hH hn f2 g2 f3 g3
    exact ⟨p1 ++ p2,⟨u,us',p1,p2,rfl,rfl,f1.keep (fun _ _ _ hc => CRel.mono hF (fun _ _ => rfl) hc) fun _ _ => rfl,g1⟩,k1,k2⟩
   ·cases h
end
end Go.Proofs.YtljojacnjjgceaaGreat.Den
namespace Go.Proofs.YtljojacnjjgceaaGreat.Den
open Go Go.RowKit
inductive Rt where
 | no
 | cells (i:Sx)
 | arr (K:Kd)
 | sl (d:Nat) (e:Kd)
@[reducible] def Rt.T:Rt → Type
 | .no => Unit
 | .cells i => i.T
 | .arr K => List K.T
 | .sl _ e => List e.T
def Rt.wx (w:World) (B:Nat → Prop):(rt:Rt) → rt.T → List Value → List (Nat × List Nat) → Prop
 | .no,_,us,ps => us = [] ∧ ps = []
 | .cells i,x,us,ps => WX w B (.ptr i .nil) (x,()) us ps
 | .arr K,x,us,ps => WX w B (.parr K .nil) (x,()) us ps
 | .sl d e,x,us,ps => ∃ u,us = [u] ∧ TreeF w B (.list e) (d + 1) x [u] ps
def Rt.same:(rt:Rt) → rt.T → rt.T → List (Nat × List Nat) → List (Nat × List Nat) → Prop
 | .no,_,_,_,_ => True
 | .cells _,_,_,_,_ => True
 | .arr _,x,y,_,_ => y.length = x.length
 | .sl _ _,_,_,ps,qs => qs.map Prod.fst = ps.map Prod.fst
def Rt.rd (H:Heap):(rt:Rt) → List SV → Option (rt.T × Option Nat × List Nat × List SV)
 | .no,vs => some ((),none,[],vs)
 | .cells i,vs => match vs with
  | .ptr β 0 :: vs => match H[β]? with
   | some (.cells cs _ z) => if z = cs.length then (match rdX [] H i cs with
    | some a => some (a.1,some β,β :: a.2,vs)
    | none => none) else none
   | _ => none
  | _ => none
 | .arr K,vs => match vs with
  | .ptr β 0 :: vs => match H[β]? with
   | some (.arr K' xs _) => if h:K' = K then some (h ▸ xs,some β,[β],vs) else none
   | _ => none
  | _ => none
 | .sl d e,vs => match vs with
  | .own γ :: vs => match readT true H (.list e) (d + 1) [.own γ] with
   | some a => some (a.1,some γ,a.2,vs)
   | none => none
  | _ => none
def Rt.wr:(rt:Rt) → rt.T → Nat → Blk × List Blk
 | .no,_,_ => (.dead,[])
 | .cells i,x,k => (.cells (enX i x k).1 0 (enX i x k).1.length,(enX i x k).2)
 | .arr K,x,_ => (.arr K x 0,[])
 | .sl d e,x,_ => (childB d e x,[])
def Rt.wrt:Rt → Bool
 | .no => false
 | _ => true
def resV:List SV → SV
 | [s] => s
 | ss => .tup ss
def resU (vs:Array Value):Value:=if h:vs.size = 1 then vs[0] else .tuple vs
structure LF where
 rt:Rt
 D:Sx
 R:Sx
 X:Type
 Y:Type
 xb:rt.T × D.T → X
 yb:rt.T × R.T → Y
 ey:Y → rt.T × R.T
 flat:Bool
 al:Bool
structure LE extends LF where
 fn:X → Option Y
@[reducible] def LF.pure (D R:Sx) (flat:Bool):LF:=⟨.no,D,R,D.T,R.T,fun p => p.2,fun p => p.2,fun y => ((),y),flat,false⟩
@[reducible] def LF.ref (rt:Rt) (D R:Sx) (flat:Bool):LF:=⟨rt,D,R,rt.T × D.T,rt.T × R.T,fun p => p,fun p => p,fun y => y,flat,false⟩
@[reducible] def LF.slc (e:Kd) (D R:Sx) (al:Bool):LF:=⟨.sl 0 e,D,R,List e.T × Unit × D.T,List e.T × R.T,fun p => (p.1,(),p.2),fun p => p,fun y => y,false,al⟩
@[reducible] def LF.new (D i:Sx):LF:=⟨.no,D,.ptr i .nil,D.T,i.T,fun p => p.2,fun p => p.2.1,fun y => ((),y,()),false,false⟩
@[reducible] def LF.via (D R:Sx) (flat:Bool) (Y:Type) (yb:R.T → Y) (ey:Y → R.T):LF:=⟨.no,D,R,D.T,Y,fun p => p.2,fun p => yb p.2,fun y => ((),ey y),flat,false⟩
def LE.te (le:LE):TE where
 X:=le.X
 Y:=le.Y
 mono:=!le.rt.wrt
 view args H:=match le.rt.rd H args with
  | some a => cond (nodupB a.2.2.1) (match rdX (cond le.flat (kill a.2.2.1 H) []) [] le.D a.2.2.2 with
   | some d => match d.2 with
    | [] => some (le.xb (a.1,d.1))
    | _ => none
   | none => none) none
  | none => none
 fn:=le.fn
 put _ y args H:=match le.rt.rd H args with
  | some a => match a.2.1 with
   | some γ => some (cond le.al (.own γ) (resV (enX le.R (le.ey y).2 (H.length + (le.rt.wr (le.ey y).1 H.length).2.length)).1),(kill a.2.2.1 H).set γ (le.rt.wr (le.ey y).1 H.length).1 ++ ((le.rt.wr (le.ey y).1 H.length).2 ++ (enX le.R (le.ey y).2 (H.length + (le.rt.wr (le.ey y).1 H.length).2.length)).2))
   | none => some (resV (enX le.R (le.ey y).2 H.length).1,H ++ (enX le.R (le.ey y).2 H.length).2)
  | none => none
 tc args H:=match le.rt.rd H args with
  | some a => a.2.1.toList ++ a.2.2.1
  | none => []
def Bf (w:World) (res:Nat → Prop) (T:List Nat) (b:Nat):Prop:=b < w.heap.size ∧ ¬ res b ∧ b ∉ T
structure Kept (w w':World) (T:List Nat):Prop where
 os:w'.os = w.os
 tape:w'.tape = w.tape
 output:w'.output = w.output
 size:w.heap.size ≤ w'.heap.size
 kept:∀ b,b < w.heap.size → b ∉ T → w'.heap[b]? = w.heap[b]?
 shape:∀ (b:Nat) C t fr,w.heap[b]? = some (.cells C t fr) → ∃ C',w'.heap[b]? = some (.cells C' t fr) ∧ C'.size = C.size
def Hdr (w:World) (sz:Nat) (u u':Value):List Nat → Prop
 | [] => ∃ a,u' = .slice a 0 0
 | b :: _ => ∃ o n c c',u = .slice (some ⟨b,o,none⟩) n c ∧ u' = .slice (some ⟨b,o,none⟩) n c' ∧ n ≤ c' ∧ Room w b (o + c' * sz)
def FnSpec (P:Program) (f:FuncId) (le:LE):Prop :=
 ∀ (w:World) (res:Nat → Prop) (ua ud:List Value) (pa:List (Nat × List Nat)) (xa:le.rt.T) (xd:le.D.T) (y:le.Y),(∀ b,res b → b < w.heap.size) → le.rt.wx w (Bf w res (flatF pa)) xa ua pa → (flatF pa).Nodup → (∀ b ∈ flatF pa,b < w.heap.size ∧ ¬ res b) →
  WX w (Bf w res (flatF pa)) le.D xd ud [] → le.fn (le.xb (xa,xd)) = some y →
  Calls P f (ua ++ ud).toArray w fun e w' => ∃ ur qa qr,e = .returned (resU ur) ∧ Kept w w' (flatF pa) ∧ (flatF (qa ++ qr)).Nodup ∧ (∀ b ∈ flatF (qa ++ qr),b < w'.heap.size ∧ (b ∈ flatF pa ∨ w.heap.size ≤ b)) ∧
   le.rt.wx w' (Bf w' res (flatF (qa ++ qr))) (le.ey y).1 ua qa ∧ le.rt.same xa (le.ey y).1 pa qa ∧ cond le.al (∃ d e u u',le.rt = .sl d e ∧ ua = [u] ∧ ur = #[u'] ∧ Hdr w' e.sz u u' (pa.map Prod.fst) ∧ WX w' (Bf w' res (flatF (qa ++ qr))) le.R (le.ey y).2 [] qr) (WX w' (Bf w' res (flatF (qa ++ qr))) le.R (le.ey y).2 ur.toList qr)
def Kd.noFrz:Kd → Nat → Bool
 | .pair a b,d => a.noFrz d && b.noFrz d
 | .list e,d => match d with
  | 0 => false
  | d + 1 => e.noFrz d
 | _,_ => true
def Sx.flatOK:Sx → Bool
 | .nil => true
 | .dat K r => K.noList && r.flatOK
 | .rp _ _ => false
 | .own d e r => e.noFrz d && r.flatOK
 | .agg i r | .grp i r | .ptr i r | .osl _ i r | .ifc _ i r => i.flatOK && r.flatOK
 | .parr K r => K.noList && r.flatOK
 | .fnc _ r | .num _ _ r | .nls r => r.flatOK
 | .mpo _ _ => false
def Rt.flatOK:Rt → Bool
 | .no => true
 | .cells i => i.flatOK
 | .arr K => K.noList
 | .sl d e => e.noFrz d
def Rt.isSl:Rt → Bool
 | .sl _ _ => true
 | _ => false
def LE.ok (le:LE):Bool:=(!le.flat || (le.rt.flatOK && le.R.flatOK)) && (!le.al || le.rt.isSl)
section
variable {w w':World} {ρ ρ':Map} {H H':Heap} {B B':Nat → Prop}
theorem TreeC.anyB:∀ {K:Kd} {d:Nat} {x:K.T} {us:List Value} {tk:List Nat},K.noFrz d = true → TreeC w B K d x us tk → TreeC w B' K d x us tk
 | .int _,_,_,_,_,_,h => h
 | .bool,_,_,_,_,_,h => h
 | .unit,_,_,_,_,_,h => h
 | .pair a b,d,x,us,tk,hn,h => by
  simp only [Kd.noFrz,Bool.and_eq_true] at hn
  simp only [TreeC] at h ⊢
  obtain ⟨c1,c2,t1,t2,h1,h2,h3,h4⟩:=h
  exact ⟨c1,c2,t1,t2,h1,h2,h3.anyB hn.1,h4.anyB hn.2⟩
 | .list e,0,x,us,tk,hn,h => by simp [Kd.noFrz] at hn
 | .list e,d + 1,x,us,tk,hn,h => by
  simp only [Kd.noFrz] at hn
  simp only [TreeC] at h ⊢
  rcases h with h | ⟨b,o,c,C,tC,us,t',h0,h1,h2,h3,h4,h5,h6,h7⟩
  ·exact .inl h
  ·exact .inr ⟨b,o,c,C,tC,us,t',h0,h1,h2,h3,h4,h5,h6,h7.mono fun _ _ _ _ _ h => h.anyB hn⟩
theorem TreeF.anyB {e:Kd} {d:Nat} {x:List e.T} {us:List Value} {ps:List (Nat × List Nat)} (hn:e.noFrz d = true) (h:TreeF w B (.list e) (d + 1) x us ps):TreeF w B' (.list e) (d + 1) x us ps:=by
 simp only [TreeF] at h ⊢
 rcases h with h | ⟨b,o,c,C,tC,us,t',h0,h1,h2,h3,h4,h5,h6,h7⟩
 ·exact .inl h
 ·exact .inr ⟨b,o,c,C,tC,us,t',h0,h1,h2,h3,h4,h5,h6,h7.mono fun _ _ _ _ _ h => h.anyB hn⟩
theorem WX.anyB:∀ {s:Sx} {x:s.T} {us:List Value} {ps:List (Nat × List Nat)},s.flatOK = true → WX w B s x us ps → WX w B' s x us ps
 | .nil,_,_,_,_,h => h
 | .rp K r,_,_,_,hn,h => by simp [Sx.flatOK] at hn
 | .dat K r,_,_,_,hn,h => by
  simp only [Sx.flatOK,Bool.and_eq_true] at hn
  obtain ⟨u,us',h0,h1,h⟩:=h
  exact ⟨u,us',h0,h1.plain hn.1,h.anyB hn.2⟩
 | .own d e r,_,_,_,hn,h => by
  simp only [Sx.flatOK,Bool.and_eq_true] at hn
  obtain ⟨u,us',p1,p2,h0,h1,h2,h⟩:=h
  exact ⟨u,us',p1,p2,h0,h1,h2.anyB hn.1,h.anyB hn.2⟩
 | .agg i r,_,_,_,hn,h => by
  simp only [Sx.flatOK,Bool.and_eq_true] at hn
  obtain ⟨a,us',p1,p2,h0,h1,h2,h⟩:=h
  exact ⟨a,us',p1,p2,h0,h1,h2.anyB hn.1,h.anyB hn.2⟩
 | .grp i r,_,_,_,hn,h => by
  simp only [Sx.flatOK,Bool.and_eq_true] at hn
  obtain ⟨a,us',p1,p2,h0,h1,h2,h⟩:=h
  exact ⟨a,us',p1,p2,h0,h1,h2.anyB hn.1,h.anyB hn.2⟩
 | .ptr i r,_,_,_,hn,h => by
  simp only [Sx.flatOK,Bool.and_eq_true] at hn
  obtain ⟨b,o,C,tC,vs,us',p1,p2,h0,h1,h2,h3,h4,h5,h⟩:=h
  exact ⟨b,o,C,tC,vs,us',p1,p2,h0,h1,h2,h3,h4,h5.anyB hn.1,h.anyB hn.2⟩
 | .parr K r,_,_,_,hn,h => by
  simp only [Sx.flatOK,Bool.and_eq_true] at hn
  obtain ⟨b,o,C,tC,us',p2,h0,h1,h2,h3,h4,h⟩:=h
  exact ⟨b,o,C,tC,us',p2,h0,h1,h2,h3,h4.plain hn.1,h.anyB hn.2⟩
 | .osl z i r,_,_,_,hn,h => by
  simp only [Sx.flatOK,Bool.and_eq_true] at hn
  obtain ⟨b,o,c,C,tC,vs,us',p1,p2,n,h0,h1,h2,h3,h4,h4',h5,h6,h⟩:=h
  exact ⟨b,o,c,C,tC,vs,us',p1,p2,n,h0,h1,h2,h3,h4,h4',h5,h6.anyB hn.1,h.anyB hn.2⟩
 | .ifc t i r,_,_,_,hn,h => by
  simp only [Sx.flatOK,Bool.and_eq_true] at hn
  obtain ⟨u,us',p1,p2,h0,h1,h2,h⟩:=h
  exact ⟨u,us',p1,p2,h0,h1,h2.anyB hn.1,h.anyB hn.2⟩
 | .fnc g r,_,_,_,hn,h => by obtain ⟨us',h0,h⟩:=h; exact ⟨us',h0,WX.anyB (s:=r) hn h⟩
 | .num k n r,_,_,_,hn,h => by obtain ⟨us',h0,h⟩:=h; exact ⟨us',h0,WX.anyB (s:=r) hn h⟩
 | .nls r,_,_,_,hn,h => by obtain ⟨a,us',h0,h⟩:=h; exact ⟨a,us',h0,WX.anyB (s:=r) hn h⟩
 | .mpo e r,_,_,_,hn,h => by simp [Sx.flatOK] at hn
theorem Rt.anyB {rt:Rt} {x:rt.T} {us:List Value} {ps:List (Nat × List Nat)} (hn:rt.flatOK = true) (h:rt.wx w B x us ps):rt.wx w B' x us ps:=by
 cases rt with
 | no => exact h
 | cells i => exact WX.anyB (s:=.ptr i .nil) (by simpa [Sx.flatOK,Rt.flatOK] using hn) h
 | arr K => exact WX.anyB (s:=.parr K .nil) (by simpa [Sx.flatOK,Rt.flatOK] using hn) h
 | sl d e => obtain ⟨u,h1,h2⟩:=h; exact ⟨u,h1,h2.anyB hn⟩
theorem Rt.monoB (hB:∀ b,B b → B' b) {rt:Rt} {x:rt.T} {us:List Value} {ps:List (Nat × List Nat)} (h:rt.wx w B x us ps):rt.wx w B' x us ps:=by
 cases rt with
 | no => exact h
 | cells i => exact WX.monoB (s:=.ptr i .nil) hB h
 | arr K => exact WX.monoB (s:=.parr K .nil) hB h
 | sl d e => obtain ⟨u,h1,h2⟩:=h; exact ⟨u,h1,h2.monoB hB⟩
def Img.blks:Img → List Nat
 | .at b _ _ _ => [b]
 | _ => []
theorem Rt.rd_sound (hH:HRel ρ H w) (hF:∀ b,Free ρ w b → B b):∀ {rt:Rt} {args rest:List SV} {xa:rt.T} {g:Option Nat} {ids:List Nat} {vs:List Value},rt.rd H args = some (xa,g,ids,rest) → VRels ρ w args vs → ids.Nodup →
  ∃ ua ud pa,vs = ua ++ ud ∧ VRels ρ w rest ud ∧ rt.wx w B xa ua pa ∧ (flatF pa).Nodup ∧ (∀ b ∈ flatF pa,Tok ρ ids b) ∧ (g = none → rt = .no) ∧ (rt = .no → ids = []) ∧ (∀ d e,rt = .sl d e → ∀ γ,g = some γ → pa.map Prod.fst = (ρ γ).blks ∧ (ρ γ = .none_ ∨ ∃ b o n,ρ γ = .at b o n e.sz) ∧ ∃ u,ua = [u] ∧ VRel ρ w (.own γ) u) ∧
   ∀ γ,g = some γ → rt.wrt = true ∧ γ ∈ ids ∧ γ < H.length ∧ ρ γ ≠ .unborn ∧ ρ γ ≠ .dead ∧
    ∀ (w':World) (B':Nat → Prop) (y:rt.T) (qa:List (Nat × List Nat)) (k:Nat),rt.wx w' B' y ua qa → rt.same xa y pa qa → (flatF qa).Nodup → ∃ ms,ms.length = (rt.wr y k).2.length ∧ (ρ γ).blks ++ imgB ms = qa.map Prod.fst ∧
     ∀ ρ':Map,(∀ b,B' b → Free ρ' w' b) → Agree ρ' k ms → (∀ p ∈ qa,∀ b ∈ p.2,ρ'.vl b = some p.1) → ChildAt ρ' w' (rt.wr y k).1 (ρ γ) ∧ ∀ (i:Nat) (x':Blk) (m:Img),(rt.wr y k).2[i]? = some x' → ms[i]? = some m → ChildAt ρ' w' x' m:=by
 intro rt
 cases rt with
 | no =>
  intro args rest xa g ids vs h hv hn
  simp only [Rt.rd,Option.some.injEq,Prod.mk.injEq] at h
  obtain ⟨_,rfl,rfl,rfl⟩:=h
  exact ⟨[],vs,[],rfl,hv,⟨rfl,rfl⟩,List.nodup_nil,fun b h => (by cases h),fun _ => rfl,fun _ => rfl,fun _ _ _ γ h => (by cases h),fun γ h => (by cases h)⟩
 | cells i =>
  intro args rest xa g ids vs h hv hn
  simp only [Rt.rd] at h
  split at h
  ·rename_i β vs'
   split at h
   ·rename_i cs t z hb
    split at h
    ·rename_i hz
     split at h
     ·rename_i a ha
      simp only [Option.some.injEq,Prod.mk.injEq] at h
      obtain ⟨rfl,rfl,rfl,rfl⟩:=h
      simp only [VRels] at hv
      obtain ⟨u,us',rfl,v1,v2⟩:=hv
      obtain ⟨hn0,hn1⟩:=List.nodup_cons.1 hn
      obtain ⟨b,o,n,sz,hr,rfl⟩:=ptr_rel hH hb (by simp) v1
      obtain ⟨C,tC,hC,hsz,hcl,hle,hcs,hcm⟩:=zL hH hb hr
      obtain ⟨p1,f1,f2,f3⟩:=zi (B:=B) hH hF (fun h1 h2 => CRel.mono hF (fun _ _ => rfl) (zB h1 (VRels.single h2))) (x:=a.1) (ids:=a.2) ha hcs hn1
      have e:flatF ((b,[]) :: (p1 ++ [])) = b :: flatF p1:=by simp [flatF]
      have hb1:Tok ρ [β] b:=⟨β,by simp,_,_,_,_,hr,.inl rfl⟩
      rw [Nat.add_zero]
      refine ⟨[.pointer (some ⟨b,o,none⟩)],us',(b,[]) :: (p1 ++ []),rfl,v2,⟨b,o,C,tC,_,[],p1,[],rfl,rfl,hC,by simp; omega,ziu,f1,⟨rfl,rfl⟩⟩,?_,fun b' hb' => ?_,(by simp),(by simp),(by simp),fun γ hγ => ?_⟩
      ·rw [e]
       exact List.nodup_cons.2 ⟨fun h => zo hH (i1:=[β]) (by simpa using hn0) hb1 (f3 b h),f2⟩
      ·rw [e] at hb'
       rcases List.mem_cons.1 hb' with rfl | hb'
       ·exact hb1.sub (by simp)
       ·exact (f3 b' hb').sub fun γ h => List.mem_cons_of_mem _ h
      ·cases hγ
       refine ⟨rfl,by simp,(List.getElem?_eq_some_iff.1 hb).1,by rw [hr]; simp,by rw [hr]; simp,fun w' B' y qa k hw hs hnq => ?_⟩
       obtain ⟨b',o',C',tC',us2,us3,q1,q2,e1,rfl,h2,h3,h4,h5,h6⟩:=hw
       simp only [List.cons.injEq,Value.pointer.injEq,Option.some.injEq,Addr.mk.injEq,and_true] at e1
       obtain ⟨⟨rfl,rfl⟩,rfl⟩:=e1
       obtain ⟨_,rfl⟩:=h6
       have e2:flatF ((b,[]) :: (q1 ++ [])) = b :: flatF q1:=by simp [flatF]
       rw [e2] at hnq
       obtain ⟨ms,g1,g2,g3⟩:=h5.ent (List.nodup_cons.1 hnq).2 k
       refine ⟨ms,g1,by rw [hr]; simp [Img.blks,g2],fun ρ' k1 k2 k3 => ?_⟩
       obtain ⟨g4,g5⟩:=g3 ρ' k1 k2 fun p hp => k3 p (by simp [hp])
       refine ⟨.inr ⟨b,o,n,sz,hr,?_⟩,g5⟩
       have hl1:(enX i y k).1.length = cs.length:=by
        have e3:=f1.len
        have e4:=h5.len
        rw [g4.length,e4,← e3]
        simp; omega
       simp only [Rt.wr,BRel]
       refine ⟨by rw [hl1,← hz]; exact hsz,by rw [hl1]; exact hcl,C',tC',h2,by rw [← hcl,← hl1,g4.length]; exact h3,fun q s hq => ?_⟩
       obtain ⟨u,h8,h9⟩:=g4.get q s hq
       exact ⟨u,h4 q u h8,h9⟩
     ·cases h
    ·cases h
   ·cases h
  ·cases h
 | arr K =>
  intro args rest xa g ids vs h hv hn
  simp only [Rt.rd] at h
  split at h
  ·rename_i β vs'
   split at h
   ·rename_i K' xs t hb
    split at h
    ·rename_i he
     subst he
     simp only [Option.some.injEq,Prod.mk.injEq] at h
     obtain ⟨rfl,rfl,rfl,rfl⟩:=h
     simp only [VRels] at hv
     obtain ⟨u,us',rfl,v1,v2⟩:=hv
     obtain ⟨b,o,n,sz,hr,rfl⟩:=ptr_rel hH hb (by simp) v1
     obtain ⟨rfl,rfl,C,tC,hC,hle,hrow⟩:=row_raw hH hb hr
     have e:flatF [(b,([]:List Nat))] = [b]:=by simp [flatF]
     have hb1:Tok ρ [β] b:=⟨β,by simp,_,_,_,_,hr,.inl rfl⟩
     rw [Nat.add_zero]
     refine ⟨[.pointer (some ⟨b,o,none⟩)],us',[(b,[])],rfl,v2,⟨b,o,C,tC,[],[],rfl,rfl,hC,hle,fun i y hy => ?_,⟨rfl,rfl⟩⟩,by rw [e]; simp,fun b' hb' => ?_,(by simp),(by simp),(by simp),fun γ hγ => ?_⟩
     ·obtain ⟨es,h4,h5⟩:=hrow i y hy
      exact ⟨es,CRel.mono hF (fun _ _ => rfl) h4,h5⟩
     ·rw [e] at hb'; simp at hb'; subst hb'; exact hb1
     ·cases hγ
      refine ⟨rfl,by simp,(List.getElem?_eq_some_iff.1 hb).1,by rw [hr]; simp,by rw [hr]; simp,fun w' B' y qa k hw hs hnq => ?_⟩
      obtain ⟨b',o',C',tC',us3,q2,e1,rfl,h2,h3,h4,h6⟩:=hw
      simp only [List.cons.injEq,Value.pointer.injEq,Option.some.injEq,Addr.mk.injEq,and_true] at e1
      obtain ⟨⟨rfl,rfl⟩,rfl⟩:=e1
      obtain ⟨_,rfl⟩:=h6
      simp only [Rt.same] at hs
      refine ⟨[],rfl,by rw [hr]; simp [Img.blks,imgB],fun ρ' k1 k2 k3 => ⟨.inr ⟨_,_,_,_,hr,?_⟩,fun j x' m hx => by simp [Rt.wr] at hx⟩⟩
      simp only [Rt.wr,BRel]
      refine ⟨hs,trivial,C',tC',h2,by rw [← hs]; exact h3,fun i y hy => ?_⟩
      obtain ⟨es,h7,h8⟩:=h4 i y hy
      exact ⟨es,CRel.mono k1 (fun _ _ => rfl) h7,h8⟩
    ·cases h
   ·cases h
  ·cases h
 | sl d e =>
  intro args rest xa g ids vs h hv hn
  simp only [Rt.rd] at h
  split at h
  ·rename_i γ vs'
   split at h
   ·rename_i a ha
    simp only [Option.some.injEq,Prod.mk.injEq] at h
    obtain ⟨rfl,rfl,rfl,rfl⟩:=h
    simp only [VRels] at hv
    obtain ⟨u,us',rfl,v1,v2⟩:=hv
    obtain ⟨p1,f1,f2,f3⟩:=zam hH (x:=a.1) (ids:=a.2) ha (VRels.single v1) hn
    -- the name,and its block
    have hblk:∃ x,H[γ]? = some x ∧ x ≠ .dead ∧ γ ∈ a.2 ∧ ((ρ γ = .none_) ∨ ∃ b o n,ρ γ = .at b o n e.sz):=by
     have sz0:∀ {x:Blk},H[γ]? = some x → x ≠ .dead → (∀ b o n sz,BRel ρ w b o n sz x → sz = e.sz) → (ρ γ = .none_) ∨ ∃ b o n,ρ γ = .at b o n e.sz:=fun {x} h1 h2 h3 => by
      rcases hr:ρ γ with _ | _ | _ | ⟨b,o,n,sz⟩
      ·simp only [VRel,hr] at v1
      ·exact absurd hr (live_of hH h1 h2)
      ·exact .inl rfl
      ·obtain ⟨y,h4,h5⟩:=hH.at_ γ (List.getElem?_eq_some_iff.1 h1).1 _ _ _ _ hr
       rw [h1] at h4; cases h4
       exact .inr ⟨b,o,n,by rw [h3 _ _ _ _ h5]⟩
     simp only [readT] at ha
     split at ha
     ·rename_i e' xs t hb
      split at ha
      ·rename_i he
       subst he
       refine ⟨_,hb,by simp,?_,sz0 hb (by simp) fun b o n sz h => by simp only [BRel] at h; exact h.2.1.symm⟩
       split at ha
       ·simp only [Option.some.injEq] at ha; subst ha; simp
       ·rcases zg ha with ⟨_,ha⟩ | ⟨_,ha⟩
        ·simp only [Option.some.injEq] at ha; subst ha; simp
        split at ha
        ·simp only [Option.some.injEq] at ha; subst ha; simp
        ·cases ha
      ·cases ha
     ·rename_i d' e' xs ex hb
      split at ha
      ·rename_i he
       subst he
       refine ⟨_,hb,by simp,?_,sz0 hb (by simp) fun b o n sz h => by simp only [BRel] at h; exact h.2.1.symm⟩
       split at ha
       ·split at ha
        ·simp only [Option.some.injEq] at ha; subst ha; simp
        ·split at ha
         ·simp only [Option.some.injEq] at ha; subst ha; simp
         ·cases ha
       ·cases ha
      ·cases ha
     ·rename_i ds t z hb
      split at ha
      ·rename_i hc
       refine ⟨_,hb,by simp,?_,sz0 hb (by simp) fun b o n sz h => by simp only [BRel] at h; exact h.1.symm.trans hc.2.1⟩
       split at ha
       ·simp only [Option.some.injEq] at ha; subst ha; simp
       ·cases ha
      ·cases ha
     ·cases ha
    obtain ⟨x,hb,hxd,hγ,hcase⟩:=hblk
    have hpa:∃ pa,TreeF w (Free ρ w) (.list e) (d + 1) a.1 [u] pa ∧ (flatF pa).Nodup ∧ (∀ b ∈ flatF pa,Tok ρ a.2 b) ∧ pa.map Prod.fst = (ρ γ).blks:=by
     rcases hcase with hr | ⟨b,o,n,hr⟩
     ·simp only [VRel,hr] at v1
      obtain ⟨a0,rfl⟩:=v1
      refine ⟨[],.inl ⟨a0,rfl,?_,rfl⟩,List.nodup_nil,fun b h => (by cases h),by rw [hr]; rfl⟩
      simp only [TreeF] at f1
      rcases f1 with ⟨_,_,h1,_⟩ | ⟨_,_,_,_,_,_,_,_,h1,_⟩
      ·exact h1
      ·simp only [List.cons.injEq,Value.slice.injEq,and_true] at h1
       exact List.eq_nil_of_length_eq_zero h1.2.1.symm
     ·have v1':=v1
      simp only [VRel,hr] at v1
      obtain ⟨c,hc,rfl,C2,tC2,hC2,hroom⟩:=v1
      have f1':=f1
      simp only [TreeF] at f1
      rcases f1 with ⟨a0,h1,h2,rfl⟩ | ⟨b1,_,_,_,_,_,t',rfl,h1,_⟩
      ·simp only [List.cons.injEq,Value.slice.injEq,and_true] at h1
       obtain ⟨_,rfl,rfl⟩:=h1
       rw [h2]
       refine ⟨[(b,[])],.inr ⟨b,o,0,C2,tC2,[],[],rfl,rfl,by simp,hC2,hroom,by simp,by simp,by simp [SeqL]⟩,by simp [flatF],fun b' hb' => ?_,by rw [hr]; rfl⟩
       simp [flatF] at hb'
       subst hb'
       exact ⟨γ,hγ,_,_,_,_,hr,.inl rfl⟩
      ·simp only [List.cons.injEq,Value.slice.injEq,Option.some.injEq,Addr.mk.injEq,and_true] at h1
       exact ⟨_,f1',f2,f3,by rw [hr]; simp [Img.blks,h1.1.1]⟩
    obtain ⟨pa,f1,f2,f3,f4⟩:=hpa
    refine ⟨[u],us',pa,rfl,v2,⟨u,rfl,f1.monoB hF⟩,f2,f3,by simp,by simp,fun _ _ hde δ hδ => (by cases hδ; cases hde; exact ⟨f4,hcase,u,rfl,v1⟩),fun δ hδ => ?_⟩
    cases hδ
    refine ⟨rfl,hγ,(List.getElem?_eq_some_iff.1 hb).1,by rcases hcase with h | ⟨_,_,_,h⟩ <;> rw [h] <;> simp,live_of hH hb hxd,fun w' B' y qa k hw hs hnq => ?_⟩
    obtain ⟨u',e1,h1⟩:=hw
    simp only [List.cons.injEq,and_true] at e1
    subst e1
    simp only [Rt.same] at hs
    refine ⟨[],rfl,by rw [hs,f4]; simp [imgB],fun ρ' k1 k2 k3 => ⟨?_,fun j x' m hx => by simp [Rt.wr] at hx⟩⟩
    rw [f4] at hs
    simp only [TreeF] at h1
    rcases hcase with hr | ⟨b,o,n,hr⟩
    ·rw [hr] at hs ⊢
     simp only [Img.blks,List.map_eq_nil_iff] at hs
     subst hs
     rcases h1 with ⟨_,_,rfl,_⟩ | ⟨_,_,_,_,_,_,_,h1,_⟩
     ·exact .inl ⟨rfl,zmf⟩
     ·cases h1
    ·rw [hr] at hs
     rcases h1 with ⟨_,_,_,rfl⟩ | ⟨b1,o1,c1,C1,t1,us1,t',rfl,h1,h2,h3,h4,h5,h6,h7⟩
     ·simp [Img.blks] at hs
     ·simp only [VRel,hr] at v1
      obtain ⟨c,hc,e2,_⟩:=v1
      rw [e2] at h1
      simp only [List.cons.injEq,Value.slice.injEq,Option.some.injEq,Addr.mk.injEq,and_true] at h1
      obtain ⟨⟨rfl,rfl⟩,rfl,rfl⟩:=h1
      have hle:y.length * e.sz ≤ c * e.sz:=Nat.mul_le_mul_right _ h2
      simp [flatF] at hnq
      exact .inr ⟨_,_,_,_,hr,zis h3 (by omega) h5 h6 (h7.mono fun _ _ _ _ _ h => h.monoB k1) hnq.2 fun b' hb' => k3 (b,t') (by simp) b' hb'⟩
   ·cases h
  ·cases h
end
end Go.Proofs.YtljojacnjjgceaaGreat.Den
namespace Go.Proofs.YtljojacnjjgceaaGreat.Den
open Go Go.RowKit
def rootB (ρ:Map):Option Nat → List Nat
 | some γ => (ρ γ).blks
 | none => []
def rootH (H:Heap) (ids:List Nat) (x:Blk):Option Nat → Heap
 | some γ => (kill ids H).set γ x
 | none => H
def valX (al:Bool) (v:SV):Option Nat → SV
 | some γ => cond al (.own γ) v
 | none => v
section
variable {w w':World} {ρ ρ':Map} {H H':Heap}
theorem rt_no {rt:Rt} (h:rt = .no) {y:rt.T} {B:Nat → Prop} {us:List Value} {ps:List (Nat × List Nat)} {k:Nat}:(rt.wr y k).2 = [] ∧ (rt.wx w B y us ps → ps = []):=by
 subst h
 exact ⟨rfl,fun h => h.2⟩
theorem zHr {ss:List SV} {us:Array Value} (h:VRels ρ w ss us.toList):VRel ρ w (resV ss) (resU us):=by
 match ss,h with
 | [s],h =>
  obtain ⟨u,e,hu⟩:=h.single'
  have hsz:us.size = 1:=by rw [← Array.length_toList,e]; rfl
  have:us = #[u]:=Array.toList_inj.1 (by simpa using e)
  subst this
  simpa [resV,resU] using hu
 | [],h =>
  simp only [VRels] at h
  have:us = #[]:=Array.toList_inj.1 (by simpa using h)
  subst this
  simp [resV,resU,VRel,VRels]
 | a :: b :: r,h =>
  have hl:=h.length
  simp only [List.length_cons,Array.length_toList] at hl
  have:us.size ≠ 1:=by omega
  simp only [resV,resU,this,dif_neg,not_false_iff,VRel]
  exact ⟨us,rfl,h⟩
theorem zHs {P:Program} {f:FuncId} {le:LE} (hok:le.ok = true) (h:FnSpec P f le):TESound P f le.te:=by
 intro ρ H w args vs x y v H' hH hv hun hview hfn hput
 change le.X at x
 change le.Y at y
 -- the arguments
 obtain ⟨xa,g,ids,rest,xd,hrd,hnd,hxd,rfl⟩:∃ xa g ids rest xd,le.rt.rd H args = some (xa,g,ids,rest) ∧ nodupB ids = true ∧ rdX (cond le.flat (kill ids H) []) [] le.D rest = some (xd,[]) ∧ x = le.xb (xa,xd):=by
  simp only [LE.te] at hview
  split at hview
  ·rename_i a ha
   obtain ⟨xa,g,ids,rest⟩:=a
   obtain ⟨h1,h2⟩:=(zg hview).resolve_right (by simp)
   simp only at h2
   split at h2
   ·rename_i d hd
    obtain ⟨xd,l⟩:=d
    simp only at h2
    split at h2
    ·simp only [Option.some.injEq] at h2
     exact ⟨xa,g,ids,rest,xd,ha,h1,hd,h2.symm⟩
    ·cases h2
   ·cases h2
  ·cases hview
 have hids:=zeH hnd
 obtain ⟨ua,ud,pa,rfl,hvr,hwx,hpn,htok,hg0,hno,hsl,hroot⟩:=Rt.rd_sound (B:=Free ρ w) hH (fun _ h => h) hrd hv hids
 have hH0:HRel ρ [] w:=HRel.pre (H:=[]) (Δ:=H) hH
 let tA:=flatF pa
 have htA:∀ b,Free ρ w b → b ∉ tA:=fun b hb h => zil hb (htok b h).ours
 let res:Nat → Prop:=fun b => if le.flat = true then ρ.res0 b else (b < w.heap.size ∧ ¬ Free ρ w b ∧ b ∉ tA)
 have hresl:∀ b,res b → b < w.heap.size:=fun b hb => by
  simp only [res] at hb
  split at hb
  ·exact hH.resl b (.inl hb)
  ·exact hb.1
 have hresA:∀ b ∈ tA,b < w.heap.size ∧ ¬ res b:=fun b hb => by
  obtain ⟨h1,h2⟩:=(htok b hb).nr hH
  refine ⟨h2,fun h3 => ?_⟩
  simp only [res] at h3
  split at h3
  ·exact h1 h3
  ·exact h3.2.2 hb
 have hfB:∀ b,Free ρ w b → Bf w res tA b:=fun b hb => ⟨hb.1,fun h3 => by
  simp only [res] at h3
  split at h3
  ·exact hb.2.1 (.inl h3)
  ·exact h3.2.1 hb,htA b hb⟩
 obtain ⟨pd,hwd,-,hpd⟩:=zi (B:=Bf w res tA) (Hd:=cond le.flat (kill ids H) []) hH0 hfB (fun {K s x u} h1 h2 => by
  cases hfl:le.flat with
  | true =>
   rw [hfl,cond_true] at h1
   refine CRel.mono (fun b hb => ⟨hb.1,fun h3 => ?_,fun h3 => hb.2.2 (htok b h3)⟩) (fun _ _ => rfl) (zwo hH h1 h2)
   simp only [res,hfl,if_true] at h3
   exact hb.2.1 h3
  | false =>
   rw [hfl,cond_false] at h1
   exact CRel.mono hfB (fun _ _ => rfl) (zB h1 (VRels.single h2))) hxd hvr List.nodup_nil
 obtain rfl:pd = []:=by
  match pd,hpd with
  | [],_ => rfl
  | p :: ps,hpd =>
   obtain ⟨γ,h1,_⟩:=hpd p.1 (zC.2 ⟨p,by simp,.inl rfl⟩)
   cases h1
 refine Calls.mono (h w res ua ud pa xa xd y hresl (Rt.monoB hfB hwx) hpn hresA hwd hfn) fun e w' he => ?_
 obtain ⟨ur,qa,qr,rfl,hkp,hqn,hqb,hwa,hsame,hwr⟩:=he
 obtain ⟨vr,hwr,hal⟩:∃ vr:List Value,WX w' (Bf w' res (flatF (qa ++ qr))) le.R (le.ey y).2 vr qr ∧ ((le.al = false ∧ vr = ur.toList) ∨ (le.al = true ∧ ∃ d e u u',le.rt = .sl d e ∧ ua = [u] ∧ ur = #[u'] ∧ Hdr w' e.sz u u' (pa.map Prod.fst))):=by
  cases hq:le.al with
  | false => rw [hq] at hwr; exact ⟨_,hwr,.inl ⟨rfl,rfl⟩⟩
  | true =>
   rw [hq] at hwr
   obtain ⟨d,e,u,u',h1,h2,h3,h4,h5⟩:=hwr
   exact ⟨_,h5,.inr ⟨rfl,d,e,u,u',h1,h2,h3,h4⟩⟩
 -- what results may lead to
 obtain ⟨B',hB',hwa,hwr⟩:∃ B':Nat → Prop,(∀ b,B' b → b < w'.heap.size ∧ (b < w.heap.size → Free ρ w b ∨ b ∈ tA) ∧ b ∉ flatF (qa ++ qr)) ∧ le.rt.wx w' B' (le.ey y).1 ua qa ∧ WX w' B' le.R (le.ey y).2 vr qr:=by
  cases hfl:le.flat with
  | true =>
   have hok':le.rt.flatOK = true ∧ le.R.flatOK = true:=by
    simp only [LE.ok,hfl,Bool.not_true,Bool.false_or,Bool.and_eq_true] at hok
    exact hok.1
   exact ⟨fun _ => False,fun b h => h.elim,Rt.anyB hok'.1 hwa,hwr.anyB hok'.2⟩
  | false =>
   refine ⟨_,fun b hb => ⟨hb.1,fun hl => ?_,hb.2.2⟩,hwa,hwr⟩
   have:=hb.2.1
   simp only [res,hfl,Bool.false_eq_true,if_false] at this
   refine Classical.byContradiction fun hn => this ⟨hl,fun h => hn (.inl h),fun h => hn (.inr h)⟩
 have hqn':=hqn
 rw [zk] at hqn'
 obtain ⟨nq1,nq2,nq3⟩:=List.nodup_append.1 hqn'
 -- the new names
 let rb:=le.rt.wr (le.ey y).1 H.length
 let en:=enX le.R (le.ey y).2 (H.length + rb.2.length)
 let base:Heap:=rootH H ids rb.1 g
 obtain ⟨hv',rfl⟩:v = valX le.al (resV en.1) g ∧ H' = base ++ (rb.2 ++ en.2):=by
  simp only [LE.te,hrd] at hput
  cases g with
  | some γ =>
   simp only [Option.some.injEq,Prod.mk.injEq] at hput
   exact ⟨hput.1.symm,hput.2.symm⟩
  | none =>
   have e1:rb.2 = []:=(rt_no (w:=w) (B:=fun _ => True) (us:=[]) (ps:=[]) (hg0 rfl)).1
   have e2:en = enX le.R (le.ey y).2 H.length:=by
    show enX le.R (le.ey y).2 (H.length + rb.2.length) = _
    rw [e1]; rfl
   simp only [Option.some.injEq,Prod.mk.injEq] at hput
   rw [e2,e1]
   exact ⟨hput.1.symm,by rw [List.nil_append]; exact hput.2.symm⟩
 let rk:List Nat:=rootB ρ g
 obtain ⟨ms,hml,hmb,hms⟩:∃ ms:List Img,ms.length = (rb.2 ++ en.2).length ∧ (rk ++ imgB ms = (qa ++ qr).map Prod.fst) ∧ ∀ ρ':Map,(∀ b,B' b → Free ρ' w' b) → Agree ρ' H.length ms → (∀ p ∈ qa ++ qr,∀ b ∈ p.2,ρ'.vl b = some p.1) →
   (∀ γ,g = some γ → ChildAt ρ' w' rb.1 (ρ γ)) ∧ VRels ρ' w' en.1 vr ∧ ∀ (i:Nat) (x':Blk) (m:Img),(rb.2 ++ en.2)[i]? = some x' → ms[i]? = some m → ChildAt ρ' w' x' m:=by
  obtain ⟨m2,k1,k2,k3⟩:=hwr.ent nq2 (H.length + rb.2.length)
  cases hg:g with
  | some γ =>
   obtain ⟨_,_,_,_,_,haft⟩:=hroot γ hg
   obtain ⟨m1,g1,g2,g3⟩:=haft w' B' (le.ey y).1 qa H.length hwa hsame nq1
   refine ⟨m1 ++ m2,by rw [List.length_append,List.length_append,g1,k1],by simp only [rk,hg,rootB]; rw [zcy,← List.append_assoc,g2,k2,List.map_append],fun ρ' hB ha hvl => ?_⟩
   have ha2:=ha.split
   rw [g1] at ha2
   obtain ⟨g4,g5⟩:=g3 ρ' hB ha2.1 fun p hp => hvl p (List.mem_append.2 (.inl hp))
   obtain ⟨k4,k5⟩:=k3 ρ' hB ha2.2 fun p hp => hvl p (List.mem_append.2 (.inr hp))
   refine ⟨fun δ hδ => by cases hδ; exact g4,k4,fun i x' m hx hm => ?_⟩
   rcases Nat.lt_or_ge i rb.2.length with hi | hi
   ·rw [List.getElem?_append_left hi] at hx
    rw [List.getElem?_append_left (by rw [g1]; exact hi)] at hm
    exact g5 i x' m hx hm
   ·rw [List.getElem?_append_right hi] at hx
    rw [List.getElem?_append_right (by rw [g1]; exact hi),g1] at hm
    exact k5 _ x' m hx hm
  | none =>
   have e1:rb.2 = []:=(rt_no (w:=w) (B:=fun _ => True) (us:=[]) (ps:=[]) (hg0 hg)).1
   have e2:qa = []:=(rt_no (k:=0) (hg0 hg)).2 hwa
   refine ⟨m2,by rw [e1,List.nil_append]; exact k1,by simp only [rk,hg,rootB]; rw [k2,e2]; rfl,fun ρ' hB ha hvl => ?_⟩
   have ha':Agree ρ' (H.length + rb.2.length) m2:=by rw [e1]; exact ha
   obtain ⟨k4,k5⟩:=k3 ρ' hB ha' fun p hp => hvl p (List.mem_append.2 (.inr hp))
   refine ⟨fun δ hδ => (by cases hδ),k4,fun i x' m hx hm => ?_⟩
   rw [e1,List.nil_append] at hx
   exact k5 i x' m hx hm
 -- where everything lies now
 let tq:=flatF (qa ++ qr)
 let inA:Nat → Bool:=fun b => decide (b ∈ tA) || decide (w.heap.size ≤ b)
 let ρ':Map:=⟨fun γ => if g = some γ then ρ γ else if γ ∈ ids ∧ (ρ γ).born = true then .dead else if γ < H.length then ρ γ else match ms[γ - H.length]? with | some m => m | none => ρ γ,ρ.res0,fun b => if b ∈ tA ∨ w.heap.size ≤ b then vlS (qa ++ qr) b else ρ.vl b⟩
 have hidl:∀ γ ∈ ids,(ρ γ).born = true → γ < H.length ∨ True:=fun _ _ _ => .inr trivial
 have hgi:∀ γ,g = some γ → γ ∈ ids ∧ γ < H.length ∧ ρ γ ≠ .unborn ∧ ρ γ ≠ .dead:=fun γ hγ => ⟨(hroot γ hγ).2.1,(hroot γ hγ).2.2.1,(hroot γ hγ).2.2.2.1,(hroot γ hγ).2.2.2.2.1⟩
 have hnew:∀ γ,H.length ≤ γ → γ < H.length + ms.length → ρ γ = .unborn:=fun γ h1 h2 => hun γ h1 (by
  have e1:base.length = H.length:=by
   show (rootH H ids rb.1 g).length = _
   cases g <;> simp [rootH,zc]
  rw [List.length_append,e1,← hml]; exact h2)
 have hblen:base.length = H.length:=by
  show (rootH H ids rb.1 g).length = _
  cases g <;> simp [rootH,zc]
 have eroot:∀ γ,g = some γ → ρ' γ = ρ γ:=fun γ hγ => by simp only [ρ']; rw [if_pos hγ]
 have enew:∀ j m,ms[j]? = some m → ρ' (H.length + j) = m:=fun j m hm => by
  have hj:=(List.getElem?_eq_some_iff.1 hm).1
  have hub:=hnew (H.length + j) (by omega) (by omega)
  simp only [ρ']
  rw [if_neg (fun hγ => by have:=(hgi _ hγ).2.1; omega),if_neg (fun h => by rw [hub] at h; simp [Img.born] at h),if_neg (by omega),show H.length + j - H.length = j by omega,hm]
 have hcase:∀ {γ b o n sz},ρ' γ = .at b o n sz → (g = some γ ∧ ρ γ = .at b o n sz) ∨ (γ ∉ ids ∧ ρ γ = .at b o n sz ∧ (γ < H.length ∨ H.length + ms.length ≤ γ)) ∨ ∃ j,γ = H.length + j ∧ ms[j]? = some (.at b o n sz):=by
  intro γ b o n sz h
  simp only [ρ'] at h
  split at h
  ·rename_i h1; exact .inl ⟨h1,h⟩
  ·split at h
   ·cases h
   ·rename_i h1 h2
    split at h
    ·rename_i h3
     exact .inr (.inl ⟨fun h4 => h2 ⟨h4,by rw [h]; rfl⟩,h,.inl h3⟩)
    ·rename_i h3
     split at h
     ·rename_i m hm
      subst h
      exact .inr (.inr ⟨γ - H.length,by omega,hm⟩)
     ·rename_i hm
      have:=List.getElem?_eq_none_iff.1 hm
      exact .inr (.inl ⟨fun h4 => h2 ⟨h4,by rw [h]; rfl⟩,h,.inr (by omega)⟩)
 have hmem:∀ b,b ∈ rk ∨ b ∈ imgB ms → b ∈ (qa ++ qr).map Prod.fst:=fun b hb => by rw [← hmb]; exact List.mem_append.2 hb
 have hfst:∀ b,b ∈ (qa ++ qr).map Prod.fst → b ∈ tq:=fun b hb => zcz.subset hb
 have htq:∀ b ∈ tq,b < w'.heap.size ∧ (b ∈ tA ∨ w.heap.size ≤ b):=hqb
 have hrnd:(rk ++ imgB ms).Nodup:=by rw [hmb]; exact zcz.nodup hqn
 have hrkm:∀ {γ b o n sz},g = some γ → ρ γ = .at b o n sz → b ∈ rk:=fun hγ hr => by simp only [rk,hγ,rootB,hr,Img.blks]; simp
 have hold:∀ {γ b o n sz},γ ∉ ids → ρ γ = .at b o n sz → ∀ c,(c = b ∨ ρ.vl c = some b) → c ∉ tA ∧ c < w.heap.size:=by
  intro γ b o n sz hγ hr c hc
  have h1:Tok ρ [γ] c:=⟨γ,by simp,_,_,_,_,hr,hc⟩
  exact ⟨fun h => zo hH (i1:=[γ]) (by simpa using hγ) h1 (htok c h),(h1.nr hH).2⟩
 have hvlq:∀ p ∈ qa ++ qr,∀ b ∈ p.2,ρ'.vl b = some p.1:=fun p hp b hb => by
  simp only [ρ']
  rw [if_pos (htq b (zC.2 ⟨p,hp,.inr hb⟩)).2]
  exact zeF hqn hp hb
 have hvlo:∀ b,b ∉ tA → b < w.heap.size → ρ'.vl b = ρ.vl b:=fun b h1 h2 => by
  simp only [ρ']
  rw [if_neg (by rintro (h | h); exact h1 h; omega)]
 have hvln:∀ b t,ρ'.vl b = some t → (b ∈ tq ∧ (b ∈ tA ∨ w.heap.size ≤ b)) ∨ (b ∉ tA ∧ b < w.heap.size ∧ ρ.vl b = some t):=fun b t h1 => by
  simp only [ρ'] at h1
  split at h1
  ·obtain ⟨p,h2,h3,_⟩:=vlS_mem h1
   have h4:b ∈ tq:=zC.2 ⟨p,h2,.inr h3⟩
   exact .inl ⟨h4,(htq b h4).2⟩
  ·rename_i h2
   exact .inr ⟨fun h => h2 (.inl h),by
    rcases Nat.lt_or_ge b w.heap.size with h | h
    ·exact h
    ·exact absurd (.inr h) h2,h1⟩
 have hoq:∀ b,b ∈ tA ∨ w.heap.size ≤ b → Ours ρ w b:=fun b hb => by
  rcases hb with hb | hb
  ·exact (htok b hb).ours
  ·exact .inr (.inl hb)
 have hst:Step ρ w ρ' w':={
  os:=hkp.os,tape:=hkp.tape,output:=hkp.output,size:=hkp.size
  kept:=fun b hb hn hv => hkp.kept b hb fun h => by
   rcases (htok b h).ours (w:=w) with ⟨_,_,_,_,h⟩ | h | h
   ·exact hn _ _ _ _ h
   ·omega
   ·exact h hv
  shape:=hkp.shape
  img:=fun γ b o n sz h => by
   rcases hcase h with ⟨_,h⟩ | ⟨_,h,_⟩ | ⟨j,_,h⟩
   ·exact .inl ⟨_,_,_,_,h⟩
   ·exact .inl ⟨_,_,_,_,h⟩
   ·exact hoq b (htq b (hfst b (hmem b (.inr (zh h))))).2
  ref:=fun γ h => by
   by_cases h1:g = some γ
   ·exact .inl (eroot γ h1)
   ·simp only [ρ']
    rw [if_neg h1]
    split
    ·exact .inr rfl
    ·split
     ·exact .inl rfl
     ·rename_i h3
      split
      ·rename_i m hm
       exact absurd (hnew γ (by omega) (by have:=(List.getElem?_eq_some_iff.1 hm).1; omega)) h
      ·exact .inl rfl
  res:=rfl
  vl:=fun b t h => by
   rcases hvln b t h with ⟨_,h⟩ | ⟨_,_,h⟩
   ·exact hoq b h
   ·exact ours_vl h }
 have hBf:∀ b,B' b → Free ρ' w' b:=fun b hb => by
  obtain ⟨h1,h2,h3⟩:=hB' b hb
  have hnq:∀ b',b' = b → b' ∉ tq:=fun b' e => by rw [e]; exact h3
  rcases Nat.lt_or_ge b w.heap.size with hl | hl
  ·rcases h2 hl with h2 | h2
   ·exact h2.step hst
   ·refine ⟨h1,fun hr => ?_,fun γ o n sz hr => ?_⟩
    ·rcases hr with hr | hr
     ·exact ((htok b h2).nr hH).1 hr
     ·cases hv:ρ'.vl b with
      | none => exact hr hv
      | some t =>
       rcases hvln b t hv with ⟨h4,_⟩ | ⟨h4,_⟩
       ·exact h3 h4
       ·exact h4 h2
    ·rcases hcase hr with ⟨hγ,h⟩ | ⟨hγ,h,_⟩ | ⟨j,_,h⟩
     ·exact h3 (hfst b (hmem b (.inl (hrkm hγ h))))
     ·exact (hold hγ h b (.inl rfl)).1 h2
     ·exact h3 (hfst b (hmem b (.inr (zh h))))
  ·refine ⟨h1,fun hr => ?_,fun γ o n sz hr => ?_⟩
   ·rcases hr with hr | hr
    ·have:=hH.resl b (.inl hr); omega
    ·cases hv:ρ'.vl b with
     | none => exact hr hv
     | some t =>
      rcases hvln b t hv with ⟨h4,_⟩ | ⟨_,h4,_⟩
      ·exact h3 h4
      ·omega
   ·rcases hcase hr with ⟨hγ,h⟩ | ⟨hγ,h,_⟩ | ⟨j,_,h⟩
    ·exact h3 (hfst b (hmem b (.inl (hrkm hγ h))))
    ·have:=hH.lt _ _ _ _ _ h; omega
    ·exact h3 (hfst b (hmem b (.inr (zh h))))
 obtain ⟨hch,hvr',hnews⟩:=hms ρ' hBf (fun j m hm => enew j m hm) hvlq
 have hlen:(base ++ (rb.2 ++ en.2)).length = H.length + ms.length:=by rw [List.length_append,hblen,hml]
 -- what stands where
 have hget:∀ γ,γ < H.length + ms.length → (∃ x,(base ++ (rb.2 ++ en.2))[γ]? = some x ∧ ChildAt ρ' w' x (ρ' γ) ∧ (g = some γ ∨ H.length ≤ γ)) ∨ (γ < H.length ∧ g ≠ some γ ∧ (base ++ (rb.2 ++ en.2))[γ]? = (kill ids H)[γ]?):=by
  intro γ hγ
  rcases Nat.lt_or_ge γ H.length with hl | hl
  ·by_cases hg:g = some γ
   ·refine .inl ⟨rb.1,?_,by rw [eroot γ hg]; exact hch γ hg,.inl hg⟩
    rw [List.getElem?_append_left (by rw [hblen]; exact hl)]
    show (rootH H ids rb.1 g)[γ]? = _
    rw [hg]
    simp [rootH,zc,hl]
   ·refine .inr ⟨hl,hg,?_⟩
    rw [List.getElem?_append_left (by rw [hblen]; exact hl)]
    show (rootH H ids rb.1 g)[γ]? = _
    cases hg2:g with
    | none =>
     have:ids = []:=hno (hg0 hg2)
     rw [this]; rfl
    | some δ =>
     simp only [rootH]
     rw [List.getElem?_set_ne (fun e => hg (by rw [hg2,e]))]
  ·have hj:γ - H.length < ms.length:=by omega
   have h1:ms[γ - H.length]? = some (ms[γ - H.length]'hj):=List.getElem?_eq_getElem hj
   have h2:(rb.2 ++ en.2)[γ - H.length]? = some ((rb.2 ++ en.2)[γ - H.length]'(by rw [← hml]; exact hj)):=List.getElem?_eq_getElem _
   refine .inl ⟨_,by rw [List.getElem?_append_right (by rw [hblen]; exact hl),hblen]; exact h2,?_,.inr hl⟩
   have e:=enew _ _ h1
   rw [show H.length + (γ - H.length) = γ by omega] at e
   rw [e]
   exact hnews _ _ _ h2 h1
 have hdeadw:∀ {γ},γ < H.length → g ≠ some γ → ρ' γ = (if γ ∈ ids ∧ (ρ γ).born = true then .dead else ρ γ):=fun {γ} hl hg => by
  simp only [ρ']
  rw [if_neg hg]
  split
  ·rfl
  ·first | rfl | rw [if_pos hl]
 refine ⟨resU ur,ρ',rfl,hst,?_,?_,by rw [hlen]; omega,fun γ h1 h2 => ?_,fun hm => ?_⟩
 ·constructor
  ·intro γ hl hd
   rw [hlen] at hl
   rcases hget γ hl with ⟨x,h1,h2,_⟩ | ⟨h1,h2,h3⟩
   ·rcases h2 with ⟨h2,_⟩ | ⟨_,_,_,_,h2,_⟩ <;> rw [hd] at h2 <;> cases h2
   ·rw [h3,zj]
    rw [hdeadw h1 h2] at hd
    split at hd
    ·rename_i h4; rw [if_pos ⟨h4.1,h1⟩]
    ·split
     ·rfl
     ·exact hH.dead γ h1 hd
  ·intro γ hl hd
   rw [hlen] at hl
   rcases hget γ hl with ⟨x,h1,h2,_⟩ | ⟨h1,h2,h3⟩
   ·rcases h2 with ⟨_,h2⟩ | ⟨_,_,_,_,h2,_⟩
    ·rw [h1]
     rcases h2 with ⟨K',t',rfl⟩ | ⟨t',z',rfl⟩ | ⟨d',e',rfl⟩
     ·exact .inl ⟨_,_,rfl⟩
     ·exact .inr (.inl ⟨_,_,rfl⟩)
     ·exact .inr (.inr ⟨_,_,rfl⟩)
    ·rw [hd] at h2; cases h2
   ·rw [hdeadw h1 h2] at hd
    split at hd
    ·cases hd
    ·rename_i h4
     rw [h3,zj,if_neg (fun h5 => h4 ⟨h5.1,by rw [hd]; rfl⟩)]
     exact hH.none_ γ h1 hd
  ·intro γ hl b o n sz hd
   rw [hlen] at hl
   rcases hget γ hl with ⟨x,h1,h2,_⟩ | ⟨h1,h2,h3⟩
   ·rcases h2 with ⟨h2,_⟩ | ⟨_,_,_,_,h2,h4⟩
    ·rw [hd] at h2; cases h2
    ·rw [hd] at h2; cases h2
     exact ⟨x,h1,h4⟩
   ·rw [hdeadw h1 h2] at hd
    split at hd
    ·cases hd
    ·rename_i h4
     have hγ:γ ∉ ids:=fun h5 => h4 ⟨h5,by rw [hd]; rfl⟩
     obtain ⟨x,h5,h6⟩:=hH.at_ γ h1 _ _ _ _ hd
     refine ⟨x,by rw [h3,zj,if_neg (fun h => hγ h.1)]; exact h5,h6.keep hst (hkp.kept b (hH.lt _ _ _ _ _ hd) (hold hγ hd b (.inl rfl)).1) fun c hc => ?_⟩
     obtain ⟨k1,k2⟩:=hold hγ hd c (.inr hc)
     exact ⟨hkp.kept c k2 k1,by rw [hvlo c k1 k2]; exact hc⟩
  ·intro γ δ b o1 n1 s1 o2 n2 s2 h1 h2
   have hq:∀ {γ o n sz},γ ∉ ids → ρ γ = .at b o n sz → b ∈ tq → False:=fun hγ hr hb => by
    obtain ⟨k1,k2⟩:=hold hγ hr b (.inl rfl)
    rcases (htq b hb).2 with h | h
    ·exact k1 h
    ·omega
   obtain ⟨_,_,hdis⟩:=List.nodup_append.1 hrnd
   rcases hcase h1 with ⟨g1,g2⟩ | ⟨g1,g2,_⟩ | ⟨j,rfl,g2⟩ <;> rcases hcase h2 with ⟨k1,k2⟩ | ⟨k1,k2,_⟩ | ⟨j',rfl,k2⟩
   ·rw [g1] at k1; exact Option.some.inj k1
   ·exact (hq k1 k2 (hfst b (hmem b (.inl (hrkm g1 g2))))).elim
   ·exact (hdis b (hrkm g1 g2) b (zh k2) rfl).elim
   ·exact (hq g1 g2 (hfst b (hmem b (.inl (hrkm k1 k2))))).elim
   ·exact hH.inj _ _ _ _ _ _ _ _ _ g2 k2
   ·exact (hq g1 g2 (hfst b (hmem b (.inr (zh k2))))).elim
   ·exact (hdis b (hrkm k1 k2) b (zh g2) rfl).elim
   ·exact (hq k1 k2 (hfst b (hmem b (.inr (zh g2))))).elim
   ·rw [zir (List.nodup_append.1 hrnd).2.1 g2 k2]
  ·intro γ b o n sz h1
   rcases hcase h1 with ⟨_,h⟩ | ⟨_,h,_⟩ | ⟨j,_,h⟩
   ·have:=hH.lt _ _ _ _ _ h; have:=hkp.size; omega
   ·have:=hH.lt _ _ _ _ _ h; have:=hkp.size; omega
   ·exact (htq b (hfst b (hmem b (.inr (zh h))))).1
  ·intro b hb
   have:=hkp.size
   rcases hb with hb | hb
   ·have:=hH.resl b (.inl hb); omega
   ·cases hv:ρ'.vl b with
    | none => exact absurd hv hb
    | some t =>
     rcases hvln b t hv with ⟨h,_⟩ | ⟨_,h,_⟩
     ·exact (htq b h).1
     ·omega
  ·intro γ b o n sz h1 hr
   have hroots:b ∈ (qa ++ qr).map Prod.fst → False:=fun hb => by
    have hbq:=hfst b hb
    rcases hr with hr | hr
    ·rcases (htq b hbq).2 with h | h
     ·exact ((htok b h).nr hH).1 hr
     ·have:=hH.resl b (.inl hr); omega
    ·apply hr
     simp only [ρ']
     rw [if_pos (htq b hbq).2]
     exact zit hqn hb
   rcases hcase h1 with ⟨hγ,h⟩ | ⟨hγ,h,_⟩ | ⟨j,_,h⟩
   ·exact hroots (hmem b (.inl (hrkm hγ h)))
   ·obtain ⟨k1,k2⟩:=hold hγ h b (.inl rfl)
    rcases hr with hr | hr
    ·exact hH.resf _ _ _ _ _ h (.inl hr)
    ·rw [hvlo b k1 k2] at hr
     exact hH.resf _ _ _ _ _ h (.inr hr)
   ·exact hroots (hmem b (.inr (zh h)))
  ·intro b t h1 h2
   rcases hvln b t h1 with ⟨_,h | h⟩ | ⟨_,_,h⟩
   ·exact ((htok b h).nr hH).1 h2
   ·have:=hH.resl b (.inl h2); omega
   ·exact hH.vr _ _ h h2
 ·rw [hv']
  rcases hal with ⟨h1,rfl⟩ | ⟨h1,d,e,u,u',h2,rfl,rfl,h5⟩
  ·have:=zHr hvr'
   rw [h1]
   cases g <;> exact this
  ·cases hg:g with
   | none => have:=hg0 hg; rw [h2] at this; cases this
   | some γ =>
    simp only [valX,h1,cond_true]
    obtain ⟨h4,h6,u2,h7,h8⟩:=hsl d e h2 γ hg
    simp only [List.cons.injEq,and_true] at h7
    subst h7
    have eu:resU #[u'] = u':=by simp [resU]
    rw [eu]
    simp only [VRel,eroot γ hg]
    rw [h4] at h5
    rcases h6 with h6 | ⟨b,o,n,h6⟩
    ·simp only [h6,Img.blks,Hdr] at h5 ⊢
     exact h5
    ·simp only [VRel,h6] at h8
     simp only [h6,Img.blks,Hdr] at h5 ⊢
     obtain ⟨c,h9,rfl,h10⟩:=h8
     obtain ⟨o',n',c1,c',h11,h12,h13,h14⟩:=h5
     cases h11
     exact ⟨c',h13,h12,h14⟩
 ·rw [hlen] at h2
  simp only [ρ']
  rw [if_neg (fun hγ => (hgi γ hγ).2.2.1 h1),if_neg (fun h => by rw [h1] at h; simp [Img.born] at h),if_neg (by omega),List.getElem?_eq_none (by omega)]
  exact h1
 ·have hrt:le.rt = .no:=by
   simp only [LE.te] at hm
   cases hq:le.rt <;> rw [hq] at hm <;> first | rfl | simp [Rt.wrt] at hm
  have hgn:g = none:=by
   cases hq:g with
   | none => rfl
   | some γ => have:=(hroot γ hq).1; rw [hrt] at this; simp [Rt.wrt] at this
  have hi:ids = []:=hno hrt
  have hta:tA = []:=by
   show flatF pa = []
   match pa,htok with
   | [],_ => rfl
   | p :: ps,htok =>
    obtain ⟨γ,h1,_⟩:=htok p.1 (zC.2 ⟨p,by simp,.inl rfl⟩)
    rw [hi] at h1; cases h1
  refine ⟨⟨rb.2 ++ en.2,by show rootH H ids rb.1 g ++ _ = _; rw [hgn]; rfl⟩,fun γ hγ => ?_,fun b hb => hkp.kept b hb (by show b ∉ tA; rw [hta]; simp),fun b t hb => ?_⟩
  ·simp only [ρ']
   rw [if_neg (by rw [hgn]; simp),if_neg (by rw [hi]; simp)]
   rcases hγ with hγ | hγ
   ·rw [if_pos hγ]
   ·rw [hlen] at hγ
    rw [if_neg (by omega),List.getElem?_eq_none (by omega)]
  ·rw [hvlo b (by rw [hta]; simp) (hH.vlt hb)]; exact hb
end
end Go.Proofs.YtljojacnjjgceaaGreat.Den
namespace Go.Proofs.YtljojacnjjgceaaGreat.Den
open Go Go.RowKit
def lightRes (P:Program):List ResultVar → Option (List (Nat × Option (Nat × Bool)))
 | [] => some []
 | .tmp t :: r => (lightRes P r).map ((t,none) :: ·)
 | .cell a t :: r => match P.info? t,isAggL P t,lightRes P r with
  | some i,some ag,some l => if ag = false → i.size = 1 then some ((a,some (i.size,ag)) :: l) else none
  | _,_,_ => none
def evalRes (τ:Env) (H:Heap):List (Nat × Option (Nat × Bool)) → Option (List SV)
 | [] => some []
 | (t,none) :: r => match evalRes τ H r with
  | some l => some (Tm.get τ t :: l)
  | none => none
 | (a,some (n,ag)) :: r => match ldI H n ag (Tm.get τ a) some,evalRes τ H r with
  | some v,some l => some (v :: l)
  | _,_ => none
def env0:List SV → Nat → Env
 | [],_ => []
 | s :: ss,k => (k,s) :: env0 ss (k + 1)
def eqL:List Nat → List Nat → Bool
 | [],[] => true
 | x :: xs,y :: ys => Nat.beq x y && eqL xs ys
 | _,_ => false
def Rt.args:Rt → List SV
 | .no => []
 | .cells _ | .arr _ => [.ptr 0 0]
 | .sl _ _ => [.own 0]
def Rt.heap:(rt:Rt) → rt.T → Heap
 | .no,_ => []
 | .cells i,x => .cells (enX i x 1).1 0 (enX i x 1).1.length :: (enX i x 1).2
 | .arr K,x => [.arr K x 0]
 | .sl d e,x => [childB d e x]
def Rt.n0:Rt → Nat
 | .no => 0
 | _ => 1
def ownZ:List SV → Bool
 | [.own 0] => true
 | _ => false
def endX (rv:List (Nat × Option (Nat × Bool))) (le:LF) (ex:Ex) (τ:Env) (H:Heap):Option le.Y :=
 match ex with
 | .exit _ => none
 | _ => match evalRes τ H rv with
  | some ss => cond (le.al && !ownZ ss) none (match le.rt.rd H le.rt.args with
   | some a => match rdX H H le.R (cond le.al [] ss) with
    | some r1 => cond (nodupB (a.2.2.1 ++ r1.2)) (match rdX (kill (a.2.2.1 ++ r1.2) H) H le.R (cond le.al [] ss) with
     | some r => cond (eqL r.2 r1.2) (some (le.yb (a.1,r.1))) none
     | none => none) none
    | none => none
   | none => none)
  | none => none
def LF.go (le:LF) (T:Tab) (Z:Nat) (c:C) (rv:List (Nat × Option (Nat × Bool))) (xa:le.rt.T) (xd:le.D.T):Option le.Y:=run T le.rt.n0 Z c (env0 (le.rt.args ++ (enX le.D xd 0).1) 0) (le.rt.heap xa) (endX rv le)
section
variable {P:Program} {w:World} {ρ ρ':Map} {H H':Heap}
theorem ld_spec {t:TypeId} {s v:SV} {val:Value} {i:TypeInfo} {ag:Bool} (hi:P.info? t = some i) (ha:isAggL P t = some ag) (hH:HRel ρ H w) (hx:VRel ρ w s val)
  (he:ldI H i.size ag s some = some v):∃ ad,val = .pointer (some ad) ∧ ∃ u,(loadVar t ad).run P w = .ok u w ∧ VRel ρ w v u:=by
 obtain ⟨v',hk,h⟩:=ld_gen hi ha hH hx he
 cases hk; exact h
def resStep (tmps:Array Value):ResultVar → Sem Value
 | .tmp t => pure (tmps.getD t undef)
 | .cell a t => do loadVar t (← asAddr (tmps.getD a undef))
theorem zHt (fn:Func) (tmps:Array Value):results fn tmps = (do let vs ← fn.results.mapM (resStep tmps); pure (resU vs)):=by
 have:(fun r:ResultVar => (match r with
   | .tmp t => pure (tmps.getD t undef)
   | .cell a t => do loadVar t (← asAddr (tmps.getD a undef)):Sem Value)) = resStep tmps:=by
  funext r; cases r <;> rfl
 rw [← this]
 rfl
theorem zp1 {τ:Env} {a:Act} {N:Nat} (ht:TRel ρ w τ a N) (hH:HRel ρ H w):∀ {l:List ResultVar} {rv:List (Nat × Option (Nat × Bool))} {ss:List SV},lightRes P l = some rv → evalRes τ H rv = some ss →
  ∃ vs,(l.mapM (resStep a.tmps)).run P w = .ok vs w ∧ VRels ρ w ss vs
 | [],rv,ss,h1,h2 => by
  simp [lightRes] at h1; subst h1
  simp [evalRes] at h2; subst h2
  exact ⟨[],rfl,by simp [VRels]⟩
 | .tmp t :: r,rv,ss,h1,h2 => by
  simp only [lightRes] at h1
  obtain ⟨l,h3,rfl⟩:=Option.map_eq_some_iff.1 h1
  simp only [evalRes] at h2
  split at h2
  ·rename_i l' h4
   simp only [Option.some.injEq] at h2; subst h2
   obtain ⟨vs,h5,h6⟩:=zp1 ht hH h3 h4
   refine ⟨a.tmps.getD t undef :: vs,?_,?_⟩
   ·simp only [List.mapM_cons,Sem.run_bind,resStep,Sem.run_pure,Result.andThen_ok,h5]
   ·simp only [VRels]; exact ⟨_,_,rfl,ht.2.2 t,h6⟩
  ·simp at h2
 | .cell x t :: r,rv,ss,h1,h2 => by
  simp only [lightRes] at h1
  split at h1
  ·rename_i i ag l hi ha h3
   split at h1
   ·simp only [Option.some.injEq] at h1; subst h1
    simp only [evalRes] at h2
    split at h2
    ·rename_i v l' hv h4
     simp only [Option.some.injEq] at h2; subst h2
     obtain ⟨vs,h5,h6⟩:=zp1 ht hH h3 h4
     obtain ⟨ad,h7,u,h8,h9⟩:=ld_spec hi ha hH (ht.2.2 x) hv
     refine ⟨u :: vs,?_,?_⟩
     ·have h10:(resStep a.tmps (.cell x t)).run P w = .ok u w:=by
       simp [resStep,h7,asAddr,h8]
      simp only [List.mapM_cons,Sem.run_bind,h10,Sem.run_pure,Result.andThen_ok,h5]
     ·simp only [VRels]; exact ⟨_,_,rfl,h9,h6⟩
    ·simp at h2
   ·simp at h1
  ·simp at h1
theorem zHu {fn:Func} {τ:Env} {a:Act} {N:Nat} {rv:List (Nat × Option (Nat × Bool))} {ss:List SV} (ht:TRel ρ w τ a N) (hH:HRel ρ H w) (h1:lightRes P fn.results.toList = some rv) (h2:evalRes τ H rv = some ss) :
  ∃ vs:Array Value,(results fn a.tmps).run P w = .ok (resU vs) w ∧ VRels ρ w ss vs.toList:=by
 obtain ⟨vs,h3,h4⟩:=zp1 ht hH h1 h2
 refine ⟨vs.toArray,?_,by simpa using h4⟩
 rw [zHt,Sem.run_bind,Array.mapM_eq_mapM_toList,Sem.run_map,h3]
 rfl
theorem zwp:∀ {ss:List SV} {k n:Nat},Tm.get (env0 ss k) n = if k ≤ n then (match ss[n - k]? with | some s => s | none => .junk) else .junk
 | [],k,n => by simp [env0,Tm.get]
 | s :: ss,k,n => by
  simp only [env0]
  rw [Tm.get_cons,zwp]
  by_cases h:k = n
  ·subst h; simp
  ·rw [if_neg h]
   by_cases h2:k ≤ n
   ·rw [if_pos (by omega),if_pos h2]
    have:n - k = (n - (k + 1)) + 1:=by omega
    rw [this]; rfl
   ·rw [if_neg (by omega),if_neg h2]
theorem eqL_eq:∀ {a b:List Nat},eqL a b = true → a = b
 | [],[],_ => rfl
 | x :: xs,y :: ys,h => by
  simp only [eqL,Bool.and_eq_true] at h
  rw [Nat.eq_of_beq_eq_true h.1,eqL_eq h.2]
def Rt.sx:Rt → Sx
 | .no => .nil
 | .cells i => .ptr i .nil
 | .arr K => .parr K .nil
 | .sl d e => .own d e .nil
def Rt.up:(rt:Rt) → rt.T → rt.sx.T
 | .no,_ => ()
 | .cells _,x => (x,())
 | .arr _,x => (x,())
 | .sl _ _,x => (x,())
theorem Rt.wx_sx {B:Nat → Prop}:∀ {rt:Rt} {x:rt.T} {us:List Value} {ps:List (Nat × List Nat)},rt.wx w B x us ps ↔ WX w B rt.sx (rt.up x) us ps
 | .no,_,_,_ => Iff.rfl
 | .cells _,_,_,_ => Iff.rfl
 | .arr _,_,_,_ => Iff.rfl
 | .sl d e,x,us,ps => ⟨fun ⟨u,h1,h2⟩ => ⟨u,[],ps,[],h1,by simp,h2,rfl,rfl⟩,fun ⟨u,us',p1,p2,h1,h2,h3,h4,h5⟩ => ⟨u,by rw [h1,h4],by rw [h2,h5,List.append_nil]; exact h3⟩⟩
theorem Rt.en_sx:∀ {rt:Rt} {x:rt.T},enX rt.sx (rt.up x) 0 = (rt.args,rt.heap x)
 | .no,_ => rfl
 | .cells i,x => by simp [Rt.sx,Rt.up,enX,Rt.args,Rt.heap]
 | .arr K,x => rfl
 | .sl d e,x => rfl
theorem Rt.start {rt:Rt} {res:Nat → Prop} {xa:rt.T} {ua:List Value} {pa:List (Nat × List Nat)} (hres:∀ b,res b → b < w.heap.size) (hw:rt.wx w (Bf w res (flatF pa)) xa ua pa) (hnd:(flatF pa).Nodup) (hpl:∀ b ∈ flatF pa,b < w.heap.size ∧ ¬ res b) :
  ∃ ρ0:Map,ρ0.res0 = res ∧ (∀ b t,ρ0.vl b = some t → b ∈ flatF pa) ∧ (∀ β b o n sz,ρ0 β = .at b o n sz → b ∈ flatF pa) ∧ (∀ b,Bf w res (flatF pa) b → Free ρ0 w b) ∧ HRel ρ0 (rt.heap xa) w ∧ (∀ β,(rt.heap xa).length ≤ β → ρ0 β = .unborn) ∧
   VRels ρ0 w rt.args ua ∧ (∀ β,β < (rt.heap xa).length → ρ0 β ≠ .unborn) ∧ ((∃ d e,rt = .sl d e) → (ρ0 0).blks = pa.map Prod.fst):=by
 obtain ⟨ms,hml,hmb,hent⟩:=(Rt.wx_sx.1 hw).ent hnd 0
 rw [Rt.en_sx] at hml hent
 simp only at hml hent
 let ρ0:Map:=⟨fun β => match ms[β]? with | some m => m | none => .unborn,res,vlS pa⟩
 have hat:∀ {β m},ms[β]? = some m → ρ0 β = m:=fun {β m} h => by simp only [ρ0]; rw [h]
 have hcase:∀ {β b o n sz},ρ0 β = .at b o n sz → ms[β]? = some (.at b o n sz):=fun {β b o n sz} h => by
  simp only [ρ0] at h
  split at h
  ·rename_i m hm; rw [hm,h]
  ·cases h
 have hroot:∀ b,b ∈ imgB ms → b ∈ flatF pa:=fun b h => zcz.subset (by rw [← hmb]; exact h)
 have hvl:∀ b t,ρ0.vl b = some t → b ∈ flatF pa:=fun b t h => by
  obtain ⟨p,h1,h2,_⟩:=vlS_mem h
  exact zC.2 ⟨p,h1,.inr h2⟩
 have hfree:∀ b,Bf w res (flatF pa) b → Free ρ0 w b:=fun b hb => ⟨hb.1,fun h => by
  rcases h with h | h
  ·exact hb.2.1 h
  ·cases hv:ρ0.vl b with
   | none => exact h hv
   | some t => exact hb.2.2 (hvl b t hv),fun β o n sz h => hb.2.2 (hroot b (zh (hcase h)))⟩
 obtain ⟨hv,hch⟩:=hent ρ0 hfree (fun i m hm => by rw [Nat.zero_add]; exact hat hm) fun p hp b hb => zeF hnd hp hb
 have hget:∀ β,β < (rt.heap xa).length → ∃ x m,(rt.heap xa)[β]? = some x ∧ ρ0 β = m ∧ ChildAt ρ0 w x m:=fun β h => by
  have h1:ms[β]? = some (ms[β]'(by omega)):=List.getElem?_eq_getElem (by omega)
  have h2:(rt.heap xa)[β]? = some ((rt.heap xa)[β]'h):=List.getElem?_eq_getElem h
  exact ⟨_,_,h2,hat h1,hch _ _ _ h2 h1⟩
 refine ⟨ρ0,rfl,hvl,fun β b o n sz h => hroot b (zh (hcase h)),hfree,?_,fun β hβ => by simp only [ρ0]; rw [List.getElem?_eq_none (by omega)],hv,fun β hβ => ?_,fun hs => ?_⟩
 ·constructor
  ·intro β hl hd
   obtain ⟨x,m,_,h2,h3⟩:=hget β hl
   rw [hd] at h2
   rcases h3 with ⟨h3,_⟩ | ⟨_,_,_,_,h3,_⟩ <;> rw [h3] at h2 <;> cases h2
  ·intro β hl hd
   obtain ⟨x,m,h1,h2,h3⟩:=hget β hl
   rcases h3 with ⟨_,h3⟩ | ⟨_,_,_,_,h3,_⟩
   ·rw [h1]
    rcases h3 with ⟨K',t',rfl⟩ | ⟨t',z',rfl⟩ | ⟨d',e',rfl⟩
    ·exact .inl ⟨_,_,rfl⟩
    ·exact .inr (.inl ⟨_,_,rfl⟩)
    ·exact .inr (.inr ⟨_,_,rfl⟩)
   ·rw [hd,h3] at h2; cases h2
  ·intro β hl b o n sz hd
   obtain ⟨x,m,h1,h2,h3⟩:=hget β hl
   rcases h3 with ⟨h3,_⟩ | ⟨_,_,_,_,h3,h4⟩
   ·rw [hd,h3] at h2; cases h2
   ·rw [hd,h3] at h2; cases h2
    exact ⟨x,h1,h4⟩
  ·intro β γ b o n sz o' n' sz' h1 h2
   exact zir (by rw [hmb]; exact zcz.nodup hnd) (hcase h1) (hcase h2)
  ·intro β b o n sz h
   exact (hpl b (hroot b (zh (hcase h)))).1
  ·intro b h
   rcases h with h | h
   ·exact hres b h
   ·cases hv:ρ0.vl b with
    | none => exact absurd hv h
    | some t => exact (hpl b (hvl b t hv)).1
  ·intro β b o n sz h hr
   have hm:=zh (hcase h)
   rcases hr with hr | hr
   ·exact (hpl b (hroot b hm)).2 hr
   ·exact hr (zit hnd (by rw [← hmb]; exact hm))
  ·intro b t h hr
   exact (hpl b (hvl b t h)).2 hr
 ·obtain ⟨x,m,_,h2,h3⟩:=hget β hβ
  rw [h2]
  rcases h3 with ⟨rfl,_⟩ | ⟨_,_,_,_,rfl,_⟩ <;> simp
 ·obtain ⟨d,e,rfl⟩:=hs
  rw [← hmb]
  have h1:ms.length = 1:=by rw [hml]; rfl
  obtain ⟨m,rfl⟩:∃ m,ms = [m]:=by
   match ms,h1 with
   | [m],_ => exact ⟨m,rfl⟩
  rw [hat (β:=0) (m:=m) rfl]
  cases m <;> rfl
theorem zHv {rt:Rt} {ua:List Value} (h0:rt = .no ∨ ρ' 0 = ρ 0) (hd:rt = .no ∨ ρ 0 ≠ .dead) {w':World} (hs:∀ (b:Nat) C t fr,w.heap[b]? = some (.cells C t fr) → ∃ C',w'.heap[b]? = some (.cells C' t fr) ∧ C'.size = C.size) (h:VRels ρ w rt.args ua):VRels ρ' w' rt.args ua:=by
 cases rt with
 | no => exact h
 | cells i => simp only [Rt.args,VRels,VRel] at h ⊢; rw [h0.resolve_left (by simp)]; exact h
 | arr K => simp only [Rt.args,VRels,VRel] at h ⊢; rw [h0.resolve_left (by simp)]; exact h
 | sl d e =>
  simp only [Rt.args,VRels,VRel] at h ⊢
  rw [h0.resolve_left (by simp)]
  obtain ⟨u,us,rfl,h1,rfl⟩:=h
  refine ⟨u,[],rfl,?_,rfl⟩
  rcases hr:ρ 0 with _ | _ | _ | ⟨b,o,n,sz⟩ <;> rw [hr] at h1 <;> simp only at h1 ⊢
  ·exact h1
  ·exact h1
  ·obtain ⟨c,h2,h3,C,t,h4,h5⟩:=h1
   obtain ⟨C',h6,h7⟩:=hs _ _ _ _ h4
   exact ⟨c,h2,h3,C',t,h6,by omega⟩
theorem rd_live {rt:Rt} {ss:List SV} {a:rt.T × Option Nat × List Nat × List SV} (h:rt.rd H (rt.args ++ ss) = some a):a.2.2.2 = ss ∧ ((rt = .no ∧ a.2.1 = none) ∨ (rt ≠ .no ∧ a.2.1 = some 0 ∧ ∃ x,H[0]? = some x ∧ x ≠ .dead ∧ ∀ K,rt = .arr K → ∃ K' xs t,x = .arr K' xs t ∧ ∀ b o n sz,ρ 0 = .at b o n sz → BRel ρ w b o n sz x → (∀ (hk:rt = .arr K),(hk ▸ a.1:(Rt.arr K).T).length = n))):=by
 cases rt with
 | no =>
  simp only [Rt.rd,Rt.args,List.nil_append,Option.some.injEq] at h
  subst h
  exact ⟨rfl,.inl ⟨rfl,rfl⟩⟩
 | cells i =>
  simp only [Rt.rd,Rt.args,List.cons_append,List.nil_append] at h
  split at h
  ·rename_i cs t z hb
   split at h
   ·split at h
    ·simp only [Option.some.injEq] at h
     subst h
     exact ⟨rfl,.inr ⟨by simp,rfl,_,hb,by simp,by simp⟩⟩
    ·cases h
   ·cases h
  ·cases h
 | arr K =>
  simp only [Rt.rd,Rt.args,List.cons_append,List.nil_append] at h
  split at h
  ·rename_i K' xs t hb
   split at h
   ·rename_i he
    subst he
    simp only [Option.some.injEq] at h
    subst h
    refine ⟨rfl,.inr ⟨by simp,rfl,_,hb,by simp,fun K2 hK => ?_⟩⟩
    cases hK
    refine ⟨_,_,_,rfl,fun b o n sz _ h hk => ?_⟩
    simp only [BRel] at h
    exact h.1
   ·cases h
  ·cases h
 | sl d e =>
  simp only [Rt.rd,Rt.args,List.cons_append,List.nil_append] at h
  split at h
  ·rename_i a' ha
   simp only [Option.some.injEq] at h
   subst h
   refine ⟨rfl,.inr ⟨by simp,rfl,?_⟩⟩
   simp only [readT] at ha
   split at ha
   ·rename_i hb; exact ⟨_,hb,by simp,by simp⟩
   ·rename_i hb; exact ⟨_,hb,by simp,by simp⟩
   ·rename_i hb; exact ⟨_,hb,by simp,by simp⟩
   ·cases ha
  ·cases h
theorem wx_len {B:Nat → Prop} {rt:Rt} {x:rt.T} {us:List Value} {ps:List (Nat × List Nat)} (h:rt.wx w B x us ps):us.length = rt.args.length:=by
 have:=(Rt.wx_sx.1 h).len
 cases rt <;> exact this
theorem Rt.n0_pos {rt:Rt} {x:rt.T} (h:rt ≠ .no):0 < rt.n0 ∧ 0 < (rt.heap x).length:=by
 cases rt with
 | no => exact absurd rfl h
 | cells i => simp [Rt.n0,Rt.heap]
 | arr K => simp [Rt.n0,Rt.heap]
 | sl d e => simp [Rt.n0,Rt.heap]
theorem same_of {rt:Rt} {xa ya:rt.T} {pa qa:List (Nat × List Nat)} (hsl:(∃ d e,rt = .sl d e) → qa.map Prod.fst = pa.map Prod.fst) (harr:∀ K (h:rt = .arr K),(h ▸ ya:(Rt.arr K).T).length = (h ▸ xa:(Rt.arr K).T).length):rt.same xa ya pa qa:=by
 cases rt with
 | no => trivial
 | cells i => trivial
 | arr K => exact harr K rfl
 | sl d e => exact hsl ⟨d,e,rfl⟩
theorem zHw {rt:Rt} {xa:rt.T} {ua:List Value} (hH:HRel ρ (rt.heap xa) w) (hv:VRels ρ w rt.args ua) {K:Kd} (h:rt = .arr K):∃ b o n sz,ρ 0 = .at b o n sz ∧ (h ▸ xa:(Rt.arr K).T).length = n:=by
 subst h
 simp only [Rt.args,VRels,VRel] at hv
 obtain ⟨u,us,rfl,h1,_⟩:=hv
 rcases hr:ρ 0 with _ | _ | _ | ⟨b,o,n,sz⟩ <;> rw [hr] at h1 <;> simp only at h1
 ·have:=hH.dead 0 (by simp [Rt.heap]) hr
  simp [Rt.heap] at this
 ·obtain ⟨x,h2,h3⟩:=hH.at_ 0 (by simp [Rt.heap]) _ _ _ _ hr
  simp only [Rt.heap,List.getElem?_cons_zero,Option.some.injEq] at h2
  subst h2
  simp only [BRel] at h3
  exact ⟨b,o,n,sz,rfl,h3.1⟩
theorem fn_spec {T:Tab} {f:FuncId} {fn:Func} {c:Code} {le:LE} {frz:List Nat} {ann:List Norm} {cuts:List (Nat × Norm)} {ci:C} {j:Nat} {rv:List (Nat × Option (Nat × Bool))} (hT:TabOK P T) (hmix:P.follows .mixedOrders = true)
  (hf:P.funcs[f]? = some fn) (hb:fn.body = some c) (hl:lightC P frz fn.ntmps ann cuts 0 c = some (ci,j)) (ho:okC T c ci = true) (hn:le.rt.args.length + le.D.len ≤ fn.ntmps) (hrv:lightRes P fn.results.toList = some rv) (hy:∀ p,le.ey (le.yb p) = p) (hD:∀ xd,(enX le.D xd 0).2 = []) (hok:le.ok = true)
  (hrun:∀ xa xd y,le.fn (le.xb (xa,xd)) = some y → ∃ Z,le.toLF.go T Z ci rv xa xd = some y):FnSpec P f le:=by
 intro w res ua ud pa xa xd y hres hwa hnd hpl hwd hfy
 refine calls_of_wp hf hb ?_
 obtain ⟨ρ0,er,evl,eat,hfree,hH0,hu0,hva,hborn,hblk⟩:=Rt.start hres hwa hnd hpl
 obtain ⟨m2,hm1,hm2,hvd⟩:=hwd.ent List.nodup_nil 0
 rw [hD] at hm1
 obtain rfl:m2 = []:=List.eq_nil_of_length_eq_zero hm1
 obtain ⟨hvd,-⟩:=hvd ρ0 hfree (fun i m h => by simp at h) (fun p hp => by cases hp)
 have hvs:VRels ρ0 w (le.rt.args ++ (enX le.D xd 0).1) (ua ++ ud):=hva.append hvd
 have hvl:=hvs.length
 have hdl:(enX le.D xd 0).1.length = le.D.len:=by rw [hvd.length,hwd.len]
 rw [List.length_append,hdl] at hvl
 have hat:At P fn.ntmps ρ0 (le.rt.heap xa) w (env0 (le.rt.args ++ (enX le.D xd 0).1) 0) { tmps:=(ua ++ ud).toArray ++ Array.replicate (fn.ntmps - (ua ++ ud).toArray.size) undef,defers:=[] }:=by
  refine ⟨⟨by simp only [Array.size_append,List.size_toArray,Array.size_replicate]; omega,rfl,fun n => ?_⟩,hH0,hu0⟩
  rw [zwp]
  simp only [Nat.zero_le,if_true,Nat.sub_zero]
  split
  ·rename_i s hs
   obtain ⟨u,h1,h2⟩:=hvs.get n s hs
   have:((ua ++ ud).toArray ++ Array.replicate (fn.ntmps - (ua ++ ud).toArray.size) undef).getD n undef = u:=by
    rw [Array.getD_eq_getD_getElem?,Array.getElem?_append_left (by have:=(List.getElem?_eq_some_iff.1 h1).1; simpa using this),List.getElem?_toArray,h1]
    rfl
   rw [this]; exact h2
  ·simp [VRel]
 obtain ⟨Z,hrun'⟩:=hrun xa xd y hfy
 unfold LF.go at hrun'
 refine zHm hT hmix c hl ho hat hrun' fun ex τ' H' ρ' a' w' h1 h2 h3 => ?_
 obtain ⟨ss,ya,g,ia,rest,r1,ir,yr,e1,e2,e3,e4,e5,rfl,hex,hz⟩:∃ ss ya g ia rest r1 ir yr,evalRes τ' H' rv = some ss ∧ le.rt.rd H' le.rt.args = some (ya,g,ia,rest) ∧ rdX H' H' le.R (cond le.al [] ss) = some (r1,ir) ∧ nodupB (ia ++ ir) = true ∧ rdX (kill (ia ++ ir) H') H' le.R (cond le.al [] ss) = some (yr,ir) ∧ y = le.yb (ya,yr) ∧ (ex = .normal ∨ ex = .ret) ∧ (le.al = true → ss = [.own 0]):=by
  unfold endX at h3
  split at h3
  ·cases h3
  ·rename_i hex
   have hex':ex = .normal ∨ ex = .ret:=by
    cases ex with
    | normal => exact .inl rfl
    | ret => exact .inr rfl
    | exit id => exact absurd rfl (hex id)
   split at h3
   ·rename_i ss h4
    obtain ⟨hz,h3⟩:=(zg h3).resolve_left (by simp)
    have hz':le.al = true → ss = [.own 0]:=fun h => by
     rw [h,Bool.true_and] at hz
     unfold ownZ at hz
     split at hz
     ·rfl
     ·simp at hz
    split at h3
    ·rename_i a ha
     obtain ⟨ya,g,ia,rest⟩:=a
     split at h3
     ·rename_i r1 hr1
      obtain ⟨r1,ir⟩:=r1
      obtain ⟨h5,h6⟩:=(zg h3).resolve_right (by simp)
      split at h6
      ·rename_i r hr
       obtain ⟨yr,ir2⟩:=r
       obtain ⟨h7,h8⟩:=(zg h6).resolve_right (by simp)
       have:=eqL_eq h7
       simp only at this
       subst this
       simp only [Option.some.injEq] at h8
       exact ⟨ss,ya,g,ia,rest,r1,_,yr,h4,ha,hr1,h5,hr,h8.symm,hex',hz'⟩
      ·cases h6
     ·cases h3
    ·cases h3
   ·cases h3
 obtain ⟨n1,n2,n3⟩:=List.nodup_append.1 (zeH e4)
 obtain ⟨vs2,h8,h9⟩:=zHu h1.t h1.h hrv e1
 -- the first argument,in the end
 obtain ⟨erest,hcase⟩:=rd_live (ρ:=ρ') (w:=w') (ss:=[]) (by rw [List.append_nil]; exact e2)
 simp only at erest
 subst erest
 have hkeep:le.rt = .no ∨ (ρ' 0 = ρ0 0 ∧ ρ0 0 ≠ .dead):=by
  rcases hcase with ⟨h,_⟩ | ⟨hne,_,x,hx,hxd,_⟩
  ·exact .inl h
  ·refine .inr ?_
   have hn0:=Rt.n0_pos (x:=xa) hne
   rcases h2.ref 0 hn0.1 (hborn 0 hn0.2) with e | e
   ·exact ⟨e,by rw [← e]; exact live_of h1.h hx hxd⟩
   ·exact absurd e (live_of h1.h hx hxd)
 have hva':VRels ρ' w' le.rt.args ua:=zHv (hkeep.imp id And.left) (hkeep.imp id And.right) h2.shape hva
 obtain ⟨ua',ud',qa,eu,_,hwq,hqn,hqt,_,hqno,hqsl,_⟩:=Rt.rd_sound (B:=Free ρ' w') h1.h (fun _ h => h) e2 hva' n1
 have el:ua'.length = ua.length:=by rw [wx_len hwq,wx_len hwa]
 obtain rfl:ua = ua':=by
  have:=congrArg List.length eu
  rw [List.length_append] at this
  rw [eu,List.eq_nil_of_length_eq_zero (l:=ud') (by omega),List.append_nil]
 have hvr:VRels ρ' w' (cond le.al [] ss) (cond le.al [] vs2.toList):=by
  cases le.al with
  | true => simp [VRels]
  | false => exact h9
 obtain ⟨qr,hwr,hrn,hrt⟩:=zi (B:=Bg ρ' w' (ia ++ ir)) h1.h (fun b hb => hb.bg) (fun h5 h6 => zwo h1.h h5 h6) e5 hvr n2
 obtain ⟨hfn,hft⟩:=zb0 h1.h (zeH e4) hqn hrn hqt hrt
 have hB:∀ b,Bg ρ' w' (ia ++ ir) b → Bf w' res (flatF (qa ++ qr)) b:=fun b hb => ⟨hb.1,fun h => hb.2.1 (by rw [h2.res,er]; exact h),fun h => hb.2.2 (hft b h)⟩
 have hpost:a'.defers = [] ∧ ∃ v,(results fn a'.tmps).run P w' = .ok v w' ∧ (fun e w' => ∃ ur qa qr,e = Ending.returned (resU ur) ∧ Kept w w' (flatF pa) ∧ (flatF (qa ++ qr)).Nodup ∧ (∀ b ∈ flatF (qa ++ qr),b < w'.heap.size ∧ (b ∈ flatF pa ∨ w.heap.size ≤ b)) ∧
   le.rt.wx w' (Bf w' res (flatF (qa ++ qr))) (le.ey (le.yb (ya,yr))).1 ua qa ∧ le.rt.same xa (le.ey (le.yb (ya,yr))).1 pa qa ∧ cond le.al (∃ d e u u',le.rt = .sl d e ∧ ua = [u] ∧ ur = #[u'] ∧ Hdr w' e.sz u u' (pa.map Prod.fst) ∧ WX w' (Bf w' res (flatF (qa ++ qr))) le.R (le.ey (le.yb (ya,yr))).2 [] qr) (WX w' (Bf w' res (flatF (qa ++ qr))) le.R (le.ey (le.yb (ya,yr))).2 ur.toList qr)) (Ending.returned v) w':=by
  rw [hy]
  refine ⟨h1.t.2.1,resU vs2,h8,vs2,qa,qr,rfl,⟨h2.os,h2.tape,h2.output,h2.size,fun b hb hn => h2.kept b hb (fun β o n sz h => hn (eat _ _ _ _ _ h)) ?_,h2.shape⟩,hfn,fun b hb => ⟨((hft b hb).nr h1.h).2,?_⟩,Rt.monoB (fun b hb => hB b hb.bg) hwq,?_,?_⟩
  ·cases hv:ρ0.vl b with
   | none => rfl
   | some t => exact absurd (evl b t hv) hn
  ·rcases h2.ours ((hft b hb).ours (w:=w')) with ⟨β,o,n,sz,h⟩ | h | h
   ·exact .inl (eat _ _ _ _ _ h)
   ·exact .inr h
   ·cases hv:ρ0.vl b with
    | none => exact absurd hv h
    | some t => exact .inl (evl b t hv)
  ·refine same_of (fun hs => ?_) fun K hK => ?_
   ·have hne:le.rt ≠ .no:=by obtain ⟨d,e,h⟩:=hs; rw [h]; simp
    rcases hcase with ⟨h,_⟩ | ⟨_,hg,_⟩
    ·exact absurd h hne
    ·obtain ⟨d,e,h⟩:=hs
     rw [(hqsl d e h 0 hg).1,← hblk ⟨d,e,h⟩,(hkeep.resolve_left hne).1]
   ·have hne:le.rt ≠ .no:=by rw [hK]; simp
    obtain ⟨b,o,n,sz,k1,k2⟩:=zHw hH0 hva hK
    rw [k2]
    rcases hcase with ⟨h,_⟩ | ⟨_,_,x,hx,_,harr⟩
    ·exact absurd h hne
    ·obtain ⟨K',xs,t,rfl,harr⟩:=harr K hK
     have hr:ρ' 0 = .at b o n sz:=by rw [(hkeep.resolve_left hne).1]; exact k1
     obtain ⟨y,h3,h4⟩:=h1.h.at_ 0 (List.getElem?_eq_some_iff.1 hx).1 _ _ _ _ hr
     rw [hx] at h3; cases h3
     exact harr _ _ _ _ hr h4 hK
  ·cases hal:le.al with
   | false => rw [hal] at hwr; exact hwr.monoB hB
   | true =>
    rw [hal] at hwr
    simp only [cond_true] at hwr ⊢
    have hz2:=hz hal
    subst hz2
    obtain ⟨u',e6,h10⟩:=h9.single'
    obtain rfl:vs2 = #[u']:=Array.toList_inj.1 (by simpa using e6)
    obtain ⟨d,e,hde⟩:∃ d e,le.rt = .sl d e:=by
     simp only [LE.ok,hal,Bool.not_true,Bool.false_or,Bool.and_eq_true] at hok
     have:=hok.2
     cases hq:le.rt <;> rw [hq] at this <;> first | exact ⟨_,_,rfl⟩ | cases this
    have hne:le.rt ≠ .no:=by rw [hde]; simp
    rcases hcase with ⟨h,_⟩ | ⟨_,hg,_⟩
    ·exact absurd h hne
    ·obtain ⟨_,k2,u,k3,k4⟩:=hqsl d e hde 0 hg
     refine ⟨d,e,u,u',hde,k3,rfl,?_,hwr.monoB hB⟩
     rw [← hblk ⟨d,e,hde⟩,← (hkeep.resolve_left hne).1]
     rcases k2 with k2 | ⟨b,o,n,k2⟩
     ·simp only [VRel,k2] at h10
      rw [k2]; exact h10
     ·simp only [VRel,k2] at h10 k4
      rw [k2]
      obtain ⟨c,g1,g2,g3⟩:=h10
      obtain ⟨c',g4,g5,g6⟩:=k4
      exact ⟨o,n,c',c,g5,g2,g1,g3⟩
 rcases hex with rfl | rfl
 ·exact hpost
 ·exact hpost
end
end Go.Proofs.YtljojacnjjgceaaGreat.Den
namespace Go.Proofs.YtljojacnjjgceaaGreat.Den
open Go Go.RowKit
def teIn:List (Nat × TE) → Nat → List TE
 | [],_ => []
 | (g,te) :: r,f => cond (Nat.beq g f) (te :: teIn r f) (teIn r f)
def methIn:List (Nat × String × Nat) → Nat → String → Option Nat
 | [],_,_ => none
 | (t,m,f) :: r,t',m' => cond (Nat.beq t t' && decide (m = m')) (some f) (methIn r t' m')
def Tab.of (l:List (Nat × TE)) (ms:List (Nat × String × Nat)):Tab:=⟨teIn l,methIn ms,fun _ => none⟩
structure EntryOK (P:Program) (f:Nat) (te:TE):Prop where
 snd:TESound P f te
 fn:∃ fn,P.funcs[f]? = some fn ∧ fn.name ≠ "runtime.NumGoroutine" ∧ fn.body.isSome = true
 ext:te.mono = true → ∀ x y args H v H',te.put x y args H = some (v,H') → ∃ Δ,H' = H ++ Δ
 tch:∀ x y args H v H',te.view args H = some x → te.put x y args H = some (v,H') → H.length ≤ H'.length ∧ ∀ γ,γ < H.length → γ ∉ te.tc args H → H'[γ]? = H[γ]?
def MethOK (P:Program) (t:Nat) (m:String) (f:Nat):Prop:=∀ v args w,(callMethod (.iface t v) m args).run P w = .ok (.enter f (#[v] ++ args)) w
theorem zmA {l:List (Nat × TE)} {f:Nat} {te:TE} (h:te ∈ teIn l f):(f,te) ∈ l:=by
 induction l with
 | nil => simp [teIn] at h
 | cons p r ih =>
  obtain ⟨g,te'⟩:=p
  simp only [teIn] at h
  cases hb:Nat.beq g f with
  | true =>
   rw [hb] at h
   rcases List.mem_cons.1 h with h | h
   ·rw [Nat.eq_of_beq_eq_true hb,h]; simp
   ·exact List.mem_cons_of_mem _ (ih h)
  | false =>
   rw [hb] at h
   exact List.mem_cons_of_mem _ (ih h)
theorem zHx {l:List (Nat × String × Nat)} {t:Nat} {m:String} {f:Nat} (h:methIn l t m = some f):(t,m,f) ∈ l:=by
 induction l with
 | nil => simp [methIn] at h
 | cons p r ih =>
  obtain ⟨t',m',f'⟩:=p
  simp only [methIn] at h
  rcases zg h with ⟨h1,h2⟩ | ⟨_,h2⟩
  ·simp only [Bool.and_eq_true,decide_eq_true_eq] at h1
   simp at h2; subst h2
   rw [Nat.eq_of_beq_eq_true h1.1,h1.2]; simp
  ·exact List.mem_cons_of_mem _ (ih h2)
theorem TabOK.of {P:Program} {l:List (Nat × TE)} {ms:List (Nat × String × Nat)} (h:∀ p ∈ l,EntryOK P p.1 p.2) (hm:∀ p ∈ ms,MethOK P p.1 p.2.1 p.2.2):TabOK P (Tab.of l ms) where
 te f te hte:=(h _ (zmA hte)).snd
 fn f te hte:=(h _ (zmA hte)).fn
 ext f te hte:=(h _ (zmA hte)).ext
 tch f te hte:=(h _ (zmA hte)).tch
 meth t m f hf:=hm _ (zHx hf)
 inl f ie h:=by cases h
theorem EntryOK.le {P:Program} {f:Nat} {le:LE} (hok:le.ok = true) (h:FnSpec P f le) (hf:∃ fn,P.funcs[f]? = some fn ∧ fn.name ≠ "runtime.NumGoroutine" ∧ fn.body.isSome = true):EntryOK P f le.te where
 snd:=zHs hok h
 fn:=hf
 ext hm x y args H v H' hp:=by
  have hrt:le.rt = .no:=by
   simp only [LE.te] at hm
   cases hq:le.rt <;> rw [hq] at hm <;> first | rfl | simp [Rt.wrt] at hm
  simp only [LE.te] at hp
  split at hp
  ·rename_i a ha
   split at hp
   ·rename_i γ hγ
    have:∀ {rt:Rt} {a:rt.T × Option Nat × List Nat × List SV},rt = .no → rt.rd H args = some a → a.2.1 = none:=fun {rt a} h h2 => by
     subst h
     simp only [Rt.rd,Option.some.injEq] at h2
     subst h2; rfl
    rw [this hrt ha] at hγ; cases hγ
   ·simp only [Option.some.injEq,Prod.mk.injEq] at hp
    exact ⟨_,hp.2.symm⟩
  ·cases hp
 tch x y args H v H' _ hp:=by
  simp only [LE.te] at hp ⊢
  split at hp
  ·rename_i a ha
   split at hp
   ·rename_i γ hγ
    simp only [Option.some.injEq,Prod.mk.injEq] at hp
    obtain ⟨_,rfl⟩:=hp
    refine ⟨by simp [zc],fun δ hδ hn => ?_⟩
    simp only [hγ,Option.toList,List.mem_append,List.mem_singleton,not_or] at hn
    rw [List.getElem?_append_left (by simpa [zc] using hδ),List.getElem?_set_ne (fun e => hn.1 e.symm),zj,if_neg (fun h => hn.2 h.1)]
   ·simp only [Option.some.injEq,Prod.mk.injEq] at hp
    obtain ⟨_,rfl⟩:=hp
    exact ⟨by simp,fun δ hδ _ => List.getElem?_append_left hδ⟩
  ·cases hp
def iter {V R:Type} (step:(V → Option R) → V → Option R):Nat → V → Option R
 | 0,_ => none
 | n + 1,v => step (iter step n) v
theorem zHy {V R:Type} {T:Tab} {n0 Z:Nat} {nm:Norm} {c:C} {k:Ex → Env → Heap → Option R} {enc:V → Env × Heap} {step:(V → Option R) → V → Option R}
  (h:∀ (G:Env → Heap → Option R) (v:V),run T n0 Z c (enc v).1 (enc v).2 (loopK n0 nm G k) = step (fun v => G (enc v).1 (enc v).2) v) :
  ∀ n,(fun v => loopN (run T n0 Z c) n0 nm n (enc v).1 (enc v).2 k) = iter step n:=by
 intro n
 induction n with
 | zero => rfl
 | succ n ih =>
  funext v
  show run T n0 Z c (enc v).1 (enc v).2 (loopK n0 nm (fun τ H => loopN (run T n0 Z c) n0 nm n τ H k) k) = step (iter step n) v
  rw [h,ih]
def C.loops:C → Nat
 | .seq a b => a.loops + b.loops
 | .cnd _ a b => a.loops + b.loops
 | .blk _ a => a.loops
 | .loop _ a => a.loops + 1
 | _ => 0
def C.loopAt:C → Nat → Option (Norm × C)
 | .seq a b,i => cond (Nat.blt i a.loops) (a.loopAt i) (b.loopAt (i - a.loops))
 | .cnd _ a b,i => cond (Nat.blt i a.loops) (a.loopAt i) (b.loopAt (i - a.loops))
 | .blk _ a,i => a.loopAt i
 | .loop nm a,i => match i with
  | 0 => some (nm,a)
  | i + 1 => a.loopAt i
 | _,_ => none
def C.nmAt (c:C) (i:Nat):Norm:=match c.loopAt i with | some p => p.1 | none => ⟨[],[],[],[]⟩
def C.bdAt (c:C) (i:Nat):C:=match c.loopAt i with | some p => p.2 | none => .skip
def C.contAt {R:Type} (T:Tab) (n0 Z:Nat) (G:Nat → Env → Heap → Option R):C → Nat → Nat → (Ex → Env → Heap → Option R) → (Ex → Env → Heap → Option R)
 | .seq a b,j,i,k => cond (Nat.blt i a.loops) (a.contAt T n0 Z G j i (seqK (run T n0 Z b) k)) (b.contAt T n0 Z G (j + a.loops) (i - a.loops) k)
 | .cnd _ a b,j,i,k => cond (Nat.blt i a.loops) (a.contAt T n0 Z G j i k) (b.contAt T n0 Z G (j + a.loops) (i - a.loops) k)
 | .blk id a,j,i,k => a.contAt T n0 Z G j i (blkK id k)
 | .loop nm a,j,i,k => match i with
  | 0 => k
  | i + 1 => a.contAt T n0 Z G (j + 1) i (loopK n0 nm (G j) k)
 | _,_,_,k => k
def C.lp {R V:Type} (T:Tab) (n0 Z:Nat) (G:Nat → Env → Heap → Option R) (c:C) (k:Ex → Env → Heap → Option R) (i:Nat) (enc:V → Env × Heap) (v:V):Option R :=
 loopN (run T n0 Z (c.bdAt i)) n0 (c.nmAt i) Z (enc v).1 (enc v).2 (c.contAt T n0 Z G 0 i k)
theorem C.lp_iter {R V:Type} {T:Tab} {n0 Z:Nat} {G:Nat → Env → Heap → Option R} {c:C} {k:Ex → Env → Heap → Option R} {i:Nat} {enc:V → Env × Heap} {step:(V → Option R) → V → Option R}
  (h:∀ (g:Env → Heap → Option R) (v:V),run T n0 Z (c.bdAt i) (enc v).1 (enc v).2 (loopK n0 (c.nmAt i) g (c.contAt T n0 Z G 0 i k)) = step (fun v => g (enc v).1 (enc v).2) v) :
  c.lp T n0 Z G k i enc = iter step Z:=zHy h Z
section
variable {R:Type}
end
noncomputable def bodyOf (f:Func):Code:=match f.body with | some c => c | none => .skip
noncomputable def irOf (P:Program) (f:Func) (frz:List Nat) (ann:List Norm) (cuts:List (Nat × Norm)):C:=match lightC P frz f.ntmps ann cuts 0 (bodyOf f) with | some (c,_) => c | none => .skip
theorem zwq {P:Program} {f:Func} {frz:List Nat} {ann:List Norm} {cuts:List (Nat × Norm)} (h:(lightC P frz f.ntmps ann cuts 0 (bodyOf f)).isSome = true):∃ j,lightC P frz f.ntmps ann cuts 0 (bodyOf f) = some (irOf P f frz ann cuts,j):=by
 unfold irOf
 split
 ·rename_i c j hc; exact ⟨j,hc⟩
 ·rename_i hc; rw [hc] at h; cases h
theorem zwr {f:Func} (h:f.body.isSome = true):f.body = some (bodyOf f):=by
 unfold bodyOf
 split
 ·rename_i c hc; exact hc
 ·rename_i hc; rw [hc] at h; cases h
noncomputable def okCk (P:Program) (fn:Func) (T:Tab) (frz:List Nat) (ann:List Norm) (cuts:List (Nat × Norm)) (n:Nat) (ok:Bool):Bool :=
 fn.body.isSome && !(decide (fn.name = "runtime.NumGoroutine")) && (lightC P frz fn.ntmps ann cuts 0 (bodyOf fn)).isSome && okC T (bodyOf fn) (irOf P fn frz ann cuts) && Nat.ble n fn.ntmps && ok
theorem zws {P:Program} {fn:Func} {T:Tab} {frz:List Nat} {ann:List Norm} {cuts:List (Nat × Norm)} {n:Nat} {ok:Bool} (h:okCk P fn T frz ann cuts n ok = true) :
  fn.body.isSome = true ∧ fn.name ≠ "runtime.NumGoroutine" ∧ (lightC P frz fn.ntmps ann cuts 0 (bodyOf fn)).isSome = true ∧ okC T (bodyOf fn) (irOf P fn frz ann cuts) = true ∧ n ≤ fn.ntmps ∧ ok = true:=by
 simp only [okCk,Bool.and_eq_true,Bool.not_eq_true',decide_eq_false_iff_not,Nat.ble_eq] at h
 obtain ⟨⟨⟨⟨⟨h1,h2⟩,h3⟩,h4⟩,h5⟩,h6⟩:=h
 exact ⟨h1,h2,h3,h4,h5,h6⟩
theorem okF {P:Program} {T:Tab} {f:FuncId} {fn:Func} {le:LE} {frz:List Nat} {ann:List Norm} {cuts:List (Nat × Norm)} {rv:List (Nat × Option (Nat × Bool))} (hT:TabOK P T) (hmix:P.follows .mixedOrders = true) (hf:P.funcs[f]? = some fn)
  (h:okCk P fn T frz ann cuts (le.rt.args.length + le.D.len) le.ok = true) (hrv:lightRes P fn.results.toList = some rv) (hy:∀ p,le.ey (le.yb p) = p) (hD:∀ xd,(enX le.D xd 0).2 = [])
  (hrun:∀ xa xd y,le.fn (le.xb (xa,xd)) = some y → ∃ Z,le.toLF.go T Z (irOf P fn frz ann cuts) rv xa xd = some y):EntryOK P f le.te:=by
 obtain ⟨h1,h2,h3,h4,h5,h6⟩:=zws h
 obtain ⟨j,hj⟩:=zwq h3
 exact EntryOK.le h6 (fn_spec hT hmix hf (zwr h1) hj h4 h5 hrv hy hD h6 hrun) ⟨fn,hf,h2,h1⟩
theorem okS {P:Program} {T:Tab} {f:FuncId} {fn:Func} {le:LE} {frz:List Nat} {ann:List Norm} {cuts:List (Nat × Norm)} {rv:List (Nat × Option (Nat × Bool))} (Z:Nat) (hT:TabOK P T) (hmix:P.follows .mixedOrders = true) (hf:P.funcs[f]? = some fn)
  (h:okCk P fn T frz ann cuts (le.rt.args.length + le.D.len) le.ok = true) (hrv:lightRes P fn.results.toList = some rv) (hy:∀ p,le.ey (le.yb p) = p) (hD:∀ xd,(enX le.D xd 0).2 = [])
  (hrun:∀ xa xd,le.toLF.go T Z (irOf P fn frz ann cuts) rv xa xd = le.fn (le.xb (xa,xd))):EntryOK P f le.te :=
 okF hT hmix hf h hrv hy hD fun xa xd _ e => ⟨Z,(hrun xa xd).trans e⟩
theorem entNil {P:Program}:∀ p ∈ ([]:List (Nat × TE)),EntryOK P p.1 p.2:=fun _ h => nomatch h
theorem entCons {P:Program} {f:Nat} {te:TE} {l:List (Nat × TE)} (h:EntryOK P f te) (t:∀ p ∈ l,EntryOK P p.1 p.2):∀ p ∈ (f,te) :: l,EntryOK P p.1 p.2:=List.forall_mem_cons.2 ⟨h,t⟩
theorem methNil {P:Program}:∀ p ∈ ([]:List (Nat × String × Nat)),MethOK P p.1 p.2.1 p.2.2:=fun _ h => nomatch h
theorem methCons {P:Program} {t:Nat} {m:String} {f:Nat} {l:List (Nat × String × Nat)} (h:MethOK P t m f) (r:∀ p ∈ l,MethOK P p.1 p.2.1 p.2.2):∀ p ∈ (t,m,f) :: l,MethOK P p.1 p.2.1 p.2.2:=List.forall_mem_cons.2 ⟨h,r⟩
end Go.Proofs.YtljojacnjjgceaaGreat.Den
